import Derived.Test.YtaddlmlpeghonaaDoorUBg
set_option linter.unusedSimpArgs false
set_option linter.unusedVariables false
set_option linter.constructorNameAsVariable false
namespace Go.Proofs.YtaddlmlpeghonaaDoor
namespace AM
open Go.RowKit
def putInto (σ : Store) (d : AV) (m : Nat) (size : Nat) (new : List AV) : Option Store :=
 if m = 0 ∨ size = 0 then some σ else
 match d with
 | .os _ sz id ver off _ _ => match Store.at σ id ver with
  | some cs => if sz = size ∧ off + new.length ≤ cs.length ∧ new.all AV.one = true then some (σ.set id (.cells ver (setRun cs off new))) else none
  | none => none
 | _ => none
theorem run_putInto {P : Program} {E : Env} {σ σ' : Store} (hS : SR E σ) {d : AV} {base : Option Addr} {len cap : Nat} (hd : VR E d (.slice base len cap)) {m size : Nat} {new : List AV} {vs : Array Value} (hv : Told E vs new)
 (hl : new.length = m * size) (hm : m ≤ len) (h : putInto σ d m size new = some σ') :
 ∃ E', (match base with | some a => storeCells a vs.toList | none => pure ()).run P E.w = .ok () E'.w ∧ SR E' σ' ∧ Ext E E' := by
 unfold putInto at h
 split at h
 · rename_i h0
   cases h
   have hnil : vs.toList = [] := List.length_eq_zero_iff.1 (by rw [Array.length_toList, hv.1, hl]; rcases h0 with h | h <;> rw [h] <;> simp)
   refine ⟨E, ?_, hS, Ext.refl E⟩
   cases base <;> simp [hnil, storeCells]
 · rename_i h0
   split at h
   · rename_i nl sz id ver off len' tight
     split at h
     · rename_i cs hcs
       split at h
       · rename_i hc
         obtain ⟨c1, c2, c3⟩ := hc
         cases h
         have hnew : new.length ≠ 0 := by rw [hl]; intro e; rcases Nat.mul_eq_zero.1 e with e | e <;> exact h0 (by simp [e])
         cases hd with
         | osn => omega
         | os _ _ _ _ _ _ _ a _ hk hcap ht hB hp =>
          obtain ⟨b, hlo, hb⟩ := hS.block_of hcs (show off < cs.length by omega)
          obtain ⟨b', e1, e2, _⟩ := hp _ hlo
          cases e1
          have := e2.resolve_left (by intro e; apply h0; left; omega)
          subst this
          obtain ⟨E', h1, h2, h3⟩ := run_storeCells_put (P := P) new hS hcs hlo vs.toList off 0 (by omega) (by rw [Array.length_toList]; exact hv.1) (fun k hk => by
           have := hv.2 k hk
           have e : vs.toList.getD k undef = vs.getD k undef := by simp
           rw [e]; exact this) (fun x hx => List.all_eq_true.1 c3 x hx)
          exact ⟨E', h1, by simpa using h2, h3⟩
       · cases h
     · cases h
   · cases h
def evCopy (T : TT) (dt : TypeId) (d s : AV) (σ : Store) : Option (AV × Store) :=
 match T dt with
 | some i => match i.desc with
  | .slice e => match T e with
   | some j => match d with
    | .ds _ _ dlen _ | .os _ _ _ _ _ dlen _ => match srcCells σ j.size s with
     | some (n, new) => match putInto σ d (min n dlen) j.size (new.take (min n dlen * j.size)) with
      | some σ' => some (.int .i64 (min n dlen : Nat), σ')
      | none => none
     | none => none
    | _ => none
   | none => none
  | _ => none
 | none => none
theorem run_evCopy {P : Program} {T : TT} (hT : TOK P T) {E : Env} {σ σ' : Store} (hS : SR E σ) {dt st ty : TypeId} {d s : AV} {vd vs : Value} (hd : VR E d vd) (hs : VR E s vs) {r : AV} (h : evCopy T dt d s σ = some (r, σ')) :
 Out P E (Builtin.copy_ #[dt, st] ty #[vd, vs]) r σ' := by
 unfold evCopy at h
 split at h
 case h_2 => cases h
 rename_i i hi
 split at h
 case h_2 => cases h
 rename_i e hde
 split at h
 case h_2 => cases h
 rename_i j hj
 have main : ∀ base dlen cap, vd = .slice base dlen cap → (match srcCells σ j.size s with
         | some (n, new) => match putInto σ d (min n dlen) j.size (new.take (min n dlen * j.size)) with
          | some σ' => some (AV.int .i64 (min n dlen : Nat), σ')
          | none => none
         | none => none) = some (r, σ') → Out P E (Builtin.copy_ #[dt, st] ty #[vd, vs]) r σ' := by
  intro base dlen cap hvd h
  subst hvd
  split at h
  case h_2 => cases h
  rename_i n new hsrc
  split at h
  case h_2 => cases h
  rename_i σ1 hput
  cases h
  obtain ⟨h1, h2, h3⟩ := run_src (P := P) hS hs hsrc
  obtain ⟨ws, hw, hwt⟩ := h3 (min n dlen) (Nat.min_le_left _ _)
  obtain ⟨E', hr, hS', hx'⟩ := run_putInto (P := P) hS hd hwt (by
   rw [List.length_take, h2]
   exact Nat.min_eq_left (Nat.mul_le_mul_right _ (Nat.min_le_left _ _))) (Nat.min_le_right _ _) hput
  refine ⟨goInt ((min n dlen : Nat) : Int), E', ?_, .int _ _, hS', hx'⟩
  simp only [Builtin.copy_]
  simp only [List.getElem?_toArray, List.getElem?_cons_zero, List.getElem?_cons_succ, Sem.run_bind, zq _ (hT _ _ hi), Result.andThen_ok, hde, h1, run_size _ (hT _ _ hj), Nat.min_def] at hw ⊢
  rw [show (if n ≤ dlen then n else dlen) = min n dlen from rfl] at *
  rw [hw]
  simp only [Result.andThen_ok]
  cases base with
  | none => simp only [Sem.run_pure, Result.ok.injEq, true_and] at hr ⊢; rw [hr]
  | some a => simp only [Sem.run_bind] at hr ⊢; rw [hr]; simp
 split at h
 · cases hd with
   | dsn => exact main _ _ _ rfl h
   | ds => exact main _ _ _ rfl h
 · cases hd with
   | osn => exact main _ _ _ rfl h
   | os => exact main _ _ _ rfl h
 · cases h
def evClear (T : TT) (t : TypeId) (x : AV) (σ : Store) : Option (AV × Store) :=
 match T t with
 | some i => match i.desc with
  | .slice e => match T e with
   | some j => match x with
    | .ds _ _ len _ | .os _ _ _ _ _ len _ =>
     if j.zero.okc = true ∧ j.zero.cells.length = j.size ∧ 0 < j.size then
      match putInto σ x len j.size (zeroRun j.zero.cells (len * j.size)) with
      | some σ' => some (.tup [], σ')
      | none => none
     else none
    | _ => none
   | none => none
  | _ => none
 | none => none
theorem told_zeroCells {E : Env} {zero : AV} {z : Value} (hz : VR E zero z) (ho : zero.okc = true) (hp : 0 < zero.cells.length) (n : Nat) :
 Told E (Builtin.zeroCells z.cells n) (zeroRun zero.cells (n * zero.cells.length)) := by
 have h := told_zero hz ho hp (n * zero.cells.length)
 obtain ⟨hs, _⟩ := hz.cellsOf ho
 unfold Builtin.zeroCells
 rw [hs] at h ⊢
 exact h
theorem run_evClear {P : Program} {T : TT} (hT : TOK P T) {E : Env} {σ σ' : Store} (hS : SR E σ) {t ty : TypeId} {x : AV} {vx : Value} (hx : VR E x vx) {r : AV} (h : evClear T t x σ = some (r, σ')) :
 Out P E (Builtin.clear_ #[t] ty #[vx]) r σ' := by
 unfold evClear at h
 split at h
 case h_2 => cases h
 rename_i i hi
 split at h
 case h_2 => cases h
 rename_i e hde
 split at h
 case h_2 => cases h
 rename_i j hj
 have main : ∀ base len cap, vx = .slice base len cap → (base = none → len = 0) → (if j.zero.okc = true ∧ j.zero.cells.length = j.size ∧ 0 < j.size then
           match putInto σ x len j.size (zeroRun j.zero.cells (len * j.size)) with
           | some σ' => some (AV.tup [], σ')
           | none => none
         else none) = some (r, σ') → Out P E (Builtin.clear_ #[t] ty #[vx]) r σ' := by
  intro base len cap hv hb h
  subst hv
  split at h
  case isFalse => cases h
  rename_i hc
  obtain ⟨c1, c2, c3⟩ := hc
  split at h
  case h_2 => cases h
  rename_i σ1 hput
  cases h
  obtain ⟨z, hz, hzs, hzv⟩ := run_zero (w := E.w) (hT _ _ hj)
  have ht := told_zeroCells (E := E) (hzv E) c1 (by omega) len
  rw [c2] at ht
  obtain ⟨E', hr, hS', hx'⟩ := run_putInto (P := P) hS hx ht (by simp [zeroRun]) (Nat.le_refl _) hput
  refine ⟨.tuple #[], E', ?_, .tup [] #[] rfl (fun i h => absurd h (by simp)), hS', hx'⟩
  simp only [Builtin.clear_]
  simp only [List.getElem?_toArray, List.getElem?_cons_zero, Sem.run_bind, zq _ (hT _ _ hi), Result.andThen_ok, hde]
  cases base with
  | none =>
   have := hb rfl
   subst this
   simp only [Sem.run_pure, Result.ok.injEq, true_and] at hr ⊢
   rw [hr]
  | some a =>
   by_cases hl : len = 0
   · subst hl
     have : (Builtin.zeroCells z.cells 0).toList = [] := by simp [Builtin.zeroCells]
     simp only [this, storeCells, Sem.run_pure, Result.ok.injEq, true_and] at hr ⊢
     rw [hr]
   · obtain ⟨k, rfl⟩ : ∃ k, len = k + 1 := ⟨len - 1, by omega⟩
     simp only [Sem.run_bind, hz, Result.andThen_ok] at hr ⊢
     rw [hr]; simp
 split at h
 · cases hx with
   | dsn => exact main _ _ _ rfl (fun _ => rfl) h
   | ds => exact main _ _ _ rfl (fun h => by cases h) h
 · cases hx with
   | osn => exact main _ _ _ rfl (fun _ => rfl) h
   | os => exact main _ _ _ rfl (fun h => by cases h) h
 · cases h
def evMax2 : AV → AV → Option AV
 | .int k x, .int _ y => some (.int k (if x < y then y else x))
 | _, _ => none
def evMin2 : AV → AV → Option AV
 | .int k x, .int _ y => some (.int k (if y < x then y else x))
 | _, _ => none
def foldO (f : AV → AV → Option AV) : AV → List AV → Option AV
 | x, [] => some x
 | x, y :: l => match f x y with
  | some z => foldO f z l
  | none => none
def evFold (f : AV → AV → Option AV) : List AV → Option AV
 | [] => none
 | x :: l => foldO f x l
theorem run_foldO {P : Program} {E : Env} {f : AV → AV → Option AV} {g : Value → Value → Sem Value} (hf : ∀ x y z vx vy, VR E x vx → VR E y vy → f x y = some z → ∃ vz, (g vx vy).run P E.w = .ok vz E.w ∧ VR E z vz) :
 ∀ (l : List AV) (vl : List Value) (x : AV) (vx : Value) (r : AV), vl.length = l.length → (∀ i, i < l.length → VR E (gc l i) (vl.getD i undef)) → VR E x vx → foldO f x l = some r →
  ∃ v, (vl.foldlM g vx).run P E.w = .ok v E.w ∧ VR E r v := by
 intro l
 induction l with
 | nil =>
  intro vl x vx r hl hv hx h
  have : vl = [] := List.length_eq_zero_iff.1 hl
  subst this
  cases h
  exact ⟨vx, by simp, hx⟩
 | cons y l ih =>
  intro vl x vx r hl hv hx h
  cases vl with
  | nil => simp at hl
  | cons vy vl =>
   simp only [foldO] at h
   split at h
   · rename_i z hz
     have hy : VR E y vy := by have := hv 0 (by simp); simpa [gc] using this
     obtain ⟨vz, h1, h2⟩ := hf _ _ _ _ _ hx hy hz
     obtain ⟨v, h3, h4⟩ := ih vl z vz r (by simpa using hl) (fun i h => by have := hv (i + 1) (by simp; omega); simpa [gc] using this) h2 h
     exact ⟨v, by simp [List.foldlM_cons, h1, h3], h4⟩
   · cases h
def ListR (E : Env) (l : List AV) (vl : List Value) : Prop := vl.length = l.length ∧ ∀ i, i < l.length → VR E (gc l i) (vl.getD i undef)
theorem run_evMax {P : Program} {E : Env} {σ : Store} (hS : SR E σ) {l : List AV} {vl : Array Value} (hl : ListR E l vl.toList) {ats : Array TypeId} {ty : TypeId} {r : AV} (h : evFold evMax2 l = some r) : Out P E (Builtin.max_ ats ty vl) r σ := by
 obtain ⟨h1, h2⟩ := hl
 cases l with
 | nil => cases h
 | cons x l =>
  unfold Builtin.max_
  generalize vl.toList = ws at *
  cases ws with
  | nil => simp at h1
  | cons vx ws =>
   obtain ⟨v, h3, h4⟩ := run_foldO (P := P) (E := E) (f := evMax2) (g := Builtin.max2) (fun x y z vx vy hx hy hz => by
    unfold evMax2 at hz
    split at hz
    · cases hz; cases hx; cases hy
      exact ⟨_, rfl, .int _ _⟩
    · cases hz) l ws x vx r (by simpa using h1) (fun i h => by have := h2 (i + 1) (by simp; omega); simpa [gc] using this) (by have := h2 0 (by simp); simpa [gc] using this) h
   exact .same hS h3 h4
theorem run_evMin {P : Program} {E : Env} {σ : Store} (hS : SR E σ) {l : List AV} {vl : Array Value} (hl : ListR E l vl.toList) {ats : Array TypeId} {ty : TypeId} {r : AV} (h : evFold evMin2 l = some r) : Out P E (Builtin.min_ ats ty vl) r σ := by
 obtain ⟨h1, h2⟩ := hl
 cases l with
 | nil => cases h
 | cons x l =>
  unfold Builtin.min_
  generalize vl.toList = ws at *
  cases ws with
  | nil => simp at h1
  | cons vx ws =>
   obtain ⟨v, h3, h4⟩ := run_foldO (P := P) (E := E) (f := evMin2) (g := Builtin.min2) (fun x y z vx vy hx hy hz => by
    unfold evMin2 at hz
    split at hz
    · cases hz; cases hx; cases hy
      exact ⟨_, rfl, .int _ _⟩
    · cases hz) l ws x vx r (by simpa using h1) (fun i h => by have := h2 (i + 1) (by simp; omega); simpa [gc] using this) (by have := h2 0 (by simp); simpa [gc] using this) h
   exact .same hS h3 h4
def unb : AV → Option UInt8
 | .int .u8 n => some (UInt8.ofNat n.toNat)
 | _ => none
def unbs : List AV → Option (List UInt8)
 | [] => some []
 | x :: l => match unb x, unbs l with
  | some b, some r => some (b :: r)
  | _, _ => none
theorem unbs_bys (l : List UInt8) : unbs (bys l) = some l := by
 induction l with
 | nil => rfl
 | cons b l ih =>
  have : bys (b :: l) = .int .u8 b.toNat :: bys l := rfl
  rw [this]
  simp [unbs, unb, ih]
def evConv (T : TT) (src dst : TypeId) (x : AV) (σ : Store) : Option (AV × Store) :=
 match T src, T dst with
 | some i, some k =>
  match k.desc, x with
  | .int q, .int _ n => some (.int q (q.wrap n), σ)
  | .string, .str s => some (.str s, σ)
  | .slice e, .str s => match T e with
   | some j => match j.desc with
    | .int .u8 => if s.length ≤ 9223372036854775807 ∧ j.size = 1 then some (.os true 1 σ.length 0 0 s.length false, σ ++ [.cells 0 (bys s)]) else none
    | _ => none
   | none => none
  | .string, .ds nl cells len t => match i.desc with
   | .slice e => match T e with
    | some j => match j.desc, srcCells σ 1 (.ds nl cells len t) with
     | .int .u8, some (_, cs) => (unbs cs).map fun l => (.str l, σ)
     | _, _ => none
    | none => none
   | _ => none
  | .string, .os nl sz id ver off len t => match i.desc with
   | .slice e => match T e with
    | some j => match j.desc, srcCells σ 1 (.os nl sz id ver off len t) with
     | .int .u8, some (_, cs) => (unbs cs).map fun l => (.str l, σ)
     | _, _ => none
    | none => none
   | _ => none
  | .slice e, .os nl sz id ver off len t => match i.desc with
   | .slice _ => if src = dst then match T e with
    | some j => match j.desc, Store.at σ id ver with
     | .int .u8, some cs => if off < cs.length ∧ 0 < len ∧ sz = 1 then some (.os nl sz id ver off len t, σ) else none
     | _, _ => none
    | none => none
    else none
   | _ => none
  | _, _ => none
 | _, _ => none
theorem run_bytesOf {P : Program} {E : Env} {f : Value → ByteArray → Sem (ForInStep ByteArray)} (hf : ∀ n s, (f (.int .u8 n) s).run P E.w = .ok (.yield (s.push (UInt8.ofNat n.toNat))) E.w) (vs : List Value) :
 ∀ (cs : List AV) (l : List UInt8) (acc : ByteArray), vs.length = cs.length → (∀ i, i < cs.length → VR E (gc cs i) (vs.getD i undef)) → unbs cs = some l → (forIn vs acc f).run P E.w = .ok (⟨acc.data ++ l.toArray⟩) E.w := by
 induction vs with
 | nil =>
  intro cs l acc hl hv h
  have : cs = [] := List.length_eq_zero_iff.1 hl.symm
  subst this
  cases h
  simp
 | cons v vs ih =>
  intro cs l acc hl hv h
  cases cs with
  | nil => simp at hl
  | cons c cs =>
   simp only [unbs] at h
   split at h
   · rename_i b r h1 h2
     cases h
     have hc : VR E c v := by have := hv 0 (by simp); simpa [gc] using this
     unfold unb at h1
     split at h1
     · cases h1
       cases hc
       rw [List.forIn_cons]
       simp only [Sem.run_bind, hf, Result.andThen_ok]
       rw [ih cs r _ (by simpa using hl) (fun i hi => by
        have := hv (i + 1) (by simp; omega)
        simpa [gc] using this) h2]
       simp [ByteArray.push]
     · cases h1
   · cases h
theorem run_b2s {P : Program} {E : Env} {σ : Store} (hS : SR E σ) {x : AV} {vx : Value} (hx : VR E x vx) (hsl : ∃ a n c, vx = .slice a n c ∧ (a = none → n = 0)) {n : Nat} {cs : List AV} (h : srcCells σ 1 x = some (n, cs)) {l : List UInt8} (hl : unbs cs = some l) :
 Out P E (Conv.bytesToString vx) (.str l) σ := by
 obtain ⟨h1, h2, h3⟩ := run_src (P := P) hS hx h
 obtain ⟨vs, hv, ht⟩ := h3 n (Nat.le_refl _)
 rw [List.take_of_length_le (by omega)] at ht
 obtain ⟨a, n', c, rfl, hnil⟩ := hsl
 have hn : n' = n := by simpa [Builtin.lenOf] using h1
 subst hn
 cases a with
 | none =>
  have := hnil rfl
  subst this
  have : cs = [] := List.length_eq_zero_iff.1 (by omega)
  subst this
  cases hl
  exact .same hS (cv := .string .empty) rfl (.str _ _ rfl)
 | some a =>
  refine .same hS (cv := .string ⟨l.toArray⟩) ?_ (.str _ _ rfl)
  have hv' : (loadCells a n').run P E.w = .ok vs E.w := by simpa [Builtin.firstCells] using hv
  simp only [Conv.bytesToString, Sem.run_bind, hv', Result.andThen_ok]
  rw [← Array.forIn_toList, run_bytesOf (P := P) (E := E) (fun n s => by simp) vs.toList cs l ByteArray.empty (by rw [Array.length_toList]; exact ht.1) (fun i hi => by have := ht.2 i hi; simpa using this) hl]
  simp
theorem heap_freeze_same {w : World} {b o n : Nat} {conc : Array Value} {t : TypeId} {fr : Nat × Nat} (hn : n ≠ 0) (h : w.heap[b]? = some (.cells conc t fr)) :
 (w.freeze ⟨b, o, none⟩ n).heap[b]? = some (.cells conc t (if fr.1 == fr.2 then (o, o + n) else (min fr.1 o, max fr.2 (o + n)))) := by
 obtain ⟨lo, hi⟩ := fr
 simp [World.freeze, hn, Array.getElem?_modify, h]
theorem heap_freeze_other {w : World} {b b' o n : Nat} (h : b' ≠ b) : (w.freeze ⟨b, o, none⟩ n).heap[b']? = w.heap[b']? := by
 unfold World.freeze
 split
 · rfl
 · simp only [Array.getElem?_modify]
   rw [if_neg (fun e => h e.symm)]
theorem shape_freeze (w : World) (b o n b' : Nat) : (w.freeze ⟨b, o, none⟩ n).shape? b' = w.shape? b' := by
 by_cases hn : n = 0
 · subst hn; simp [World.freeze]
 by_cases hb : b' = b
 · subst hb
   cases h : w.heap[b']? with
   | none =>
    have : (w.freeze ⟨b', o, none⟩ n).heap[b']? = none := by simp [World.freeze, hn, Array.getElem?_modify, h]
    simp only [World.shape?, h, this]
   | some x =>
    cases x with
    | cells c t fr => simp only [World.shape?, h, heap_freeze_same hn h]
    | _ =>
     have : (w.freeze ⟨b', o, none⟩ n).heap[b']? = w.heap[b']? := by simp [World.freeze, hn, Array.getElem?_modify, h]
     simp only [World.shape?, this]
 · simp only [World.shape?, heap_freeze_other hb]
theorem SR.freezeEnd {E : Env} {σ : Store} (hS : SR E σ) {id ver b : Nat} {cs : List AV} (hcs : Store.at σ id ver = some cs) (hl : E.loc id = some (ver, some b)) {t : TypeId} {m : Nat} (hm : E.w.shape? b = some (t, m)) (hts : tsize t = 1) :
 SR { E with w := E.w.freeze ⟨b, m, none⟩ 1 } σ ∧ Ext E { E with w := E.w.freeze ⟨b, m, none⟩ 1 } := by
 have hb := hS.blk _ _ _ hl
 have hsz : (E.w.freeze ⟨b, m, none⟩ 1).heap.size = E.w.heap.size := by simp [World.freeze]
 have hx : Ext E { E with w := E.w.freeze ⟨b, m, none⟩ 1 } := {
  os := rfl
  tape := rfl
  output := rfl
  size := by rw [hsz]; exact Nat.le_refl _
  shape := fun b' q h => by rw [shape_freeze]; exact h
  st := fun b' h => ⟨h, heap_freeze_other (fun e => hb.2 (e ▸ h))⟩
  n := Nat.le_refl _
  loc := fun _ _ v o h => ⟨v, o, h, Nat.le_refl _, fun _ => rfl⟩
  old := fun b' _ hn => heap_freeze_other (fun e => by subst e; exact hn _ _ hl)
  own := fun id v _ h _ => ⟨id, v, h⟩
  stn := fun _ h => .inl h }
 refine ⟨⟨hS.len, fun i => ?_, hS.inj, fun i v b' h => ⟨by rw [hsz]; exact (hS.blk i v b' h).1, (hS.blk i v b' h).2⟩, fun b' h => by rw [hsz]; exact hS.stb b' h, hS.glb.mono hx.st⟩, hx⟩
 by_cases hi : i = id
 · subst hi
   rw [Store.at_some hcs]
   rcases hS.at hcs with ⟨b', h1, h2⟩ | ⟨_, h1⟩
   · rw [hl] at h1; cases h1
     obtain ⟨conc, t', fr, a1, a2, a3, a4⟩ := h2.blk
     have hcm : conc.size = m := by simp only [World.shape?, a1, Option.some.injEq, Prod.mk.injEq] at hm; exact hm.2
     refine .inl ⟨b, hl, conc, t', _, heap_freeze_same (by decide) a1, .inr ⟨?_, ?_⟩, a3, fun k hk => (a4 k hk).ext hx⟩
     · by_cases he : fr.1 = fr.2
       · rw [if_pos (by rw [he]; simp)]; simp only; omega
       · rw [if_neg (by simpa using he)]; simp only; have := (a2.resolve_left he).1; omega
     · simp only [World.shape?, a1, Option.some.injEq, Prod.mk.injEq] at hm; rw [hm.1]; exact hts
   · rw [hl] at h1; cases h1
 · exact (hS.obj i).ext hx rfl fun v b' h => heap_freeze_other (fun e => hi (hS.inj i id v ver b (e ▸ h) hl))
theorem told_bytes (E : Env) (s : ByteArray) : Told E (s.data.map fun b => .int .u8 b.toNat) (bys s.data.toList) := by
 refine ⟨by simp [length_bys], fun i hi => ?_⟩
 have hi' : i < s.data.toList.length := by simpa [length_bys] using hi
 rw [gc_bys _ _ hi']
 have h2 : i < s.data.size := by rw [Array.length_toList] at hi'; exact hi'
 have : (s.data.map fun b => Value.int .u8 b.toNat).getD i undef = .int .u8 (s.data.toList[i]).toNat := by
  simp only [Array.getD_eq_getD_getElem?, Array.getElem?_map, Array.getElem?_eq_getElem h2, Option.map_some, Option.getD_some]
  simp
 rw [this]; exact .int _ _
theorem run_s2b {P : Program} {E : Env} {σ : Store} (hS : SR E σ) (s : ByteArray) (e : TypeId) (hts : tsize e = 1) (hlB : s.data.toList.length ≤ 9223372036854775807) : Out P E (Conv.stringToBytes e s) (.os true 1 σ.length 0 0 s.data.toList.length false) (σ ++ [.cells 0 (bys s.data.toList)]) := by
 obtain ⟨hS1, hx1⟩ := hS.grew (Grew.drew E.w)
 have hcap : s.size ≤ (Question.appendCap s.size 0 e).cut (E.w.tape E.w.drawn (.appendCap s.size 0 e)) := by simp only [Question.cut]; omega
 generalize hc : (Question.appendCap s.size 0 e).cut (E.w.tape E.w.drawn (.appendCap s.size 0 e)) = cap at hcap
 have ht := told_bytes { E with w := E.w.drew } s
 have hmore := Told.more (ws := Array.replicate (cap - s.size) (.int .u8 0)) ht
 obtain ⟨A, hA⟩ : ∃ A, A = s.data.map (fun b => Value.int .u8 b.toNat) ++ Array.replicate (cap - s.size) (Value.int .u8 0) := ⟨_, rfl⟩
 rw [← hA] at hmore
 obtain ⟨hS2, hx2⟩ := hS1.newRow A e _ hmore.1 hmore.2
 have hsl : s.data.toList.length = s.size := by rw [Array.length_toList]; rfl
 have hlen : A.size = cap := by
  rw [hA]
  simp only [Array.size_append, Array.size_map, Array.size_replicate]
  have : s.data.size = s.size := rfl
  omega
 have hnew := heap_push_new E.w.drew (.cells A e)
 have hsh : (E.w.drew.alloc (.cells A e)).shape? E.w.heap.size = some (e, cap) := by
  simp only [World.shape?]
  rw [show E.w.heap.size = E.w.drew.heap.size from rfl, hnew]
  simp only [hlen]
 have hloc := Env.loc_new (E := { E with w := E.w.drew }) hS1 (E.w.drew.alloc (.cells A e)) (some E.w.drew.heap.size)
 obtain ⟨hS3, hx3⟩ := hS2.freezeEnd (Store.at_new σ 0 _) hloc hsh hts
 refine ⟨.slice (some ⟨E.w.heap.size, 0, none⟩) s.size cap, _, ?_, ?_, hS3, (hx1.trans hx2).trans hx3⟩
 · simp only [Conv.stringToBytes, Sem.run_bind, run_choose, Question.forced, Bool.false_eq_true, if_false, World.drew_eq, Result.andThen_ok, Go.newRow, run_newObj, Sem.run_pure, hc, World.alloc_eq, markStringish, run_shape]
   rw [← hA]
   rw [show E.w.drew.heap.size = E.w.heap.size from rfl, hsh]
   simp only [run_freeze, Result.andThen_ok]
   rfl
 · rw [hsl]
   refine .os _ _ _ _ _ _ _ _ _ ((Env.ok_new hS1 _ _).ext hx3) hcap (fun e => by cases e) hlB fun ob hob => ?_
   have : some (0, ob) = some (0, some E.w.heap.size) := by rw [← hob]; exact hloc
   cases this
   exact ⟨_, rfl, .inr rfl, e, cap, hx3.shape _ _ hsh, hts, by omega⟩
theorem run_evConv {P : Program} {T : TT} (hT : TOK P T) {E : Env} {σ σ' : Store} (hS : SR E σ) {src dst : TypeId} {x : AV} {vx : Value} (hx : VR E x vx) {r : AV} (h : evConv T src dst x σ = some (r, σ')) :
 Out P E (Go.convert src dst vx) r σ' := by
 unfold evConv at h
 split at h
 case h_2 => cases h
 rename_i i k hi hk
 have u1 := zq E.w (hT _ _ hi)
 have u2 := zq E.w (hT _ _ hk)
 split at h
 · rename_i q kk n hd
   cases h
   cases hx
   refine .same hS (cv := .int q (q.wrap n)) ?_ (.int _ _)
   simp only [Go.convert, Sem.run_bind, u1, u2, Result.andThen_ok, hd]
   rfl
 · rename_i s hd
   cases h
   have hx' := hx
   cases hx with | str _ b hb =>
   refine .same hS (cv := .string b) ?_ hx'
   simp only [Go.convert, Sem.run_bind, u1, u2, Result.andThen_ok, hd]
   rfl
 · rename_i e s hd
   split at h
   · rename_i j hj
     split at h
     · rename_i hjd
       split at h
       · rename_i hlB
         cases h
         cases hx with | str _ b hb =>
         subst hb
         have := run_s2b (P := P) hS b e ((hT _ _ hj).ts.trans hlB.2) hlB.1
         obtain ⟨cv, E', h1, h2, h3, h4⟩ := this
         refine ⟨cv, E', ?_, h2, h3, h4⟩
         simp only [Go.convert, Sem.run_bind, u1, u2, Result.andThen_ok, hd, zq _ (hT _ _ hj), hjd]
         exact h1
       · cases h
     · cases h
   · cases h
 · rename_i nl cells len t hd
   split at h
   · rename_i e hid
     split at h
     · rename_i j hj
       split at h
       · rename_i q cs hjd hsrc
         cases hu : unbs cs with
         | none => rw [hu] at h; cases h
         | some l =>
          rw [hu] at h; cases h
          have hsl : ∃ a n c, vx = .slice a n c ∧ (a = none → n = 0) := by
           cases hx with
           | dsn => exact ⟨_, _, _, rfl, fun _ => rfl⟩
           | ds => exact ⟨_, _, _, rfl, fun h => by cases h⟩
          obtain ⟨cv, E', h1, h2, h3, h4⟩ := run_b2s (P := P) hS hx hsl hsrc hu
          refine ⟨cv, E', ?_, h2, h3, h4⟩
          obtain ⟨a, n, c, rfl, _⟩ := hsl
          simp only [Go.convert, Sem.run_bind, u1, u2, Result.andThen_ok, hd, hid, zq _ (hT _ _ hj), hjd]
          exact h1
       · cases h
     · cases h
   · cases h
 · rename_i nl sz id ver off len t hd
   split at h
   · rename_i e hid
     split at h
     · rename_i j hj
       split at h
       · rename_i q cs hjd hsrc
         cases hu : unbs cs with
         | none => rw [hu] at h; cases h
         | some l =>
          rw [hu] at h; cases h
          have hsl : ∃ a n c, vx = .slice a n c ∧ (a = none → n = 0) := by
           cases hx with
           | osn => exact ⟨_, _, _, rfl, fun _ => rfl⟩
           | os => exact ⟨_, _, _, rfl, fun h => by cases h⟩
          obtain ⟨cv, E', h1, h2, h3, h4⟩ := run_b2s (P := P) hS hx hsl hsrc hu
          refine ⟨cv, E', ?_, h2, h3, h4⟩
          obtain ⟨a, n, c, rfl, _⟩ := hsl
          simp only [Go.convert, Sem.run_bind, u1, u2, Result.andThen_ok, hd, hid, zq _ (hT _ _ hj), hjd]
          exact h1
       · cases h
     · cases h
   · cases h
 · rename_i e nl sz id ver off len t hd
   split at h
   · rename_i e' hid
     split at h
     · rename_i heq
       subst heq
       split at h
       · rename_i j hj
         split at h
         · rename_i cs hjd hcs
           split at h
           · rename_i hoff
             cases h
             have hx' := hx
             cases hx with
             | osn => omega
             | os _ _ _ _ _ _ _ a cap hok hc ht hB hp =>
             obtain ⟨b, hl, hb⟩ := hS.block_of hcs hoff.1
             obtain ⟨b', e1, e2, t', m, hm, hts, hle⟩ := hp _ hl
             cases e1
             have ha : a.block = b := by rw [e2.resolve_left (by omega)]
             have hbk : ∀ w : World, (markStringish a).run P w = (match w.shape? a.block with | some (_, n) => .ok () (w.freeze ⟨a.block, n, none⟩ 1) | none => .ok () w) := fun w => by
              simp only [markStringish, Sem.run_bind, run_shape, Result.andThen_ok]
              cases w.shape? a.block with
              | none => rfl
              | some p => obtain ⟨x, y⟩ := p; rfl
             obtain ⟨hS3, hx3⟩ := hS.freezeEnd hcs hl hm (hts.trans hoff.2.2)
             refine ⟨.slice (some a) len cap, _, ?_, hx'.ext hx3, hS3, hx3⟩
             have hik : i = k := by rw [hi] at hk; cases hk; rfl
             subst hik
             have : e' = e := by rw [hd] at hid; cases hid; rfl
             subst this
             simp only [Go.convert, Sem.run_bind, u1, Result.andThen_ok, hd, beq_self_eq_true]
             simp only [zq _ (hT _ _ hj), Result.andThen_ok, hjd, Sem.run_bind, hbk, ha, hm]
             rfl
           · cases h
         · cases h
       · cases h
     · cases h
   · cases h
 · cases h
def evIface (T : TT) (t : TypeId) (x : AV) : Option AV :=
 match T t with
 | some i => match i.desc with
  | .interface _ => none
  | _ => some (.ifc t x)
 | none => none
theorem run_evIface {P : Program} {T : TT} (hT : TOK P T) {E : Env} {σ : Store} (hS : SR E σ) {t : TypeId} {x : AV} {vx : Value} (hx : VR E x vx) {r : AV} (h : evIface T t x = some r) : Out P E (Instr.makeInterface t vx) r σ := by
 unfold evIface at h
 split at h
 · rename_i i hi
   split at h
   · cases h
   · rename_i hne
     cases h
     refine .same hS (cv := .iface t vx) ?_ (.ifc _ _ _ hx)
     simp only [Instr.makeInterface, Sem.run_bind, zq _ (hT _ _ hi), Result.andThen_ok]
     cases hd : i.desc <;> first | rfl | exact absurd hd (hne _)
 · cases h
def assertIn (zero x : AV) (asserted : TypeId) (ok : Bool) : Option AV :=
 match x with
 | .ifc t v => if t = asserted then some (if ok then .tup [v, .bool true] else v) else if ok then some (.tup [zero, .bool false]) else none
 | .nilI => if ok then some (.tup [zero, .bool false]) else none
 | _ => none
def TypeDesc.isIface : TypeDesc → Bool
 | .interface _ => true
 | _ => false
def evAssert (T : TT) (x : AV) (asserted : TypeId) (ok : Bool) : Option AV :=
 match T asserted with
 | some i => if TypeDesc.isIface i.desc then none else assertIn i.zero x asserted ok
 | none => none
theorem VR.tup2 {E : Env} {a b : AV} {va vb : Value} (ha : VR E a va) (hb : VR E b vb) : VR E (.tup [a, b]) (.tuple #[va, vb]) := by
 refine .tup _ _ rfl fun i hi => ?_
 match i, hi with
 | 0, _ => exact ha
 | 1, _ => exact hb
theorem run_evAssert {P : Program} {T : TT} (hT : TOK P T) {E : Env} {σ : Store} (hS : SR E σ) {x : AV} {vx : Value} (hx : VR E x vx) {xt asserted : TypeId} {ok : Bool} {r : AV} (h : evAssert T x asserted ok = some r) :
 Out P E (Instr.typeAssert vx xt asserted ok) r σ := by
 unfold evAssert at h
 split at h
 case h_2 => cases h
 rename_i i hi
 split at h
 · cases h
 rename_i hnif
 have hne : ∀ ms, i.desc ≠ .interface ms := by
  intro ms hd
  rw [hd] at hnif
  exact hnif rfl
 obtain ⟨z, hz, hzs, hzv⟩ := run_zero (w := E.w) (hT _ _ hi)
 unfold assertIn at h
 split at h
 · rename_i t v
   cases hx with | ifc _ _ cv hv =>
   split at h
   · rename_i ht
     subst ht
     cases h
     cases ok with
     | true =>
      refine .same hS (cv := .tuple #[cv, .bool true]) ?_ (.tup2 hv (.bool _))
      simp only [Instr.typeAssert, Sem.run_bind, zq _ (hT _ _ hi), Result.andThen_ok]
      cases hd : i.desc <;> first | exact absurd hd (hne _) | simp
     | false =>
      refine .same hS (cv := cv) ?_ hv
      simp only [Instr.typeAssert, Sem.run_bind, zq _ (hT _ _ hi), Result.andThen_ok]
      cases hd : i.desc <;> first | exact absurd hd (hne _) | simp
   · rename_i ht
     split at h
     · rename_i hok
       subst hok
       cases h
       refine .same hS (cv := .tuple #[z, .bool false]) ?_ (.tup2 (hzv E) (.bool _))
       simp only [Instr.typeAssert, Sem.run_bind, zq _ (hT _ _ hi), Result.andThen_ok]
       cases hd : i.desc <;> first | exact absurd hd (hne _) | simp [ht, hz]
     · cases h
 · cases hx
   split at h
   · rename_i hok
     subst hok
     cases h
     refine .same hS (cv := .tuple #[z, .bool false]) ?_ (.tup2 (hzv E) (.bool _))
     simp only [Instr.typeAssert, Sem.run_bind, zq _ (hT _ _ hi), Result.andThen_ok]
     cases hd : i.desc <;> first | exact absurd hd (hne _) | simp [hz]
   · cases h
 · cases h
end AM
end Go.Proofs.YtaddlmlpeghonaaDoor
