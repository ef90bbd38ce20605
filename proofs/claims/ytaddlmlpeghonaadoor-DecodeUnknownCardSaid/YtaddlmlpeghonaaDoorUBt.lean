import Derived.Test.YtaddlmlpeghonaaDoorUBs
import Derived.ChangeMaps4
set_option linter.unusedSimpArgs false
set_option linter.unusedVariables false
set_option linter.constructorNameAsVariable false
namespace Go.Proofs.YtaddlmlpeghonaaDoor
namespace AM
open Go.RowKit
section
variable {P : Program} {T : TT} (hT : TOK P T)
include hT
theorem run_checkKeyA {E : Env} (em : Bool) : ∀ (f : Nat) (t : TypeId) (i : TI) (l : List TypeDesc), cellsD T f t = some l → T t = some i → ∀ (x : AV) (vx : Value) (cs : List AV), VR E x vx → shaped i x cs →
 ∀ d, (Instr.checkKey em (d + f) t vx).run P E.w = .ok () E.w := by
 intro f
 induction f with
 | zero => intro t i l h; cases h
 | succ f ih =>
  intro t i l h hi x vx cs hx sx d
  have ht := hT _ _ hi
  rw [show d + (f + 1) = (d + f) + 1 by omega]
  have step : ∀ (e : TypeId) (j : TI) (m : List TypeDesc) (off : Nat) (cs : List AV) (xs : Array Value), cellsD T f e = some m → T e = some j → xs.size = cs.length →
   (∀ i, i < cs.length → VR E (gc cs i) (xs.getD i undef)) → off + j.size ≤ cs.length →
   ∃ a, (part e xs off).run P E.w = .ok a E.w ∧ (Instr.checkKey em (d + f) e a).run P E.w = .ok () E.w := by
   intro e j m off cs xs hm hj hxs hvx h1
   have hsz := cellsD_size f e j m hm hj
   obtain ⟨a, ha, sa⟩ := evRd_shaped hsz.2 h1
   obtain ⟨va, ra, rva⟩ := run_part (hT _ _ hj) hxs hvx ha
   exact ⟨va, ra, ih e j m hm hj a va _ rva sa d⟩
  simp only [cellsD, hi] at h
  unfold Instr.checkKey
  simp only [Sem.run_bind, zq _ ht, Result.andThen_ok]
  split at h
  · rename_i hd; simp [hd]
  · rename_i hd; simp [hd]
  · rename_i hd; simp [hd]
  · rename_i fs hd
    split at h
    · rename_i m hm
      split at h
      · rename_i hc
        cases h
        obtain ⟨rfl, hlx⟩ := shaped_cells sx (by simp [TI.agg, hd, TypeDesc.isAgg])
        cases hx with | agg _ xs hxs hvx =>
        simp only [hd]
        rw [← Array.forIn_toList]
        have key : ∀ (fl : List Go.Field) (off : Nat) (m : List TypeDesc), cellsDs (cellsD T f) fl off = some m → off + m.length = cs.length →
         (forIn fl () fun (fd : Go.Field) (_ : Unit) => (do
          if fd.name ≠ "_" then
           Instr.checkKey em (d + f) fd.type (← part fd.type xs fd.offset)
           pure (ForInStep.yield ())
          else pure (ForInStep.yield ()) : Sem (ForInStep Unit))).run P E.w = .ok () E.w := by
         intro fl
         induction fl with
         | nil => intro off m h hl; simp
         | cons fd fl ihf =>
          intro off m h hl
          simp only [cellsDs] at h
          split at h
          · rename_i hcf
            split at h
            · rename_i l1 hl1
              split at h
              · rename_i m1 hm1
                cases h
                have hTe : ∃ j, T fd.type = some j := by
                 cases f with
                 | zero => cases hl1
                 | succ f => simp only [cellsD] at hl1; cases hq : T fd.type with
                  | none => rw [hq] at hl1; cases hl1
                  | some j => exact ⟨j, rfl⟩
                obtain ⟨j, hj⟩ := hTe
                have hsz := (cellsD_size f fd.type j l1 hl1 hj).1
                rw [List.length_append] at hl
                obtain ⟨a, r1, r2⟩ := step fd.type j l1 off cs xs hl1 hj hxs hvx (by omega)
                simp only [List.forIn_cons, if_pos hcf.1, hcf.2, Sem.run_bind, r1, r2, Result.andThen_ok, Sem.run_pure]
                exact ihf (off + l1.length) m1 hm1 (by omega)
              · cases h
            · cases h
          · cases h
        have := key fs.toList 0 l hm (by rw [hlx, ← hc.2]; simp)
        simpa using this
      · cases h
    · cases h
  · rename_i n e hd
    split at h
    · rename_i m hm
      split at h
      · rename_i hc
        cases h
        obtain ⟨c1, c2, c3⟩ := hc
        obtain ⟨j, hj⟩ := Option.isSome_iff_exists.1 c3
        obtain ⟨rfl, hlx⟩ := shaped_cells sx (by simp [TI.agg, hd, TypeDesc.isAgg])
        cases hx with | agg _ xs hxs hvx =>
        simp only [hd]
        have hsz := (cellsD_size f e j m hm hj).1
        simp only [Std.Legacy.Range.forIn_eq_forIn_range', Std.Legacy.Range.size, Nat.sub_zero, Nat.add_one_sub_one, Nat.div_one]
        have key : ∀ (k s : Nat), s + k = n → (forIn (List.range' s k) () fun (i : Nat) (_ : Unit) => (do
         Instr.checkKey em (d + f) e (← part e xs (i * (← sizeOf e)))
         pure (ForInStep.yield ()) : Sem (ForInStep Unit))).run P E.w = .ok () E.w := by
         intro k
         induction k with
         | zero => intro s hs; simp
         | succ k ihk =>
          intro s hs
          have hle : s * j.size + j.size ≤ n * j.size := by rw [← Nat.succ_mul]; exact Nat.mul_le_mul_right _ (by omega)
          rw [hsz] at c2
          obtain ⟨a, r1, r2⟩ := step e j m (s * j.size) cs xs hm hj hxs hvx (by omega)
          simp only [List.range'_succ, List.forIn_cons, Sem.run_bind, run_size _ (hT _ _ hj), r1, r2, Result.andThen_ok, Sem.run_pure]
          exact ihk (s + 1) (by omega)
        have := key n 0 (by omega)
        simpa using this
      · cases h
    · cases h
  · cases h
end
def Env.setB (E : Env) (b : Nat) (o : Obj) : Env := { E with w := { E.w with heap := E.w.heap.setIfInBounds b o } }
theorem heap_setB_same {w : World} {b : Nat} {o : Obj} (h : b < w.heap.size) : ({ w with heap := w.heap.setIfInBounds b o } : World).heap[b]? = some o := by
 simp [h]
theorem heap_setB_other {w : World} {b b' : Nat} {o : Obj} (h : b' ≠ b) : ({ w with heap := w.heap.setIfInBounds b o } : World).heap[b']? = w.heap[b']? := by
 simp only [Array.getElem?_setIfInBounds]
 rw [if_neg (fun e => h e.symm)]
theorem shape_setB {w : World} {b b' : Nat} {o : Obj} (h : w.shape? b = none) {m : TypeId × Nat} (hm : w.shape? b' = some m) : ({ w with heap := w.heap.setIfInBounds b o } : World).shape? b' = some m := by
 have hne : b' ≠ b := fun e => by subst e; rw [h] at hm; cases hm
 simp only [World.shape?, heap_setB_other hne] at *
 exact hm
theorem SR.setB {E : Env} {σ : Store} (hS : SR E σ) {id b : Nat} {x : AObj} (hl : E.loc id = some (0, some b)) (hsh : E.w.shape? b = none) {o : Obj} (hlt : id < σ.length)
 (ho : Ext E (E.setB b o) → ObjR (E.setB b o) id (some x)) : SR (E.setB b o) (σ.set id x) ∧ Ext E (E.setB b o) := by
 have hb := hS.blk _ _ _ hl
 have hx : Ext E (E.setB b o) := {
  os := rfl
  tape := rfl
  output := rfl
  size := by simp [Env.setB]
  shape := fun b' m hm => shape_setB hsh hm
  st := fun b' h => ⟨h, heap_setB_other (fun e => hb.2 (e ▸ h))⟩
  n := Nat.le_refl _
  loc := fun _ _ v o h => ⟨v, o, h, Nat.le_refl _, fun _ => rfl⟩
  old := fun b' _ hn => heap_setB_other (fun e => by subst e; exact hn _ _ hl)
  own := fun id v _ h _ => ⟨id, v, h⟩
  stn := fun _ h => .inl h }
 refine ⟨⟨by simpa [Env.setB] using hS.len, fun i => ?_, hS.inj, fun i v b' h => ⟨by simpa [Env.setB] using (hS.blk i v b' h).1, (hS.blk i v b' h).2⟩, fun b' h => by simpa [Env.setB] using hS.stb b' h, hS.glb.mono hx.st⟩, hx⟩
 by_cases hi : i = id
 · subst hi
   rw [List.getElem?_set_self hlt]
   exact ho hx
 · rw [List.getElem?_set_ne (fun e => hi e.symm)]
   exact (hS.obj i).ext hx rfl fun v b' h => heap_setB_other (fun e => hi (hS.inj i id v 0 b (e ▸ h) hl))
def Store.mapAt (σ : Store) (id : Nat) : Option (List (AV × AV)) :=
 match σ[id]? with
 | some (.map es) => some es
 | _ => none
theorem SR.mapAt {E : Env} {σ : Store} (hS : SR E σ) {id : Nat} {es : List (AV × AV)} (h : Store.mapAt σ id = some es) :
 id < σ.length ∧ ∃ b ents clock, E.loc id = some (0, some b) ∧ E.w.heap[b]? = some (.map ents clock) ∧ EntsR E es ents.toList := by
 unfold Store.mapAt at h
 split at h
 · rename_i es' hσ
   cases h
   have := hS.obj id
   rw [hσ] at this
   obtain ⟨b, ents, clock, h1, h2, h3, h4⟩ := this
   refine ⟨(List.getElem?_eq_some_iff.1 hσ).1, b, ents, clock, h1, h2, by simpa using h3, fun i h h' => ?_⟩
   have := h4 i h (by simpa using h')
   simpa using this
 · cases h
theorem shape_map {w : World} {b : Nat} {es : Array MapEntry} {c : Nat} (h : w.heap[b]? = some (.map es c)) : w.shape? b = none := by
 simp only [World.shape?, h]
theorem SR.setMap {E : Env} {σ : Store} (hS : SR E σ) {id b : Nat} {ents ents' : Array MapEntry} {clock clock' : Nat} {es' : List (AV × AV)} (hlt : id < σ.length) (hl : E.loc id = some (0, some b)) (hb : E.w.heap[b]? = some (.map ents clock))
 (he : EntsR E es' ents'.toList) : SR (E.setB b (.map ents' clock')) (σ.set id (.map es')) ∧ Ext E (E.setB b (.map ents' clock')) := by
 have hlb := (hS.blk _ _ _ hl).1
 refine hS.setB hl (shape_map hb) hlt fun hx => ⟨b, ents', clock', hl, heap_setB_same hlb, by simpa using he.1, fun i h h' => ?_⟩
 have := he.2 i h (by simpa using h')
 simp only [Array.getElem_toList] at this
 exact ⟨this.1.ext hx, this.2.ext hx⟩
def packOk (ok : Bool) (v : AV) (b : Bool) : AV := if ok then .tup [v, .bool b] else v
def evLookup (T : TT) (t : TypeId) (m k : AV) (ok : Bool) (σ : Store) : Option AV :=
 match T t with
 | some i => match i.desc with
  | .map kt et => match T kt, T et, cellsD T 20 kt with
   | some ik, some ie, some l => match kCells ik k with
    | some kc => if kc.length = ik.size then match m with
     | .nilm => some (packOk ok ie.zero false)
     | .mp id => match Store.mapAt σ id with
      | some es => match evFind l ik kc es 0 with
       | some (some (_, v)) => some (packOk ok v true)
       | some none => some (packOk ok ie.zero false)
       | none => none
      | none => none
     | _ => none
     else none
    | none => none
   | _, _, _ => none
  | _ => none
 | none => none
theorem VR.pack {E : Env} {v : AV} {cv : Value} (h : VR E v cv) (ok b : Bool) : VR E (packOk ok v b) (if ok then .tuple #[cv, .bool b] else cv) := by
 unfold packOk
 cases ok with
 | true => exact VR.tup2 h (.bool b)
 | false => exact h
theorem run_evLookup {P : Program} {T : TT} (hT : TOK P T) {E : Env} {σ : Store} (hS : SR E σ) {t : TypeId} {m k : AV} {vm vk : Value} (hm : VR E m vm) (hk : VR E k vk) {ok : Bool} {r : AV} (h : evLookup T t m k ok σ = some r) :
 Out P E (Instr.lookup t vm vk ok) r σ := by
 unfold evLookup at h
 split at h
 · rename_i i hi
   split at h
   · rename_i kt et hd
     split at h
     · rename_i ik ie l hik hie hl
       split at h
       · rename_i kc hkc
         split at h
         · rename_i hlen
           have hch := fun em => run_checkKeyA hT em 20 kt ik l hl hik k vk kc hk (kCells_shaped hkc hlen) 9980
           obtain ⟨z, hz, _, hzv⟩ := run_zero (w := E.w) (hT _ _ hie)
           split at h
           · cases h
             cases hm
             refine .same hS (cv := if ok then .tuple #[z, .bool false] else z) ?_ ((hzv E).pack ok false)
             obtain ⟨q, h1, h2⟩ := run_findKey hT hik hl hk hkc [] [] none ⟨rfl, fun i h => absurd h (by simp)⟩ rfl
             have : q = none := by cases q with | none => rfl | some q => exact h2.elim
             subst this
             simp only [Instr.lookup, Sem.run_bind, zq _ (hT _ _ hi), hd, Result.andThen_ok, Sem.run_pure, hch]
             simp only [h1, Sem.run_bind, hz, Result.andThen_ok, Sem.run_pure]
           · rename_i id
             split at h
             · rename_i es hes
               obtain ⟨_, b, ents, clock, hlc, hb, her⟩ := hS.mapAt hes
               cases hm with | mp _ b' hok hp =>
               have := hp _ hlc
               cases this
               have hget : (getObj b).run P E.w = .ok (.map ents clock) E.w := run_getObj_map E.w b ents clock hb
               split at h
               · rename_i n v hf
                 cases h
                 obtain ⟨q, h1, h2⟩ := run_findKey hT hik hl hk hkc es ents.toList _ her hf
                 obtain ⟨n', v', rfl⟩ : ∃ n' v', q = some (n', v') := by cases q with | none => exact h2.elim | some q => exact ⟨q.1, q.2, rfl⟩
                 refine .same hS (cv := if ok then .tuple #[v', .bool true] else v') ?_ (h2.2.pack ok true)
                 simp only [Instr.lookup, Sem.run_bind, zq _ (hT _ _ hi), hd, Result.andThen_ok, hget, Sem.run_pure, hch, h1]
               · rename_i hf
                 cases h
                 obtain ⟨q, h1, h2⟩ := run_findKey hT hik hl hk hkc es ents.toList _ her hf
                 have : q = none := by cases q with | none => rfl | some q => exact h2.elim
                 subst this
                 refine .same hS (cv := if ok then .tuple #[z, .bool false] else z) ?_ ((hzv E).pack ok false)
                 simp only [Instr.lookup, Sem.run_bind, zq _ (hT _ _ hi), hd, Result.andThen_ok, hget, Sem.run_pure, hch, h1, hz]
               · cases h
             · cases h
           · cases h
         · cases h
       · cases h
     · cases h
   · cases h
 · cases h
def evMapUpdate (T : TT) (t : TypeId) (m k v : AV) (σ : Store) : Option Store :=
 match T t, m with
 | some i, .mp id => match i.desc with
  | .map kt et => match T kt, cellsD T 20 kt with
   | some ik, some l => match kCells ik k, Store.mapAt σ id with
    | some kc, some es => if kc.length = ik.size then match evFind l ik kc es 0 with
     | some (some (n, _)) => some (σ.set id (.map (es.set n (k, v))))
     | some none => some (σ.set id (.map (es ++ [(k, v)])))
     | none => none
     else none
    | _, _ => none
   | _, _ => none
  | _ => none
 | _, _ => none
theorem sameBits_scal {v : Value} (h : Scal v) (n : Nat) : Instr.sameBits n v v = true := by
 rcases h with ⟨k, m, rfl⟩ | ⟨s, rfl⟩ | ⟨b, rfl⟩
 · cases n <;> simp [Instr.sameBits]
 · cases n <;> simp [Instr.sameBits] <;> (rw [beq_toListBytes]; simp)
 · cases n <;> simp [Instr.sameBits]
theorem same_key {E : Env} {i : TI} {l : List TypeDesc} {x y : AV} {vx vy : Value} {cs ds : List AV} (hx : VR E x vx) (hy : VR E y vy) (sx : shaped i x cs) (sy : shaped i y ds) (h : ceqL l cs ds = some true) : Instr.sameBits 10000 vx vy = true := by
 unfold shaped at sx sy
 cases hag : i.agg with
 | true =>
  rw [hag] at sx sy
  obtain ⟨h1, rfl⟩ := sx
  obtain ⟨h2, rfl⟩ := sy
  cases hx with | agg _ xs hxs hvx => cases hy with | agg _ ys hys hvy =>
  have hlen : cs.length = ds.length := by rw [h1, h2]
  have key : ∀ j, j < cs.length → Scal (xs.getD j undef) ∧ xs.getD j undef = ys.getD j undef := by
   intro j hj
   obtain ⟨dd, q, e1, e2⟩ := ceqL_get h j hj
   obtain ⟨s1, s2, s3⟩ := ceq_true e1 (hvx j hj) (hvy j (by omega))
   exact ⟨s1, s3 (e2 rfl)⟩
  have hxy : xs = ys := by
   apply Array.ext
   · omega
   · intro j h1 h2
     have := (key j (by omega)).2
     simpa [Array.getD_eq_getD_getElem?, h1, h2] using this
  subst hxy
  show ((xs.size == xs.size) && _) = true
  simp only [beq_self_eq_true, Bool.true_and, List.all_eq_true]
  intro p hp
  obtain ⟨j, hj, rfl⟩ := List.getElem_of_mem hp
  simp only [List.getElem_zip]
  have hj' : j < xs.size := by simpa using hj
  have := (key j (by omega)).1
  have e : xs.getD j undef = xs.toList[j]'(by simpa using hj') := by simp [hj']
  rw [e] at this
  exact sameBits_scal this _
 | false =>
  rw [hag] at sx sy
  simp only [Bool.false_eq_true, if_false] at sx sy
  rw [sx.2, sy.2] at h
  obtain ⟨dd, q, e1, e2⟩ := ceqL_get h 0 (by simp)
  obtain ⟨s1, s2, s3⟩ := ceq_true e1 (by simpa [gc] using hx) (by simpa [gc] using hy)
  have := s3 (e2 rfl)
  subst this
  exact sameBits_scal s1 _
theorem evFind_some {l : List TypeDesc} {i : TI} {kc : List AV} : ∀ {es : List (AV × AV)} {s n : Nat} {v : AV}, evFind l i kc es s = some (some (n, v)) → s ≤ n ∧ ∃ e ec, es[n - s]? = some e ∧ kCells i e.1 = some ec ∧ ceqL l kc ec = some true := by
 intro es
 induction es with
 | nil => intro s n v h; cases h
 | cons e es ih =>
  intro s n v h
  simp only [evFind] at h
  split at h
  · rename_i ec hec
    split at h
    · rename_i b hb
      cases b with
      | true => simp only [cond_true, Option.some.injEq, Prod.mk.injEq] at h; obtain ⟨rfl, _⟩ := h; exact ⟨Nat.le_refl _, e, ec, by simp, hec, hb⟩
      | false =>
       obtain ⟨h1, e', ec', h2, h3, h4⟩ := ih h
       exact ⟨by omega, e', ec', by rw [show n - s = (n - (s + 1)) + 1 by omega, List.getElem?_cons_succ]; exact h2, h3, h4⟩
    · cases h
  · cases h
theorem EntsR.set {E : Env} {es : List (AV × AV)} {ents : List MapEntry} (h : EntsR E es ents) {n : Nat} {k v : AV} {x : MapEntry} (hk : VR E k x.key) (hv : VR E v x.val) : EntsR E (es.set n (k, v)) (ents.set n x) := by
 refine ⟨by simp [h.1], fun i h1 h2 => ?_⟩
 simp only [List.length_set] at h1 h2
 rw [List.getElem_set, List.getElem_set]
 by_cases hn : n = i
 · simp [hn, hk, hv]
 · simp only [hn, if_false]; exact h.2 i h1 h2
theorem EntsR.snoc {E : Env} {es : List (AV × AV)} {ents : List MapEntry} (h : EntsR E es ents) {k v : AV} {x : MapEntry} (hk : VR E k x.key) (hv : VR E v x.val) : EntsR E (es ++ [(k, v)]) (ents ++ [x]) := by
 refine ⟨by simp [h.1], fun i h1 h2 => ?_⟩
 simp only [List.length_append, List.length_singleton] at h1 h2
 by_cases hi : i < es.length
 · rw [List.getElem_append_left hi, List.getElem_append_left (by have := h.1; omega)]
   exact h.2 i hi _
 · have e1 : i = es.length := by omega
   have e2 : i = ents.length := by have := h.1; omega
   rw [List.getElem_append_right (by omega), List.getElem_append_right (by omega)]
   simp [e1, h.1, hk, hv]
theorem EntsR.erase {E : Env} {es : List (AV × AV)} {ents : List MapEntry} (h : EntsR E es ents) (n : Nat) : EntsR E (es.eraseIdx n) (ents.eraseIdx n) := by
 refine ⟨by simp [List.length_eraseIdx, h.1], fun i h1 h2 => ?_⟩
 rw [List.getElem_eraseIdx, List.getElem_eraseIdx]
 split
 · exact h.2 _ _ _
 · exact h.2 _ _ _
theorem run_setObj' {P : Program} {w : World} {b : Nat} {o o' : Obj} (h : w.heap[b]? = some o') (hm : ∀ c t f, o' ≠ .cells c t f) : (setObj b o).run P w = .ok () { w with heap := w.heap.setIfInBounds b o } := by
 cases o' <;> first | (simp [setObj, Sem.run, h]; done) | exact absurd rfl (hm _ _ _)
theorem run_evMapUpdate {P : Program} {T : TT} (hT : TOK P T) {E : Env} {σ σ' : Store} (hS : SR E σ) {t : TypeId} {m k v : AV} {vm vk vv : Value} (hm : VR E m vm) (hk : VR E k vk) (hv : VR E v vv) (h : evMapUpdate T t m k v σ = some σ') :
 ∃ E', (Instr.mapUpdate t vm vk vv).run P E.w = .ok () E'.w ∧ SR E' σ' ∧ Ext E E' := by
 unfold evMapUpdate at h
 split at h
 · rename_i i id hi
   split at h
   · rename_i kt et hd
     split at h
     · rename_i ik l hik hl
       split at h
       · rename_i kc es hkc hes
         split at h
         · rename_i hlen
           have hch := run_checkKeyA hT false 20 kt ik l hl hik k vk kc hk (kCells_shaped hkc hlen) 9980
           obtain ⟨hlt, b, ents, clock, hlc, hb, her⟩ := hS.mapAt hes
           cases hm with | mp _ b' hok hp =>
           have := hp _ hlc
           cases this
           have hget : (getObj b).run P E.w = .ok (.map ents clock) E.w := run_getObj_map E.w b ents clock hb
           split at h
           · rename_i n v0 hf
             cases h
             obtain ⟨q, h1, h2⟩ := run_findKey hT hik hl hk hkc es ents.toList _ her hf
             obtain ⟨n', v', rfl⟩ : ∃ n' v', q = some (n', v') := by cases q with | none => exact h2.elim | some q => exact ⟨q.1, q.2, rfl⟩
             obtain ⟨rfl, _⟩ := h2
             obtain ⟨_, e, ec, he1, he2, he3⟩ := evFind_some hf
             rw [Nat.sub_zero] at he1
             have hn := (List.getElem?_eq_some_iff.1 he1).1
             have hn' : n < ents.size := by have := her.1; simp at this; omega
             have hsz := (cellsD_size 20 kt ik l hl hik).1
             have hln := ceqL_length he3
             have hkey := (her.2 n hn (by simpa using hn')).1
             rw [(List.getElem?_eq_some_iff.1 he1).2] at hkey
             have hsame := same_key hkey hk (kCells_shaped he2 (by omega)) (kCells_shaped hkc hlen) (l := l) (by
              -- the other way round
              have : ∀ (l : List TypeDesc) (a b : List AV), ceqL l a b = some true → ceqL l b a = some true := by
               intro l
               induction l with
               | nil => intro a b h; cases a with
                | nil => cases b with
                 | nil => rfl
                 | cons y b => cases h
                | cons y a => cases h
               | cons d l ih =>
                intro a b h
                cases a with
                | nil => cases h
                | cons x a => cases b with
                 | nil => cases h
                 | cons y b =>
                  simp only [ceqL] at h ⊢
                  cases h1 : ceq d x y with
                  | none => rw [h1] at h; cases h
                  | some p => cases h2 : ceqL l a b with
                   | none => rw [h1, h2] at h; cases h
                   | some q =>
                    rw [h1, h2] at h
                    simp only [Option.some.injEq, Bool.and_eq_true] at h
                    obtain ⟨rfl, rfl⟩ := h
                    rw [ih a b h2]
                    have : ceq d y x = some true := by
                     unfold ceq at h1 ⊢
                     split at h1
                     · split at h1
                       · rename_i hk; subst hk; simp only [Option.some.injEq, decide_eq_true_eq] at h1; subst h1; simp
                       · cases h1
                     · simp only [Option.some.injEq, decide_eq_true_eq] at h1; subst h1; simp
                     · simp only [Option.some.injEq, beq_iff_eq] at h1; subst h1; simp
                     · cases h1
                    rw [this]; rfl
              exact this l kc ec he3)
             let x : MapEntry := { ents[n] with key := vk, val := vv }
             have hmod : (ents.modify n fun e => { e with key := vk, val := vv }).toList = ents.toList.set n x := by
              rw [Array.toList_modify]
              apply List.ext_getElem?
              intro j
              rw [List.getElem?_modify, List.getElem?_set]
              by_cases hj : n = j
              · subst hj; simp [hn', x]
              · simp [hj]
             obtain ⟨hS', hx'⟩ := hS.setMap (clock' := clock) (ents' := ents.modify n fun e => { e with key := vk, val := vv }) (es' := es.set n (k, v)) hlt hlc hb (by rw [hmod]; exact her.set hk hv)
             refine ⟨_, ?_, hS', hx'⟩
             simp only [Instr.mapUpdate, Sem.run_bind, zq _ (hT _ _ hi), hd, Result.andThen_ok, hget, hch, h1, Array.getElem?_eq_getElem hn', Option.map_some, Option.getD_some, Instr.keyThatStays]
             simp only [Array.getElem_toList] at hsame
             rw [if_pos hsame]
             simp only [Sem.run_pure, Result.andThen_ok]
             exact run_setObj' hb (by intro _ _ _ h; cases h)
           · rename_i hf
             cases h
             obtain ⟨q, h1, h2⟩ := run_findKey hT hik hl hk hkc es ents.toList _ her hf
             have : q = none := by cases q with | none => rfl | some q => exact h2.elim
             subst this
             obtain ⟨hS', hx'⟩ := hS.setMap (clock' := clock + 1) (ents' := ents.push { key := vk, val := vv, born := clock }) (es' := es ++ [(k, v)]) hlt hlc hb (by
              rw [Array.toList_push]; exact her.snoc hk hv)
             refine ⟨_, ?_, hS', hx'⟩
             simp only [Instr.mapUpdate, Sem.run_bind, zq _ (hT _ _ hi), hd, Result.andThen_ok, hget, hch, h1]
             exact run_setObj' hb (by intro _ _ _ h; cases h)
           · cases h
         · cases h
       · cases h
     · cases h
   · cases h
 · cases h
def evMakeMap (T : TT) (t : TypeId) (hint : Option AV) (σ : Store) : Option (AV × Store) :=
 match hint with
 | none => some (.mp σ.length, σ ++ [.map []])
 | some (.int _ _) => match T t with
  | some i => match i.desc with
   | .map _ _ => some (.mp σ.length, σ ++ [.map []])
   | _ => none
  | none => none
 | _ => none
theorem run_evMakeMap {P : Program} {T : TT} (hT : TOK P T) {E : Env} {σ σ' : Store} (hS : SR E σ) {t : TypeId} {hint : Option AV} {vh : Option Value} (hh : OptR E hint vh) {r : AV} (h : evMakeMap T t hint σ = some (r, σ')) :
 Out P E (Instr.makeMap t vh) r σ' := by
 have main : ∀ (hrun : (Instr.makeMap t vh).run P E.w = .ok (.map (some E.w.heap.size)) (E.w.alloc (.map #[] 0))), Out P E (Instr.makeMap t vh) (.mp σ.length) (σ ++ [.map []]) := by
  intro hrun
  obtain ⟨hS', hx'⟩ := hS.new (Grew.alloc E.w (.map #[] 0)) (ob := some E.w.heap.size) (fun b hb => by cases hb; simp) (o := .map []) ⟨E.w.heap.size, #[], 0, by simp [Env.new], heap_push_new _ _, rfl, fun i h => absurd h (by simp)⟩
  refine ⟨_, _, hrun, ?_, hS', hx'⟩
  refine .mp _ _ (Env.ok_new hS _ _) fun ob hob => ?_
  rw [Env.loc_new hS] at hob
  cases hob; rfl
 unfold evMakeMap at h
 split at h
 · cases h
   cases vh with
   | some v => exact hh.elim
   | none => exact main rfl
 · split at h
   · rename_i i hi
     split at h
     · rename_i kt et hd
       cases h
       cases vh with
       | none => exact hh.elim
       | some v =>
        cases hh
        refine main ?_
        simp only [Instr.makeMap, Sem.run_bind, zq _ (hT _ _ hi), hd, Result.andThen_ok, asInt, asIntOf, Sem.run_pure]
        rfl
     · cases h
   · cases h
 · cases h
def evDelete (T : TT) (t : TypeId) (m k : AV) (σ : Store) : Option (AV × Store) :=
 match T t, m with
 | some i, .mp id => match i.desc with
  | .map kt et => match T kt, cellsD T 20 kt with
   | some ik, some l => match kCells ik k, Store.mapAt σ id with
    | some kc, some es => if kc.length = ik.size then match evFind l ik kc es 0 with
     | some (some (n, _)) => some (.tup [], σ.set id (.map (es.eraseIdx n)))
     | some none => some (.tup [], σ)
     | none => none
     else none
    | _, _ => none
   | _, _ => none
  | _ => none
 | _, _ => none
theorem run_evDelete {P : Program} {T : TT} (hT : TOK P T) {E : Env} {σ σ' : Store} (hS : SR E σ) {t kt' ty : TypeId} {m k : AV} {vm vk : Value} (hm : VR E m vm) (hk : VR E k vk) {r : AV} (h : evDelete T t m k σ = some (r, σ')) :
 Out P E (Builtin.delete_ #[t, kt'] ty #[vm, vk]) r σ' := by
 unfold evDelete at h
 split at h
 · rename_i i id hi
   split at h
   · rename_i kt et hd
     split at h
     · rename_i ik l hik hl
       split at h
       · rename_i kc es hkc hes
         split at h
         · rename_i hlen
           have hch := fun em => run_checkKeyA hT em 20 kt ik l hl hik k vk kc hk (kCells_shaped hkc hlen) 9980
           obtain ⟨hlt, b, ents, clock, hlc, hb, her⟩ := hS.mapAt hes
           cases hm with | mp _ b' hok hp =>
           have := hp _ hlc
           cases this
           have hget : (getObj b).run P E.w = .ok (.map ents clock) E.w := run_getObj_map E.w b ents clock hb
           have nil2 : VR E (.tup []) (.tuple #[]) := .tup [] #[] rfl (fun i h => absurd h (by simp))
           split at h
           · rename_i n v0 hf
             cases h
             obtain ⟨q, h1, h2⟩ := run_findKey hT hik hl hk hkc es ents.toList _ her hf
             obtain ⟨n', v', rfl⟩ : ∃ n' v', q = some (n', v') := by cases q with | none => exact h2.elim | some q => exact ⟨q.1, q.2, rfl⟩
             obtain ⟨rfl, _⟩ := h2
             have hto : (ents.eraseIdxIfInBounds n).toList = ents.toList.eraseIdx n := by
              unfold Array.eraseIdxIfInBounds
              split
              · simp
              · rename_i hn; rw [List.eraseIdx_of_length_le (by simpa using hn)]
             obtain ⟨hS', hx'⟩ := hS.setMap (clock' := clock) (ents' := ents.eraseIdxIfInBounds n) (es' := es.eraseIdx n) hlt hlc hb (by rw [hto]; exact her.erase n)
             refine ⟨_, _, ?_, .tup [] #[] rfl (fun i h => absurd h (by simp)), hS', hx'⟩
             simp only [Builtin.delete_, List.getElem?_toArray, List.getElem?_cons_zero, List.getElem?_cons_succ, Sem.run_bind, zq _ (hT _ _ hi), hd, Result.andThen_ok, hget, hch, h1]
             rw [run_setObj' hb (by intro _ _ _ h; cases h)]; rfl
           · rename_i hf
             cases h
             obtain ⟨q, h1, h2⟩ := run_findKey hT hik hl hk hkc es ents.toList _ her hf
             have : q = none := by cases q with | none => rfl | some q => exact h2.elim
             subst this
             obtain ⟨hS', hx'⟩ := hS.setMap (clock' := clock) (ents' := ents) (es' := es) hlt hlc hb her
             have hset : σ.set id (.map es) = σ := by
              unfold Store.mapAt at hes
              split at hes
              · rename_i es' hσ
                cases hes
                apply List.ext_getElem?
                intro j
                by_cases hj : j = id
                · subst hj; rw [List.getElem?_set_self hlt, hσ]
                · rw [List.getElem?_set_ne (fun e => hj e.symm)]
              · cases hes
             rw [hset] at hS'
             refine ⟨_, _, ?_, .tup [] #[] rfl (fun i h => absurd h (by simp)), hS', hx'⟩
             simp only [Builtin.delete_, List.getElem?_toArray, List.getElem?_cons_zero, List.getElem?_cons_succ, Sem.run_bind, zq _ (hT _ _ hi), hd, Result.andThen_ok, hget, hch, h1]
             rw [run_setObj' hb (by intro _ _ _ h; cases h)]; rfl
           · cases h
         · cases h
       · cases h
     · cases h
   · cases h
 · cases h
def decU (s : List UInt8) (pos : Nat) : Nat × Nat := Utf8.decode ⟨s.toArray⟩ pos
def Store.iterAt (σ : Store) (id : Nat) : Option (List UInt8 × Nat) :=
 match σ[id]? with
 | some (.iter s p) => some (s, p)
 | _ => none
def evRange (T : TT) (t : TypeId) (x : AV) (σ : Store) : Option (AV × Store) :=
 match T t, x with
 | some i, .str s => match i.desc with
  | .string => some (.it σ.length, σ ++ [.iter s 0])
  | _ => none
 | _, _ => none
theorem run_evRange {P : Program} {T : TT} (hT : TOK P T) {E : Env} {σ σ' : Store} (hS : SR E σ) {t : TypeId} {x : AV} {vx : Value} (hx : VR E x vx) {r : AV} (h : evRange T t x σ = some (r, σ')) : Out P E (Instr.range t vx) r σ' := by
 unfold evRange at h
 split at h
 · rename_i i s hi
   split at h
   · rename_i hd
     cases h
     cases hx with | str _ b hb =>
     subst hb
     obtain ⟨hS', hx'⟩ := hS.new (Grew.alloc E.w (.stringIter b 0)) (ob := some E.w.heap.size) (fun b hb => by cases hb; simp) (o := .iter b.data.toList 0) ⟨E.w.heap.size, by simp [Env.new], heap_push_new _ _⟩
     refine ⟨.pointer (some ⟨E.w.heap.size, 0, none⟩), _, ?_, ?_, hS', hx'⟩
     · simp only [Instr.range, Sem.run_bind, zq _ (hT _ _ hi), hd, Result.andThen_ok, Sem.run_pure]; rfl
     · refine .it _ _ (Env.ok_new hS _ _) fun ob hob => ?_
       rw [Env.loc_new hS] at hob
       cases hob; rfl
   · cases h
 · cases h
def evNext (x : AV) (isString : Bool) (σ : Store) : Option (AV × Store) :=
 match x with
 | .it id => match Store.iterAt σ id with
  | some (s, p) => if isString then
   if p < s.length then some (.tup [.bool true, .int .i64 p, .int .i32 (decU s p).1], σ.set id (.iter s (p + (decU s p).2))) else some (.tup [.bool false], σ)
   else none
  | none => none
 | _ => none
theorem shape_iter {w : World} {b : Nat} {s : ByteArray} {c : Nat} (h : w.heap[b]? = some (.stringIter s c)) : w.shape? b = none := by
 simp only [World.shape?, h]
theorem run_evNext {P : Program} {E : Env} {σ σ' : Store} (hS : SR E σ) {x : AV} {vx : Value} (hx : VR E x vx) {isString : Bool} {ty : TypeId} {r : AV} (h : evNext x isString σ = some (r, σ')) : Out P E (Instr.next vx isString ty) r σ' := by
 unfold evNext at h
 split at h
 · rename_i id
   split at h
   · rename_i s p hit
     split at h
     · rename_i hs
       subst hs
       have hobj := hS.obj id
       unfold Store.iterAt at hit
       split at hit
       · rename_i s' p' hσ
         cases hit
         rw [hσ] at hobj
         obtain ⟨b, hl, hb⟩ := hobj
         have hlt := (List.getElem?_eq_some_iff.1 hσ).1
         cases hx with | it _ b' hok hp =>
         have := hp _ hl
         cases this
         have hget : (getObj b).run P E.w = .ok (.stringIter ⟨s.toArray⟩ p) E.w := by simp [getObj, Sem.run, hb]
         have hsz : (ByteArray.mk s.toArray).size = s.length := by show s.toArray.size = _; simp
         split at h
         · rename_i hlt2
           cases h
           obtain ⟨hS', hx'⟩ := hS.setB (o := .stringIter ⟨s.toArray⟩ (p + (decU s p).2)) (x := .iter s (p + (decU s p).2)) hl (shape_iter hb) hlt fun _ => ⟨b, hl, heap_setB_same (hS.blk _ _ _ hl).1⟩
           refine ⟨.tuple #[.bool true, .int .i64 p, .int .i32 (decU s p).1], _, ?_, ?_, hS', hx'⟩
           · simp only [Instr.next, Sem.run_bind, hget, Result.andThen_ok, hsz]
             rw [if_pos hlt2]
             simp only [Sem.run_bind]
             rw [show (setObj b (.stringIter ⟨s.toArray⟩ (p + (Utf8.decode ⟨s.toArray⟩ p).2))).run P E.w = _ from run_setObj' hb (by intro _ _ _ h; cases h)]
             rfl
           · refine .tup _ _ rfl fun i hi => ?_
             match i, hi with
             | 0, _ => exact .bool _
             | 1, _ => exact .int _ _
             | 2, _ => exact .int _ _
         · rename_i hlt2
           cases h
           refine .same hS (cv := .tuple #[.bool false]) ?_ (.tup _ _ rfl fun i hi => ?_)
           · simp only [Instr.next, Sem.run_bind, hget, Result.andThen_ok, hsz]
             rw [if_neg hlt2]; rfl
           · simp only [List.length_singleton, Nat.lt_one_iff] at hi
             subst hi; exact .bool _
       · cases hit
     · cases h
   · cases h
 · cases h
end AM
end Go.Proofs.YtaddlmlpeghonaaDoor
