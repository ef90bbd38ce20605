import Derived.Test.YtaddlmlpeghonaaDoorUBc
set_option linter.unusedSimpArgs false
set_option linter.unusedVariables false
set_option linter.constructorNameAsVariable false
namespace Go.Proofs.YtaddlmlpeghonaaDoor
namespace AM
open Go.RowKit
def Out (P : Program) (E : Env) (s : Sem Value) (r : AV) (σ' : Store) : Prop :=
 ∃ cv E', s.run P E.w = .ok cv E'.w ∧ VR E' r cv ∧ SR E' σ' ∧ Ext E E'
theorem Out.same {P : Program} {E : Env} {σ : Store} (hS : SR E σ) {s : Sem Value} {r : AV} {cv : Value} (h : s.run P E.w = .ok cv E.w) (hv : VR E r cv) : Out P E s r σ :=
 ⟨cv, E, h, hv, hS, Ext.refl E⟩
def evLoad (T : TT) (t : TypeId) (a : AV) (σ : Store) : Option AV :=
 match T t, a with
 | some i, .op id ver off => match Store.at σ id ver with
  | some cs => evRd cs off i.size i.agg
  | none => none
 | some i, .dp cells off => evRd cells off i.size i.agg
 | _, _ => none
theorem evRd_ne {cs : List AV} {off size : Nat} {agg : Bool} {r : AV} (h : evRd cs off size agg = some r) (hz : agg = true → 0 < size) : off < cs.length := by
 unfold evRd at h
 split at h
 · rename_i ha
   split at h
   · have := hz ha; omega
   · cases h
 · split at h
   · assumption
   · cases h
theorem SR.block_of {E : Env} {σ : Store} (hS : SR E σ) {id ver : Nat} {cs : List AV} (h : Store.at σ id ver = some cs) {i : Nat} (hi : i < cs.length) : ∃ b, E.loc id = some (ver, some b) ∧ Blk E b cs := by
 rcases hS.at h with h | ⟨h, _⟩
 · exact h
 · subst h; simp at hi
theorem run_evLoad_same {P : Program} {T : TT} (hT : TOK P T) {E : Env} {σ : Store} (hS : SR E σ) {t : TypeId} {a : AV} {va : Value} (ha : VR E a va) {r : AV} (h : evLoad T t a σ = some r)
 (hz : ∀ i, T t = some i → i.agg = true → 0 < i.size) : ∃ cv, (Instr.loadAt t va).run P E.w = .ok cv E.w ∧ VR E r cv := by
 unfold evLoad at h
 split at h
 · rename_i i id ver off hi
   split at h
   · rename_i cs hcs
     have hoff := evRd_ne h (hz i hi)
     obtain ⟨b, hl, hb⟩ := hS.block_of hcs hoff
     cases ha with | op _ _ _ ad hk hp =>
     have := hp b hl; subst this
     obtain ⟨cv, hr, hv⟩ := run_loadVar_rd (hT _ _ hi) (b := b) (o := off) (off := off) (cs := cs) (fun j hj => hb.cell (off + j) hj) h
     refine ⟨cv, ?_, hv⟩
     simp only [Instr.loadAt, Instr.sureAddr, Sem.run_bind, Sem.run_pure, Result.andThen_ok]
     exact hr
   · cases h
 · rename_i i cells off hi
   cases ha with | dp _ _ b o vs hr hv =>
   obtain ⟨cv, hr', hv'⟩ := run_loadVar_rd (hT _ _ hi) (b := b) (o := o + off) (off := off) (cs := cells) (fun j hj => by
    obtain ⟨v, h1, h2⟩ := VR.getRow hv hr (off + j) hj
    exact ⟨v, by rw [show o + off + j = o + (off + j) by omega]; exact h1, h2⟩) h
   refine ⟨cv, ?_, hv'⟩
   simp only [Instr.loadAt, Instr.sureAddr, Sem.run_bind, Sem.run_pure, Result.andThen_ok]
   exact hr'
 · cases h
theorem run_evLoad {P : Program} {T : TT} (hT : TOK P T) {E : Env} {σ : Store} (hS : SR E σ) {t : TypeId} {a : AV} {va : Value} (ha : VR E a va) {r : AV} (h : evLoad T t a σ = some r)
 (hz : ∀ i, T t = some i → i.agg = true → 0 < i.size) : Out P E (Instr.loadAt t va) r σ := by
 obtain ⟨cv, h1, h2⟩ := run_evLoad_same hT hS ha h hz
 exact .same hS h1 h2
def AV.okc : AV → Bool
 | .u | .tup _ => false
 | .agg cs => cs.all AV.one
 | _ => true
theorem VR.cellsOf {E : Env} {x : AV} {v : Value} (h : VR E x v) (hx : x.okc = true) : v.cells.size = x.cells.length ∧ ∀ i, i < x.cells.length → VR E (gc x.cells i) (v.cells.getD i undef) := by
 cases h
 case u => simp [AV.okc] at hx
 case tup => simp [AV.okc] at hx
 case agg cs vs hl hv => exact ⟨hl, hv⟩
 all_goals refine ⟨rfl, fun i hi => ?_⟩
 all_goals simp only [AV.cells, List.length_singleton, Nat.lt_one_iff] at hi
 all_goals subst hi
 case bool => exact .bool _
 case int => exact .int _ _
 case str l s h => exact .str l s h
 case nilp => exact .nilp
 case op id ver off a hk h => exact .op id ver off a hk h
 case dp cells off b o vs hr h => exact .dp cells off b o vs hr h
 case dsn t => exact .dsn t
 case ds nl cells len t a cap vs ha hr h hc ht hB => exact .ds nl cells len t a cap vs ha hr h hc ht hB
 case osn sz id ver off t a hk h => exact .osn sz id ver off t a hk h
 case os nl sz id ver off len t a cap hk hc ht hB h => exact .os nl sz id ver off len t a cap hk hc ht hB h
 case mp id b hk h => exact .mp id b hk h
 case nilm => exact .nilm
 case fn f first cap vf vc hf hc h1 h2 => exact .fn f first cap vf vc hf hc h1 h2
 case nilF => exact .nilF
 case ifc t a v h => exact .ifc t a v h
 case nilI => exact .nilI
 case it id b hk h => exact .it id b hk h
 case gp g => exact .gp g
theorem AV.okc_one {x : AV} (hx : x.okc = true) : ∀ y ∈ x.cells, y.one = true := by
 cases x <;> simp_all [AV.okc, AV.cells, AV.one]
def evStore (T : TT) (t : TypeId) (a x : AV) (σ : Store) : Option Store :=
 match T t, a with
 | some i, .op id ver off => match Store.at σ id ver with
  | some cs => if x.okc = true ∧ x.cells.length = i.size ∧ off + i.size ≤ cs.length then some (σ.set id (.cells ver (setRun cs off x.cells))) else none
  | none => none
 | _, _ => none
theorem run_evStore {P : Program} {T : TT} (hT : TOK P T) {E : Env} {σ σ' : Store} (hS : SR E σ) {t : TypeId} {a x : AV} {va vx : Value} (ha : VR E a va) (hx : VR E x vx) (h : evStore T t a x σ = some σ')
 (hz : ∀ i, T t = some i → 0 < i.size) : ∃ E', (Instr.storeAt t va vx).run P E.w = .ok () E'.w ∧ SR E' σ' ∧ Ext E E' := by
 unfold evStore at h
 split at h
 · rename_i i id ver off hi
   split at h
   · rename_i cs hcs
     split at h
     · rename_i hc
       obtain ⟨h1, h2, h3⟩ := hc
       cases h
       have := hz i hi
       obtain ⟨b, hl, hb⟩ := hS.block_of hcs (show off < cs.length by omega)
       cases ha with | op _ _ _ ad hk hp =>
       have := hp b hl; subst this
       obtain ⟨hs, hv⟩ := hx.cellsOf h1
       obtain ⟨E', hr, hS', hx'⟩ := run_storeCells_put (P := P) x.cells hS hcs hl vx.cells.toList off 0 (by omega) (by simpa using hs) (fun j hj => by
        have := hv j hj
        have e : vx.cells.toList.getD j undef = vx.cells.getD j undef := by simp
        rw [e]; exact this) (AV.okc_one h1)
       refine ⟨E', ?_, by simpa using hS', hx'⟩
       simp only [Instr.storeAt, Instr.sureAddr, Sem.run_bind, Sem.run_pure, Result.andThen_ok, storeVar, run_size _ (hT _ _ hi)]
       have : ¬ (vx.cells.size ≠ i.size) := by omega
       rw [if_neg this]
       exact hr
     · cases h
   · cases h
 · cases h
def evFieldAddr (T : TT) (t : TypeId) (a : AV) (f : Nat) : Option AV :=
 match T t with
 | some i => match i.desc with
  | .struct fields => match fields[f]? with
   | some fd => match T fd.type with
    | some j => if j.size = 0 then none else
     match a with
     | .op id ver off => some (.op id ver (off + fd.offset))
     | .dp cells off => some (.dp cells (off + fd.offset))
     | _ => none
    | none => none
   | none => none
  | _ => none
 | none => none
theorem run_evFieldAddr {P : Program} {T : TT} (hT : TOK P T) {E : Env} {σ : Store} (hS : SR E σ) {t : TypeId} {a : AV} {va : Value} (ha : VR E a va) {f : Nat} {r : AV} (h : evFieldAddr T t a f = some r) :
 Out P E (Instr.fieldAt t va f) r σ := by
 unfold evFieldAddr at h
 split at h
 · rename_i i hi
   split at h
   · rename_i fields hd
     split at h
     · rename_i fd hf
       split at h
       · rename_i j hj
         split at h
         · cases h
         · rename_i hsz
           have run : ∀ ad : Addr, (Instr.fieldAt t (.pointer (some ad)) f).run P E.w = .ok (.pointer (some (ad.add fd.offset))) E.w := fun ad => by
            simp only [Instr.fieldAt, Sem.run_bind, zq _ (hT _ _ hi), Result.andThen_ok, hd, hf, Instr.sureAddr, Sem.run_pure, fieldPlace, run_size _ (hT _ _ hj), if_neg hsz]
           split at h
           · cases h
             cases ha with | op _ _ _ ad hk hp =>
             exact .same hS (run ad) (.op _ _ _ _ hk fun b hb => by rw [hp b hb, add_plain])
           · cases h
             cases ha with | dp _ _ b o vs hr hv =>
             exact .same hS (run _) (by rw [add_plain, Nat.add_assoc]; exact .dp _ _ b o vs hr hv)
           · cases h
       · cases h
     · cases h
   · cases h
 · cases h
def evIndexAddr (T : TT) (t : TypeId) (x ix : AV) : Option AV :=
 match T t, ix with
 | some i, .int _ k =>
  match i.desc with
  | .slice e => match T e with
   | some j =>
    match x with
    | .os _ _ id ver off len _ => if 0 ≤ k ∧ k < len then some (.op id ver (off + k.toNat * j.size)) else none
    | .ds _ cells len _ => if 0 ≤ k ∧ k < len ∧ k.toNat * j.size < cells.length then some (.dp cells (k.toNat * j.size)) else none
    | _ => none
   | none => none
  | .array len e => match T e with
   | some j =>
    match x with
    | .op id ver off => if 0 ≤ k ∧ k < len then some (.op id ver (off + k.toNat * j.size)) else none
    | .dp cells off => if 0 ≤ k ∧ k < len then some (.dp cells (off + k.toNat * j.size)) else none
    | _ => none
   | none => none
  | _ => none
 | _, _ => none
theorem Row.zero {w : World} {st : Nat → Prop} {b o : Nat} {vs : Nat → Value} : Row w st b o 0 vs := .inl rfl
theorem addr_eta (a : Addr) (h : a.spot = none) : a = ⟨a.block, a.off, none⟩ := by
 cases a; simp_all
theorem run_evIndexAddr {P : Program} {T : TT} (hT : TOK P T) {E : Env} {σ : Store} (hS : SR E σ) {t : TypeId} {x ix : AV} {vx vi : Value} (hx : VR E x vx) (hi : VR E ix vi) {r : AV}
 (h : evIndexAddr T t x ix = some r) : Out P E (Instr.indexAt t vx vi) r σ := by
 unfold evIndexAddr at h
 split at h
 · rename_i i kk k hti
   cases hi
   split at h
   · rename_i e hd
     split at h
     · rename_i j hj
       have run : ∀ (ad : Addr) (len cap : Nat), 0 ≤ k ∧ k < len → (Instr.indexAt t (.slice (some ad) len cap) (.int kk k)).run P E.w = .ok (.pointer (some (ad.add (k.toNat * j.size)))) E.w := fun ad len cap hk => by
        simp only [Instr.indexAt, asIntOf, Sem.run_bind, Sem.run_pure, Result.andThen_ok, zq _ (hT _ _ hti), hd]
        rw [if_pos hk]
        simp only [Sem.run_bind, run_size _ (hT _ _ hj), Result.andThen_ok, Sem.run_pure]
       split at h
       · split at h
         · rename_i hk
           cases h
           cases hx with
           | osn => omega
           | os _ _ _ _ _ _ _ ad cap hok hc ht hB hp =>
            refine .same hS (run ad _ cap hk) (.op _ _ _ _ hok fun b hb => ?_)
            obtain ⟨b', e1, e2, _⟩ := hp _ hb
            cases e1
            rw [e2.resolve_left (by omega), add_plain]
         · cases h
       · split at h
         · rename_i cells len tight hk
           cases h
           cases hx with
           | dsn => simp at hk
           | ds _ _ _ _ ad cap vs hsp hr hv hc ht hB =>
            have hsp' : ad.spot = none := hsp.resolve_left (by intro e; subst e; simp at hk)
            refine .same hS (run ad _ cap ⟨hk.1, hk.2.1⟩) ?_
            rw [addr_eta ad hsp', add_plain]
            exact .dp _ _ _ _ vs hr hv
         · cases h
       all_goals cases h
     · cases h
   · rename_i len e hd
     split at h
     · rename_i j hj
       have run : ∀ (ad : Addr), 0 ≤ k ∧ k < len → (Instr.indexAt t (.pointer (some ad)) (.int kk k)).run P E.w = .ok (.pointer (some (ad.add (k.toNat * j.size)))) E.w := fun ad hk => by
        simp only [Instr.indexAt, asIntOf, Sem.run_bind, Sem.run_pure, Result.andThen_ok, zq _ (hT _ _ hti), hd, Instr.sureAddr]
        rw [if_pos hk]
        simp only [Sem.run_bind, run_size _ (hT _ _ hj), Result.andThen_ok, Sem.run_pure]
       split at h
       · split at h
         · rename_i hk
           cases h
           cases hx with | op _ _ _ ad hok hp =>
           exact .same hS (run ad hk) (.op _ _ _ _ hok fun b hb => by rw [hp b hb, add_plain])
         · cases h
       · split at h
         · rename_i hk
           cases h
           cases hx with | dp _ _ b o vs hr hv =>
           exact .same hS (run _ hk) (by rw [add_plain, Nat.add_assoc]; exact .dp _ _ b o vs hr hv)
         · cases h
       · cases h
     · cases h
   · cases h
 · cases h
def evField (T : TT) (t : TypeId) (x : AV) (f : Nat) : Option AV :=
 match T t, x with
 | some i, .agg cs => match i.desc with
  | .struct fields => match fields[f]? with
   | some fd => match T fd.type with
    | some j => evRd cs fd.offset j.size j.agg
    | none => none
   | none => none
  | _ => none
 | _, _ => none
theorem run_part {P : Program} {E : Env} {t : TypeId} {i : TI} (hT : TI.OK P t i) {cs : List AV} {vs : Array Value} (hl : vs.size = cs.length) (hv : ∀ i, i < cs.length → VR E (gc cs i) (vs.getD i undef)) {off : Nat} {r : AV}
 (h : evRd cs off i.size i.agg = some r) : ∃ cv, (part t vs off).run P E.w = .ok cv E.w ∧ VR E r cv := by
 unfold evRd at h
 unfold part
 simp only [Sem.run_bind, run_agg _ hT, Result.andThen_ok]
 cases hg : i.agg with
 | true =>
  simp only [hg, if_true] at h
  split at h
  · rename_i hle
    cases h
    refine ⟨.agg (vs.extract off (off + i.size)), by simp only [if_true, Sem.run_bind, run_size _ hT, Result.andThen_ok]; rfl, .agg _ _ (by simp; omega) fun j hj => ?_⟩
    have hj' : j < i.size := by simp at hj; omega
    rw [gc_drop_take _ _ _ _ hj' hle]
    have : (vs.extract off (off + i.size)).getD j undef = vs.getD (off + j) undef := by
     simp only [Array.getD_eq_getD_getElem?, Array.getElem?_extract]
     rw [if_pos (by omega)]
    rw [this]; exact hv _ (by omega)
  · cases h
 | false =>
  simp only [hg, Bool.false_eq_true, if_false] at h
  split at h
  · rename_i hlt
    cases h
    refine ⟨vs.getD off undef, ?_, hv off hlt⟩
    have : vs[off]? = some (vs.getD off undef) := by simp [show off < vs.size by omega]
    simp only [Bool.false_eq_true, if_false, this, Sem.run_pure]
  · cases h
theorem run_evField {P : Program} {T : TT} (hT : TOK P T) {E : Env} {σ : Store} (hS : SR E σ) {t : TypeId} {x : AV} {vx : Value} (hx : VR E x vx) {f : Nat} {r : AV} (h : evField T t x f = some r) :
 Out P E (Instr.field t vx f) r σ := by
 unfold evField at h
 split at h
 · rename_i i cs hi
   cases hx with | agg _ vs hl hv =>
   split at h
   · rename_i fields hd
     split at h
     · rename_i fd hf
       split at h
       · rename_i j hj
         obtain ⟨cv, hr, hv'⟩ := run_part (hT _ _ hj) hl hv h
         refine .same hS (cv := cv) ?_ hv'
         simp only [Instr.field, Sem.run_bind, zq _ (hT _ _ hi), Result.andThen_ok, hd, hf, asAgg, Sem.run_pure]
         exact hr
       · cases h
     · cases h
   · cases h
 · cases h
def evIndex (T : TT) (t : TypeId) (x ix : AV) : Option AV :=
 match T t, x, ix with
 | some i, .agg cs, .int _ k => match i.desc with
  | .array len e => match T e with
   | some j => if 0 ≤ k ∧ k < len then evRd cs (k.toNat * j.size) j.size j.agg else none
   | none => none
  | _ => none
 | some i, .str s, .int _ k => match i.desc with
  | .string => if 0 ≤ k ∧ k < s.length then some (.int .u8 ((s.getD k.toNat 0).toNat)) else none
  | _ => none
 | _, _, _ => none
theorem run_evIndex {P : Program} {T : TT} (hT : TOK P T) {E : Env} {σ : Store} (hS : SR E σ) {t : TypeId} {x ix : AV} {vx vi : Value} (hx : VR E x vx) (hi : VR E ix vi) {r : AV} (h : evIndex T t x ix = some r) :
 Out P E (Instr.index t vx vi) r σ := by
 unfold evIndex at h
 split at h
 · rename_i i cs kk k hti
   cases hi
   cases hx with | agg _ vs hl hv =>
   split at h
   · rename_i len e hd
     split at h
     · rename_i j hj
       split at h
       · rename_i hk
         obtain ⟨cv, hr, hv'⟩ := run_part (hT _ _ hj) hl hv h
         refine .same hS (cv := cv) ?_ hv'
         simp only [Instr.index, asIntOf, Sem.run_bind, Sem.run_pure, Result.andThen_ok, zq _ (hT _ _ hti), hd]
         rw [if_pos hk]
         simp only [Sem.run_bind, run_size _ (hT _ _ hj), Result.andThen_ok]
         exact hr
       · cases h
     · cases h
   · cases h
 · rename_i i s kk k hti
   cases hi
   cases hx with | str _ b hb =>
   split at h
   · rename_i hd
     split at h
     · rename_i hk
       cases h
       subst hb
       have hlt : k.toNat < b.size := by have := hk.2; rw [Array.length_toList] at this; have : k < (b.size : Int) := this; omega
       refine .same hS (cv := .int .u8 (b[k.toNat].toNat)) ?_ ?_
       · simp only [Instr.index, asIntOf, Sem.run_bind, Sem.run_pure, Result.andThen_ok, zq _ (hT _ _ hti), hd]
         rw [if_pos hk.1, getElem?_pos b k.toNat hlt]
         rfl
       · have : b.data.toList.getD k.toNat 0 = b[k.toNat] := by
          have h2 : k.toNat < b.data.toList.length := by rw [Array.length_toList]; exact hlt
          rw [List.getD_eq_getElem?_getD, List.getElem?_eq_getElem h2]; rfl
         rw [this]; exact .int _ _
     · cases h
   · cases h
 · cases h
def evExtract (x : AV) (i : Nat) : Option AV :=
 match x with
 | .tup vs => if i < vs.length then some (gc vs i) else none
 | _ => none
theorem run_evExtract {P : Program} {E : Env} {σ : Store} (hS : SR E σ) {x : AV} {vx : Value} (hx : VR E x vx) {i : Nat} {r : AV} (h : evExtract x i = some r) : Out P E (Instr.extract vx i) r σ := by
 unfold evExtract at h
 split at h
 · cases hx with | tup cs vs hl hv =>
   split at h
   · rename_i hi
     cases h
     refine .same hS (cv := vs.getD i undef) ?_ (hv i hi)
     have : vs[i]? = some (vs.getD i undef) := by simp [show i < vs.size by omega]
     simp only [Instr.extract, this, Sem.run_pure]
   · cases h
 · cases h
def evBox (T : TT) (t : TypeId) (x : AV) (σ : Store) : Option (AV × Store) :=
 match T t with
 | some i => if x.okc = true ∧ x.cells.length = i.size then some (.op σ.length 0 0, σ ++ [.cells 0 x.cells]) else none
 | none => none
theorem run_newVar {P : Program} {E : Env} {σ : Store} (hS : SR E σ) {x : AV} {vx : Value} (hx : VR E x vx) (ho : x.okc = true) (t : TypeId) :
 ∃ E', (do pure (.pointer (some (← newVar t vx))) : Sem Value).run P E.w = .ok (.pointer (some ⟨E.w.heap.size, 0, none⟩)) E'.w ∧ VR E' (.op σ.length 0 0) (.pointer (some ⟨E.w.heap.size, 0, none⟩)) ∧
  SR E' (σ ++ [.cells 0 x.cells]) ∧ Ext E E' := by
 obtain ⟨hs, hv⟩ := hx.cellsOf ho
 obtain ⟨hS', hx'⟩ := hS.newRow vx.cells t x.cells (by omega) hv
 refine ⟨_, ?_, ?_, hS', hx'⟩
 · simp only [newVar, Go.newRow, Sem.run_bind, run_newObj, Result.andThen_ok, Sem.run_pure]; rfl
 · refine .op _ _ _ _ (Env.ok_new hS _ _) fun b hb => ?_
   rw [Env.loc_new hS] at hb
   cases hb; rfl
theorem run_evBox {P : Program} {T : TT} {E : Env} {σ σ' : Store} (hS : SR E σ) {t : TypeId} {x : AV} {vx : Value} (hx : VR E x vx) {r : AV} (h : evBox T t x σ = some (r, σ')) :
 Out P E (Instr.box t vx) r σ' := by
 unfold evBox at h
 split at h
 · split at h
   · rename_i hc
     cases h
     obtain ⟨E', h1, h2, h3, h4⟩ := run_newVar (P := P) hS hx hc.1 t
     exact ⟨_, E', h1, h2, h3, h4⟩
   · cases h
 · cases h
def evAlloc (T : TT) (t : TypeId) (σ : Store) : Option (AV × Store) :=
 match T t with
 | some i => if i.zero.okc = true then some (.op σ.length 0 0, σ ++ [.cells 0 i.zero.cells]) else none
 | none => none
theorem run_evAlloc {P : Program} {T : TT} (hT : TOK P T) {E : Env} {σ σ' : Store} (hS : SR E σ) {t : TypeId} {r : AV} (h : evAlloc T t σ = some (r, σ')) :
 Out P E (Instr.alloc t true (.tuple #[])) r σ' := by
 unfold evAlloc at h
 split at h
 · rename_i i hi
   split at h
   · rename_i hc
     cases h
     obtain ⟨z, hz, _, hv⟩ := run_zero (w := E.w) (hT _ _ hi)
     obtain ⟨E', h1, h2, h3, h4⟩ := run_newVar (P := P) hS (hv E) hc t
     refine ⟨_, E', ?_, h2, h3, h4⟩
     simp only [Instr.alloc, Sem.run_bind, hz, Result.andThen_ok]
     exact h1
   · cases h
 · cases h
theorem run_float {P : Program} {T : TT} (hT : TOK P T) {E : Env} {σ σ' σ0 : Store} (hS : SR E σ0) {t : TypeId} {r : AV} (h : evAlloc T t σ = some (r, σ')) :
 ∃ cs w' v, r = .op σ.length 0 0 ∧ σ' = σ ++ [.cells 0 cs] ∧ (Instr.alloc t true (.tuple #[])).run P E.w = .ok v w' ∧ Grew E.w w' ∧ E.w.heap.size < w'.heap.size ∧ Flt E.w.heap.size { E with w := w' } cs v E.w.heap.size := by
 unfold evAlloc at h
 split at h
 · rename_i i hi
   split at h
   · rename_i hc
     cases h
     obtain ⟨z, hz, _, hv⟩ := run_zero (w := E.w) (hT _ _ hi)
     obtain ⟨hs, hv'⟩ := (hv E).cellsOf hc
     have hg := Grew.alloc E.w (.cells z.cells t)
     have hx : Ext E { E with w := E.w.alloc (.cells z.cells t) } := Ext.grew hS.stb hg
     refine ⟨_, _, _, rfl, rfl, ?_, hg, by simp, rfl, Nat.le_refl _, by simp, fun hs => Nat.lt_irrefl _ (hS.stb _ hs), fun id v hl => Nat.lt_irrefl _ (hS.blk id v _ hl).1, z.cells, t, (0, 0), heap_push_new _ _, by simp, by omega, fun i hi => (hv' i hi).ext hx⟩
     simp only [Instr.alloc, Sem.run_bind, hz, Result.andThen_ok, newVar, Go.newRow, run_newObj, Sem.run_pure]; rfl
   · cases h
 · cases h
end AM
end Go.Proofs.YtaddlmlpeghonaaDoor
