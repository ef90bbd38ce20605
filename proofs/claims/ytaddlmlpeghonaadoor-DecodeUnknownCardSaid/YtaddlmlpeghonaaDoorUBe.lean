import Derived.Test.YtaddlmlpeghonaaDoorUBd
import Derived.Laws.Append
set_option linter.unusedSimpArgs false
set_option linter.unusedVariables false
set_option linter.constructorNameAsVariable false
namespace Go.Proofs.YtaddlmlpeghonaaDoor
namespace AM
open Go.RowKit
def bys (l : List UInt8) : List AV := l.map fun b => .int .u8 b.toNat
theorem length_bys (l : List UInt8) : (bys l).length = l.length := by simp [bys]
def optI (d : Int) : Option AV → Option Int
 | none => some d
 | some (.int _ k) => some k
 | _ => none
def cutOf (cells : List AV) (sz l h : Nat) : List AV := (cells.drop (l * sz)).take ((h - l) * sz)
def evSlice (T : TT) (t : TypeId) (x : AV) (lo hi mx : Option AV) : Option AV :=
 match T t with
 | some i =>
  match i.desc, x with
  | .string, .str s =>
   match optI 0 lo, optI s.length hi, mx with
   | some l, some h, none => if 0 ≤ l ∧ l ≤ h ∧ h ≤ s.length then some (.str ((s.drop l.toNat).take (h.toNat - l.toNat))) else none
   | _, _, _ => none
  | .slice e, .ds nl cells len tight =>
   match T e, optI 0 lo, optI len hi, mx with
   | some j, some l, some h, none => if 0 ≤ l ∧ l ≤ h ∧ h ≤ len then some (.ds nl (cutOf cells j.size l.toNat h.toNat) (h.toNat - l.toNat) (tight && decide (h = len))) else none
   | some j, some l, some h, some (.int _ m) => if 0 ≤ l ∧ l ≤ h ∧ h ≤ m ∧ m ≤ len ∧ hi.isSome then some (.ds nl (cutOf cells j.size l.toNat h.toNat) (h.toNat - l.toNat) (decide (m = h))) else none
   | _, _, _, _ => none
  | .slice e, .os nl sz id ver off len tight =>
   match T e, optI 0 lo, optI len hi, mx with
   | some j, some l, some h, none => if 0 ≤ l ∧ l ≤ h ∧ h ≤ len ∧ sz = j.size then some (.os nl sz id ver (off + l.toNat * sz) (h.toNat - l.toNat) (tight && decide (h = len))) else none
   | some j, some l, some h, some (.int _ m) => if 0 ≤ l ∧ l ≤ h ∧ h ≤ m ∧ m ≤ len ∧ hi.isSome ∧ sz = j.size then some (.os nl sz id ver (off + l.toNat * sz) (h.toNat - l.toNat) (decide (m = h))) else none
   | _, _, _, _ => none
  | _, _ => none
 | none => none
theorem run_bound {P : Program} {w : World} {k : IntKind} {i : Int} {y : Nat} {c : BoundsCode} (h : 0 ≤ i ∧ i ≤ y) : (Instr.sliceBound (.int k i) y c).run P w = .ok i.toNat w := by
 simp only [Instr.sliceBound, asIntOf, Sem.run_bind, Sem.run_pure, Result.andThen_ok]
 rw [if_pos h]; rfl
def OptR (E : Env) : Option AV → Option Value → Prop
 | none, none => True
 | some a, some v => VR E a v
 | _, _ => False
theorem run_bounds {P : Program} {E : Env} {lo hi : Option AV} {vlo vhi : Option Value} (hlo : OptR E lo vlo) (hhi : OptR E hi vhi) {b : Bool} {len cap : Nat} {l h : Int}
 (h1 : optI 0 lo = some l) (h2 : optI len hi = some h) (hl : 0 ≤ l) (hlh : l ≤ h) (hh : h ≤ len) (hc : len ≤ cap) : (Instr.sliceBounds b len cap vlo vhi none).run P E.w = .ok (l.toNat, h.toNat, cap) E.w := by
 have eh : (match (vhi, (none : Option Value)) with
  | (some v, some _) => Instr.sliceBound v cap .slice3B
  | (some v, none) => Instr.sliceBound v cap (if b then .sliceAcap else .sliceAlen)
  | (none, none) => pure len
  | (none, some _) => stuck "Slice: max without high").run P E.w = .ok h.toNat E.w := by
  cases hi with
  | none =>
   cases vhi with
   | none => simp only [optI, Option.some.injEq] at h2; subst h2; simp
   | some v => exact hhi.elim
  | some a =>
   cases vhi with
   | none => exact hhi.elim
   | some v =>
    cases a <;> simp only [optI, reduceCtorEq, Option.some.injEq] at h2
    subst h2
    cases hhi
    exact run_bound ⟨by omega, by omega⟩
 have el : (match vlo with
  | some v => Instr.sliceBound v h.toNat (if (none : Option Value).isSome then .slice3C else .sliceB)
  | none => pure 0).run P E.w = .ok l.toNat E.w := by
  cases lo with
  | none =>
   cases vlo with
   | none => simp only [optI, Option.some.injEq] at h1; subst h1; simp
   | some v => exact hlo.elim
  | some a =>
   cases vlo with
   | none => exact hlo.elim
   | some v =>
    cases a <;> simp only [optI, reduceCtorEq, Option.some.injEq] at h1
    subst h1
    cases hlo
    exact run_bound ⟨by omega, by omega⟩
 unfold Instr.sliceBounds
 simp only [Sem.run_bind, Sem.run_pure, Result.andThen_ok]
 cases vhi <;> cases vlo <;> simp only [] at eh el ⊢ <;> (simp only [Sem.run_bind]; rw [eh]; simp only [Result.andThen_ok]; rw [el]; rfl)
theorem run_bounds3 {P : Program} {E : Env} {lo hi : Option AV} {vlo vhi : Option Value} (hlo : OptR E lo vlo) (hhi : OptR E hi vhi) {b : Bool} {len cap : Nat} {l h m : Int} {k : IntKind}
 (h1 : optI 0 lo = some l) (h2 : optI len hi = some h) (hs : hi.isSome = true) (hl : 0 ≤ l) (hlh : l ≤ h) (hhm : h ≤ m) (hm : m ≤ cap) :
 (Instr.sliceBounds b len cap vlo vhi (some (.int k m))).run P E.w = .ok (l.toNat, h.toNat, m.toNat) E.w := by
 cases hi with
 | none => cases hs
 | some a =>
  cases vhi with
  | none => exact hhi.elim
  | some v =>
   cases a <;> simp only [optI, reduceCtorEq, Option.some.injEq] at h2
   subst h2
   cases hhi
   unfold Instr.sliceBounds
   simp only [Sem.run_bind]
   rw [run_bound ⟨by omega, hm⟩]
   simp only [Result.andThen_ok]
   rw [run_bound ⟨by omega, by omega⟩]
   simp only [Result.andThen_ok]
   cases lo with
   | none =>
    cases vlo with
    | none => simp only [optI, Option.some.injEq] at h1; subst h1; simp
    | some v => exact hlo.elim
   | some a =>
    cases vlo with
    | none => exact hlo.elim
    | some v =>
     cases a <;> simp only [optI, reduceCtorEq, Option.some.injEq] at h1
     subst h1
     cases hlo
     simp only [Sem.run_bind]
     rw [run_bound ⟨by omega, by omega⟩]
     simp
theorem VR.cutds {E : Env} {nl : Bool} {cells : List AV} {a : Addr} {cap : Nat} {vs : Nat → Value} (ha : cells = [] ∨ a.spot = none) (hr : Row E.w E.st a.block a.off cells.length vs)
 (h : ∀ i, i < cells.length → VR E (gc cells i) (vs i)) (sz l hh m : Nat) (hl : l ≤ hh) (hhm : hh ≤ m) (hmc : m ≤ cap) (hB : hh ≤ 9223372036854775807) (tight : Bool) (ht : tight = true → m = hh) :
 VR E (.ds nl (cutOf cells sz l hh) (hh - l) tight) (.slice (some (if m = l then a else a.add (l * sz))) (hh - l) (m - l)) := by
 have hlen : (cutOf cells sz l hh).length = min ((hh - l) * sz) (cells.length - l * sz) := by simp [cutOf]
 by_cases hml : m = l
 · have h0 : hh - l = 0 := by omega
   have hnil : cutOf cells sz l hh = [] := by simp [cutOf, h0]
   rw [if_pos hml, hnil]
   exact .ds _ _ _ _ a _ vs (.inl rfl) Row.zero (fun i hi => absurd hi (by simp)) (by omega) (fun e => by have := ht e; omega) (by omega)
 · rw [if_neg hml]
   by_cases hc : cutOf cells sz l hh = []
   · rw [hc]
     exact .ds _ _ _ _ _ _ vs (.inl rfl) Row.zero (fun i hi => absurd hi (by simp)) (by omega) (fun e => by have := ht e; omega) (by omega)
   · have hne : cells ≠ [] := by intro e; subst e; simp [cutOf] at hc
     have hsp := ha.resolve_left hne
     have e : a.add (l * sz) = ⟨a.block, a.off + l * sz, none⟩ := by rw [addr_eta a hsp, add_plain]
     have hpos : 0 < (cutOf cells sz l hh).length := List.length_pos_iff.2 hc
     rw [e]
     refine .ds _ _ _ _ _ _ (fun i => vs (l * sz + i)) (.inr rfl) ?_ (fun i hi => ?_) (by omega) (fun e => by have := ht e; omega) (by omega)
     · rcases hr with hr | ⟨h1, h2⟩
       · exact absurd (List.length_eq_zero_iff.1 hr) hne
       · exact .inr ⟨h1, fun i hi => by rw [Nat.add_assoc]; exact h2 _ (by omega)⟩
     · have hg : gc (cutOf cells sz l hh) i = gc cells (l * sz + i) := by
        simp only [cutOf, gc, List.getD_eq_getElem?_getD, List.getElem?_take, List.getElem?_drop]
        rw [if_pos (by omega)]
       rw [hg]; exact h _ (by omega)
theorem VR.cutos {E : Env} {nl : Bool} {sz id ver off : Nat} {a : Addr} {cap : Nat} (hk : E.ok id ver)
 (h : ∀ ob, E.loc id = some (ver, ob) → ∃ b, ob = some b ∧ (cap = 0 ∨ a = ⟨b, off, none⟩) ∧ ∃ t m, E.w.shape? b = some (t, m) ∧ tsize t = sz ∧ off + cap * sz ≤ m) (l hh m : Nat) (hl : l ≤ hh) (hhm : hh ≤ m) (hmc : m ≤ cap) (hB : hh ≤ 9223372036854775807) (tight : Bool) (ht : tight = true → m = hh) :
 VR E (.os nl sz id ver (off + l * sz) (hh - l) tight) (.slice (some (if m = l then a else a.add (l * sz))) (hh - l) (m - l)) := by
 refine .os _ _ _ _ _ _ _ _ _ hk (by omega) (fun e => by have := ht e; omega) (by omega) fun ob hob => ?_
 obtain ⟨b, e1, e2, t, q, e3, e5, e4⟩ := h ob hob
 refine ⟨b, e1, ?_, t, q, e3, e5, ?_⟩
 · by_cases hml : m = l
   · exact .inl (by omega)
   · rw [if_neg hml, e2.resolve_left (by omega), add_plain]; exact .inr rfl
 · have : l * sz + (m - l) * sz = m * sz := by rw [← Nat.add_mul]; congr 1; omega
   have : m * sz ≤ cap * sz := Nat.mul_le_mul_right _ hmc
   omega
theorem run_evSlice {P : Program} {T : TT} (hT : TOK P T) {E : Env} {σ : Store} (hS : SR E σ) {t : TypeId} {x : AV} {vx : Value} (hx : VR E x vx) {lo hi mx : Option AV} {vlo vhi vmx : Option Value}
 (hlo : OptR E lo vlo) (hhi : OptR E hi vhi) (hmx : OptR E mx vmx) {r : AV} (h : evSlice T t x lo hi mx = some r) : Out P E (Instr.sliceAt t vx vlo vhi vmx) r σ := by
 unfold evSlice at h
 split at h
 · rename_i i hti
   have at_ : ∀ (d : TypeDesc), i.desc = d → (∀ n e, d ≠ .array n e) → (Instr.sliceAt t vx vlo vhi vmx).run P E.w = (Instr.slice t vx vlo vhi vmx).run P E.w := fun d hd hne => by
    simp only [Instr.sliceAt, Sem.run_bind, zq _ (hT _ _ hti), Result.andThen_ok, hd]
    all_goals (cases d <;> first | rfl | exact absurd rfl (hne _ _))
   split at h
   · rename_i s hd
     cases hx with | str _ b hb =>
     split at h
     · rename_i l hh h1 h2
       split at h
       · rename_i hc
         cases h
         subst hb
         cases vmx with
         | some v => exact hmx.elim
         | none =>
         have hsz : b.data.toList.length = b.size := by rw [Array.length_toList]; rfl
         rw [hsz] at h2 hc
         have hb := run_bounds (P := P) hlo hhi (b := false) (cap := b.size) h1 h2 hc.1 hc.2.1 hc.2.2 (Nat.le_refl _)
         refine .same hS (cv := .string (b.extract l.toNat hh.toNat)) ?_ (.str _ _ ?_)
         · rw [at_ _ hd (by simp)]
           simp only [Instr.slice, Sem.run_bind, zq _ (hT _ _ hti), Result.andThen_ok, hd]
           simp only [Option.isSome_none, Bool.false_eq_true, if_false, Sem.run_bind, Sem.run_pure, Result.andThen_ok, hb]
         · simp [List.take_drop]
       · cases h
     · cases h
   · rename_i e nl cells len tight hd
     split at h
     · rename_i j l hh hj h1 h2
       split at h
       · rename_i hc
         cases h
         cases vmx with
         | some v => exact hmx.elim
         | none =>
         cases hx with
         | dsn =>
          have hh0 : hh = 0 := by have := hc.2.2; omega
          have hl0 : l = 0 := by omega
          subst hh0; subst hl0
          refine .same hS (cv := .slice none 0 0) ?_ ?_
          · rw [at_ _ hd (by simp)]
            simp only [Instr.slice, Sem.run_bind, zq _ (hT _ _ hti), Result.andThen_ok, hd]
            rw [run_bounds (P := P) hlo hhi (b := true) (cap := 0) h1 h2 (by omega) (by omega) (by omega) (Nat.le_refl _)]
            simp [run_size _ (hT _ _ hj)]
          · simp only [cutOf, Int.toNat_zero, Nat.zero_mul, Nat.sub_self, List.drop_nil, List.take_nil]
            exact .dsn _
         | ds _ _ _ _ a cap vs ha hr hv hcap ht hB =>
          refine .same hS (cv := .slice (some (if cap = l.toNat then a else a.add (l.toNat * j.size))) (hh.toNat - l.toNat) (cap - l.toNat)) ?_ ?_
          · rw [at_ _ hd (by simp)]
            simp only [Instr.slice, Sem.run_bind, zq _ (hT _ _ hti), Result.andThen_ok, hd]
            rw [run_bounds (P := P) hlo hhi (b := true) (cap := cap) h1 h2 hc.1 hc.2.1 hc.2.2 hcap]
            simp only [Result.andThen_ok, run_size _ (hT _ _ hj), Sem.run_pure]
            split <;> rfl
          · refine VR.cutds (cap := cap) ha hr hv j.size _ _ cap (by omega) (by omega) (Nat.le_refl _) (by omega) _ fun e => ?_
            simp only [Bool.and_eq_true, decide_eq_true_eq] at e
            have := ht e.1; omega
       · cases h
     · rename_i j l hh k m hj h1 h2
       split at h
       · rename_i hc
         obtain ⟨c1, c2, c3, c4, c5⟩ := hc
         cases h
         cases vmx with
         | none => exact hmx.elim
         | some v =>
         cases hmx
         cases hx with
         | dsn =>
          have hm0 : m = 0 := by omega
          have hh0 : hh = 0 := by omega
          have hl0 : l = 0 := by omega
          subst hm0; subst hh0; subst hl0
          refine .same hS (cv := .slice none 0 0) ?_ ?_
          · rw [at_ _ hd (by simp)]
            simp only [Instr.slice, Sem.run_bind, zq _ (hT _ _ hti), Result.andThen_ok, hd]
            rw [run_bounds3 (P := P) hlo hhi (b := true) (cap := 0) h1 h2 c5 (by omega) (by omega) (by omega) (by omega)]
            simp [run_size _ (hT _ _ hj)]
          · simp only [cutOf, Int.toNat_zero, Nat.zero_mul, Nat.sub_self, List.drop_nil, List.take_nil]
            exact .dsn _
         | ds _ _ _ _ a cap vs ha hr hv hcap ht hB =>
          refine .same hS (cv := .slice (some (if m.toNat = l.toNat then a else a.add (l.toNat * j.size))) (hh.toNat - l.toNat) (m.toNat - l.toNat)) ?_ ?_
          · rw [at_ _ hd (by simp)]
            simp only [Instr.slice, Sem.run_bind, zq _ (hT _ _ hti), Result.andThen_ok, hd]
            rw [run_bounds3 (P := P) hlo hhi (b := true) (cap := cap) h1 h2 c5 c1 c2 c3 (by omega)]
            simp only [Result.andThen_ok, run_size _ (hT _ _ hj), Sem.run_pure]
            split <;> rfl
          · refine VR.cutds (cap := cap) ha hr hv j.size _ _ m.toNat (by omega) (by omega) (by omega) (by omega) _ fun e => ?_
            simp only [decide_eq_true_eq] at e
            omega
       · cases h
     · cases h
   · rename_i e nl sz id ver off len tight hd
     split at h
     · rename_i j l hh hj h1 h2
       split at h
       · rename_i hc
         obtain ⟨c1, c2, c3, c4⟩ := hc
         subst c4
         cases h
         cases vmx with
         | some v => exact hmx.elim
         | none =>
         cases hx with
         | osn _ _ _ _ _ a0 hk hn =>
          have hh0 : hh = 0 := by omega
          have hl0 : l = 0 := by omega
          subst hh0; subst hl0
          refine .same hS (cv := .slice a0 0 0) ?_ (.osn _ _ _ _ _ _ hk hn)
          rw [at_ _ hd (by simp)]
          simp only [Instr.slice, Sem.run_bind, zq _ (hT _ _ hti), Result.andThen_ok, hd]
          rw [run_bounds (P := P) hlo hhi (b := true) (cap := 0) h1 h2 (by omega) (by omega) (by omega) (Nat.le_refl _)]
          cases a0 <;> simp [run_size _ (hT _ _ hj)]
         | os _ _ _ _ _ _ _ a cap hk hcap ht hB hp =>
          refine .same hS (cv := .slice (some (if cap = l.toNat then a else a.add (l.toNat * j.size))) (hh.toNat - l.toNat) (cap - l.toNat)) ?_ ?_
          · rw [at_ _ hd (by simp)]
            simp only [Instr.slice, Sem.run_bind, zq _ (hT _ _ hti), Result.andThen_ok, hd]
            rw [run_bounds (P := P) hlo hhi (b := true) (cap := cap) h1 h2 c1 c2 c3 hcap]
            simp only [Result.andThen_ok, run_size _ (hT _ _ hj), Sem.run_pure]
            split <;> rfl
          · refine VR.cutos (cap := cap) hk hp _ _ cap (by omega) (by omega) (Nat.le_refl _) (by omega) _ fun e => ?_
            simp only [Bool.and_eq_true, decide_eq_true_eq] at e
            have := ht e.1; omega
       · cases h
     · rename_i j l hh k m hj h1 h2
       split at h
       · rename_i hc
         obtain ⟨c1, c2, c3, c4, c5, c6⟩ := hc
         subst c6
         cases h
         cases vmx with
         | none => exact hmx.elim
         | some v =>
         cases hmx
         cases hx with
         | osn _ _ _ _ _ a0 hk hn =>
          have hm0 : m = 0 := by omega
          have hh0 : hh = 0 := by omega
          have hl0 : l = 0 := by omega
          subst hm0; subst hh0; subst hl0
          refine .same hS (cv := .slice a0 0 0) ?_ (.osn _ _ _ _ _ _ hk hn)
          rw [at_ _ hd (by simp)]
          simp only [Instr.slice, Sem.run_bind, zq _ (hT _ _ hti), Result.andThen_ok, hd]
          rw [run_bounds3 (P := P) hlo hhi (b := true) (cap := 0) h1 h2 c5 (by omega) (by omega) (by omega) (by omega)]
          cases a0 <;> simp [run_size _ (hT _ _ hj)]
         | os _ _ _ _ _ _ _ a cap hk hcap ht hB hp =>
          refine .same hS (cv := .slice (some (if m.toNat = l.toNat then a else a.add (l.toNat * j.size))) (hh.toNat - l.toNat) (m.toNat - l.toNat)) ?_ ?_
          · rw [at_ _ hd (by simp)]
            simp only [Instr.slice, Sem.run_bind, zq _ (hT _ _ hti), Result.andThen_ok, hd]
            rw [run_bounds3 (P := P) hlo hhi (b := true) (cap := cap) h1 h2 c5 c1 c2 c3 (by omega)]
            simp only [Result.andThen_ok, run_size _ (hT _ _ hj), Sem.run_pure]
            split <;> rfl
          · refine VR.cutos (cap := cap) hk hp _ _ m.toNat (by omega) (by omega) (by omega) (by omega) _ fun e => ?_
            simp only [decide_eq_true_eq] at e
            omega
       · cases h
     · cases h
   · cases h
 · cases h
end AM
end Go.Proofs.YtaddlmlpeghonaaDoor
