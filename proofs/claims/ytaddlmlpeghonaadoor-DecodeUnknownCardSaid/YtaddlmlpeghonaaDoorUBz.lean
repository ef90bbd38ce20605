import Derived.Test.YtaddlmlpeghonaaDoorUBy
set_option linter.unusedSimpArgs false
set_option linter.unusedVariables false
set_option linter.constructorNameAsVariable false
namespace Go.Proofs.YtaddlmlpeghonaaDoor
namespace AM
open Go.RowKit
section
variable {T : TT} {t e sz : Nat} {α : Type} {enc : α → List AV}
theorem zeroRun_enc (h : ∀ x, (enc x).length = sz) (hp : 0 < sz) (z : α) (n : Nat) : zeroRun (enc z) (n * sz) = (List.replicate n z).flatMap enc := by
 have hl : (zeroRun (enc z) (n * sz)).length = ((List.replicate n z).flatMap enc).length := by
  rw [zo h]; simp [zeroRun]
 refine List.ext_getElem hl fun i h1 h2 => ?_
 have hi : i < n * sz := by simpa [zeroRun] using h1
 have hk : i / sz < n := by
  rw [Nat.mul_comm] at hi
  exact Nat.div_lt_of_lt_mul hi
 have e1 : gc (zeroRun (enc z) (n * sz)) i = gc (enc z) (i % sz) := by rw [gc_zeroRun _ _ _ hi, h]
 have e2 : gc ((List.replicate n z).flatMap enc) (i / sz * sz + i % sz) = gc (enc z) (i % sz) := by
  rw [enc_gc h (l := List.replicate n z) (by simpa using hk) (Nat.mod_lt _ hp)]; simp
 have e3 : i / sz * sz + i % sz = i := by rw [Nat.mul_comm]; exact Nat.div_add_mod i sz
 rw [e3, ← e1] at e2
 have g : ∀ (l : List AV) (hh : i < l.length), gc l i = l[i] := fun l hh => by simp [gc, hh]
 rw [g _ h2, g _ h1] at e2
 exact e2.symm
theorem Enc.mk0 (h : Enc T t e sz enc) {j : TI} (hj : T e = some j) {z : α} (hz : j.zero.cells = enc z) (hok : j.zero.okc = true) {n : Int} (hg : 0 ≤ n ∧ (j.bytes : Int) * n ≤ 281474976710656 ∧ n < 9223372036854775807) (q q' : IntKind) (σ : Store) :
 evMake T t (.int q n) (.int q' n) σ = some (.os true sz σ.length 0 0 (List.replicate n.toNat z).length true, σ ++ [.cells 0 ((List.replicate n.toNat z).flatMap enc)]) := by
 obtain ⟨i, hi, hd⟩ := h.sl
 obtain ⟨j', hj', hs⟩ := h.el
 rw [hj] at hj'; cases hj'
 simp only [evMake, hi, hd, hj]
 rw [if_pos ⟨hg.1, Int.le_refl _, hg.2.1, hg.2.2, hok, by rw [hz, h.len, hs], by rw [hs]; exact h.pos⟩]
 rw [hz, hs, zeroRun_enc h.len h.pos]
 simp
theorem Enc.slO (h : Enc T t e sz enc) {len : Nat} {a b : Int} (hg : 0 ≤ a ∧ a ≤ b ∧ b ≤ (len : Int)) (q q' : IntKind) (id ver : Nat) (tt : Bool) :
 evSlice T t (.os true sz id ver 0 len tt) (some (.int q a)) (some (.int q' b)) none = some (.os true sz id ver (a.toNat * sz) (b.toNat - a.toNat) (tt && decide (b = (len : Int)))) := by
 obtain ⟨i, hi, hd⟩ := h.sl
 obtain ⟨j, hj, hs⟩ := h.el
 simp only [evSlice, hi, hd, hj, optI]
 rw [if_pos ⟨hg.1, hg.2.1, hg.2.2, hs.symm⟩, Nat.zero_add]
def copyI {α : Type} (l : List α) (a c n : Nat) : List α := l.take a ++ ((l.drop c).take n ++ l.drop (a + n))
theorem copyI_length {l : List α} {a c n : Nat} (h1 : a + n ≤ l.length) (h2 : c + n ≤ l.length) : (copyI l a c n).length = l.length := by
 simp only [copyI, List.length_append, List.length_take, List.length_drop]; omega
theorem Enc.cpO (h : Enc T t e sz enc) (ho : ∀ x, (enc x).all AV.one = true) {l : List α} {a b c d : Int} (hg : 0 ≤ a ∧ a ≤ b ∧ b ≤ (l.length : Int)) (hg' : 0 ≤ c ∧ c ≤ d ∧ d ≤ (l.length : Int)) (t1 t2 : Bool) (σ : Store) (id ver : Nat) (hs : Store.at σ id ver = some (l.flatMap enc)) (hid : σ[id]? = some (.cells ver (l.flatMap enc))) :
 evCopy T t (.os true sz id ver (a.toNat * sz) (b.toNat - a.toNat) t1) (.os true sz id ver (c.toNat * sz) (d.toNat - c.toNat) t2) σ =
  some (.int .i64 ((min (d.toNat - c.toNat) (b.toNat - a.toNat) : Nat) : Int), σ.set id (.cells ver ((copyI l a.toNat c.toNat (min (d.toNat - c.toNat) (b.toNat - a.toNat))).flatMap enc))) := by
 obtain ⟨i, hi, hd⟩ := h.sl
 obtain ⟨j, hj, hz⟩ := h.el
 obtain ⟨a, rfl⟩ : ∃ k : Nat, a = k := ⟨a.toNat, by omega⟩
 obtain ⟨b, rfl⟩ : ∃ k : Nat, b = k := ⟨b.toNat, by omega⟩
 obtain ⟨c, rfl⟩ : ∃ k : Nat, c = k := ⟨c.toNat, by omega⟩
 obtain ⟨d, rfl⟩ : ∃ k : Nat, d = k := ⟨d.toNat, by omega⟩
 simp only [Int.toNat_natCast]
 have g1 : a ≤ b := by omega
 have g2 : b ≤ l.length := by omega
 have g3 : c ≤ d := by omega
 have g4 : d ≤ l.length := by omega
 generalize hn : min (d - c) (b - a) = n
 have hb : a + n ≤ l.length := by omega
 have hc : c + n ≤ l.length := by omega
 have e1 : srcCells σ sz (.os true sz id ver (c * sz) (d - c) t2) = some (d - c, ((l.drop c).take (d - c)).flatMap enc) := by
  have hle : c * sz + (d - c) * sz ≤ (l.flatMap enc).length := by
   rw [zo h.len, ← Nat.add_mul]; exact Nat.mul_le_mul_right _ (by omega)
  simp only [srcCells, hs]
  rw [if_pos hle, enc_drop h.len, enc_take h.len]
 have e2 : List.take (n * sz) (((l.drop c).take (d - c)).flatMap enc) = ((l.drop c).take n).flatMap enc := by
  rw [enc_take h.len, List.take_take]; congr 2; omega
 have e3 : (((l.drop c).take n).flatMap enc).length = n * sz := by
  rw [zo h.len]; congr 1; simp; omega
 have e4 : setRun (l.flatMap enc) (a * sz) (((l.drop c).take n).flatMap enc) = (copyI l a c n).flatMap enc := by
  have f1 : l.flatMap enc = (l.take a).flatMap enc ++ (((l.drop a).take n).flatMap enc ++ (l.drop (a + n)).flatMap enc) := by
   rw [← List.flatMap_append, ← List.flatMap_append, ← List.drop_drop, List.take_append_drop, List.take_append_drop]
  have f2 : ((l.take a).flatMap enc).length = a * sz := by rw [zo h.len]; congr 1; simp; omega
  rw [f1, ← f2, setRun_mid _ _ _ _ (by rw [e3, zo h.len]; congr 1; simp; omega)]
  simp only [copyI, List.flatMap_append]
 have e5 : (((l.drop c).take n).flatMap enc).all AV.one = true := by
  rw [List.all_eq_true]
  intro x hx
  obtain ⟨y, _, hy⟩ := List.mem_flatMap.1 hx
  exact List.all_eq_true.1 (ho y) x hy
 simp only [evCopy, hi, hd, hj, hz, e1, hn, e2, putInto]
 by_cases h0 : n = 0
 · rw [if_pos (.inl h0)]
   subst h0
   have : copyI l a c 0 = l := by simp [copyI]
   rw [this]
   have hset : σ.set id (.cells ver (l.flatMap enc)) = σ := by
    apply List.ext_getElem?
    intro k
    by_cases hk : k = id
    · subst hk
      have hlt := (List.getElem?_eq_some_iff.1 hid).1
      rw [List.getElem?_set_self hlt, hid]
    · rw [List.getElem?_set_ne (fun e => hk e.symm)]
   rw [hset]
 · rw [if_neg (by have := h.pos; omega), hs]
   simp only
   rw [if_pos ⟨trivial, by rw [e3, zo h.len, ← Nat.add_mul]; exact Nat.mul_le_mul_right _ hb, e5⟩, e4]
end
theorem conv_same {T : TT} {s e : TypeId} {i j : TI} (h1 : T s = some i) (h2 : i.desc = .slice e) (h3 : T e = some j) (h4 : j.desc = .int .u8) {σ : Store} {id ver off len sz : Nat} {nl t : Bool} {cs : List AV} (hs : Store.at σ id ver = some cs) (hl : off < cs.length ∧ 0 < len ∧ sz = 1) :
 evConv T s s (.os nl sz id ver off len t) σ = some (.os nl sz id ver off len t, σ) := by
 simp only [evConv, h1, h2, h3, h4, hs, if_true]
 rw [if_pos hl]
theorem evLoad_dp {T : TT} {t : TypeId} {cells : List AV} {off : Nat} {σ : Store} : evLoad T t (.dp cells off) σ = match T t with
 | some i => evRd cells off i.size i.agg
 | none => none := by
 cases h : T t <;> simp [evLoad, h]
theorem VR.loosen {E : Env} {nl : Bool} {sz id ver off len : Nat} {t : Bool} {v : Value} (h : VR E (.os nl sz id ver off len t) v) : VR E (.os nl sz id ver off len false) v := by
 cases h with
 | osn _ _ _ _ _ a hk h => exact .osn _ _ _ _ _ a hk h
 | os _ _ _ _ _ _ _ a cap hk hc ht hB h => exact .os _ _ _ _ _ _ _ a cap hk hc (fun h => by cases h) hB h
theorem acalls_ownN {P : Program} {T : TT} (hT : TOK P T) {f : FuncId} {fn : Func} {c : Code} {n : Nat} {rs : List ResultVar} {args : List AV} {sz N : Nat} {cs : List AV} (hf : P.funcs[f]? = some fn) (hb : fn.body = some c)
 (hn : fn.ntmps = n) (hr : fn.results.toList = rs) (hent : ∀ vs w, (callFunc f vs).run P w = .ok (.enter f vs) w) (hl : args.length ≤ n)
 (h : awp P n 0 c (retQ T rs fun r σ' => (∃ id t, id < σ'.length ∧ tell σ' [id] true 12 r = .os true sz 0 0 0 N t ∧ tellS σ' [id] true 12 = [.cells 0 cs]) ∨ (N = 0 ∧ cs = [] ∧ tell σ' [] false 12 r = .ds true [] 0 true)) (fr args) []) :
 ACalls P f args [] fun r' σ' => r' = .os true sz 0 0 0 N false ∧ σ' = [.cells 0 cs] := by
 have h1 : ACalls P f args [] fun r' σ' => (∃ t, r' = .os true sz 0 0 0 N t ∧ σ' = [.cells 0 cs]) ∨ (N = 0 ∧ cs = [] ∧ r' = .ds true [] 0 true ∧ σ' = []) := by
  refine ACalls.told ((acalls_body (σ := []) hT hf hb hn hr hent hl h).mono ?_)
  rintro r σ' (⟨id, t, a1, a2, a3⟩ | ⟨a1, a2, a3⟩)
  · exact ⟨[id], true, 12, by simp, by simpa using a1, rfl, .inl ⟨t, a2, a3⟩⟩
  · exact ⟨[], false, 12, List.nodup_nil, (fun _ h => by cases h), rfl, .inr ⟨a1, a2, a3, rfl⟩⟩
 refine h1.ghost ?_
 rintro r σ' (⟨t, rfl, rfl⟩ | ⟨rfl, rfl, rfl, rfl⟩) E v hS hv
 · exact ⟨E, _, _, rfl, hS, Ext.refl E, hv.loosen, rfl, rfl⟩
 · obtain ⟨hS', hx⟩ := hS.virt
   exact ⟨E.new E.w none, _, _, rfl, hS', hx, VR.virt hS hv sz false, rfl, rfl⟩
end AM
end Go.Proofs.YtaddlmlpeghonaaDoor
