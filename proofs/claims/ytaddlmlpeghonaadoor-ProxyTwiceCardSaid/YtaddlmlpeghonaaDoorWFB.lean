/- Parts of the proof, cut down to what it needs. -/
import Derived.Test.YtaddlmlpeghonaaDoorWCd
set_option linter.constructorNameAsVariable false
set_option linter.unusedSimpArgs false
set_option linter.unusedVariables false
namespace Go.Proofs.YtaddlmlpeghonaaDoor
open _root_.List renaming length → qc, flatMap → qg, length_append → qi, length_cons → qk, length_nil → qn, mem_cons_self → qo, mem_cons_of_mem → qp, append_assoc → qr, getD_eq_getElem?_getD → qs, append_nil → qx, map_nil → qy, length_eq_zero_iff → qz, nil_append → qA, cons_append → qC, mem_cons → qD, replicate → qF, length_singleton → qG, drop_zero → qJ, getElem?_append_left → qK, map_cons → qM, getElem?_eq_getElem → qO, flatMap_cons → qP, map_append → qR, getElem?_eq_some_iff → qU, length_map → qV, range_zero → qY, all_cons → qZ, flatMap_append → q1, all_eq_true → q3, getElem?_set_ne → q5, take_of_length_le → uc, getElem?_append_right → ue, all_nil → uf, range_succ → ug, take_length → ui, pairwise_cons → uj, take_append_drop → uk, flatMap_nil → un, getElem?_set_self → uo, mem_append_right → uq, getElem?_eq_none → ur, filter_cons → ut, mem_map → uv, range → uz, set_cons_zero → uA, mem_append → uC, mem_singleton → uD, length_take → uF, length_drop → uG, getElem?_cons_zero → uH, getElem?_cons_succ → uI, set_cons_succ → uO
open _root_.Option renaming bind_some → qf, map_some → ux, getD_some → uN
open _root_.Nat renaming reduceEqDiff → qa, reduceLT → qb, reduceAdd → qd, reduceLeDiff → qe, le_refl → qq, zero_add → qt, lt_succ_self → qu, reduceMul → qw, reduceSub → qL, mul_le_mul_right → qQ, lt_of_lt_of_le → ua, reduceMod → ul, zero_le → um, le_trans → uu, zero_mul → uy, sub_zero → uL, sub_self → uM, succ_mul → uP, add_zero → uQ, add_mul → uR
open _root_.Bool renaming and_eq_true → ql, or_eq_true → qH, not_false → qI, and_self → qS, false_eq_true → qT, or_true → qW, not_true → qX, and_true → q2, or_false → ub, and_false → ud, not_eq_true' → uw, true_and → uE, false_ne_true → uJ, false_or → uK
open _root_.Int renaming toNat → qB, toNat_natCast → qN
open _root_.BitVec renaming ofInt → qv, toNat → uh
open _root_.Array renaming length_toList → q9, getD_eq_getD_getElem? → uB, getElem?_eq_getElem → uS
open _root_.UInt8 renaming ofNat → q7
open Result renaming andThen_ok → qj
open Sem renaming run_bind → qm, run_pure → qE
open _root_.Go.Proofs.Tryd renaming prog → qh
section
set_option maxRecDepth 8000
set_option maxHeartbeats 1000000
open Go.RowKit AM
def zy.l (yD : GSchema → GType → GRaw → Int → Option (GTree × Int)) (a0 : GSchema) (a1 : GMessage) (a3 : Int) : List GRaw → List GEntry → List GRaw → Option (GTree × Int)
 | [], es, rest => (YN es.length 32).bind fun _ => (wh a1 es).bind fun es' => (zH rest).bind fun r => some ((⟨3, 0, [], es', r⟩ : GTree), 0)
 | r :: q, es, rest => bnd (zm a1 r.fTag) fun f => (if f.2 = true then (yD a0 f.1.fType r a3).bind fun x => (if x.2 = 0 then (Yd es f.1 x.1).bind fun p => (if p.2 = true then zy.l yD a0 a1 a3 q p.1 rest else some ((⟨0, 0, [], [], []⟩ : GTree), 4)) else some ((⟨0, 0, [], [], []⟩ : GTree), x.2))
  else (YN (rest.length + 1) 40).bind fun _ => zy.l yD a0 a1 a3 q es (rest ++ [r]))
def zy.body (zA : GSchema → GMessage → List UInt8 → Int → Option (GTree × Int)) (yD : GSchema → GType → GRaw → Int → Option (GTree × Int)) (a0 : GSchema) (a1 : GMessage) (a2 : List UInt8) (a3 : Int) : Option (GTree × Int) :=
 if 10 < a3 then some ((⟨0, 0, [], [], []⟩ : GTree), 10) else (y7 a2).bind fun g => if g.2 = 0 then zy.l yD a0 a1 a3 g.1 [] [] else some ((⟨0, 0, [], [], []⟩ : GTree), g.2)
structure Loop (τ : Store) (a0 : GSchema) (a1 : GMessage) (ever rver : Nat) (L : List Ent) (rest : List GRaw) : Prop where
 h0 : Store.at τ 0 0 = some (encGSchema a0)
 h1 : Store.at τ 1 0 = some (encGMessage a1)
 h2 : Store.at τ 2 0 = some [.int .i64 0, .int .i64 0, .str [], .ds true [] 0 true, .ds true [] 0 true]
 rep : Rep τ 3 4 ever L
 h5 : Store.at τ 5 rver = some (rest.flatMap encGRaw)
 ids : ∀ y ∈ L, 6 ≤ y.id
theorem Loop.app {τ : Store} {a0 : GSchema} {a1 : GMessage} {ever rver : Nat} {L : List Ent} {rest : List GRaw} (h : Loop τ a0 a1 ever rver L rest) (l : Store) : Loop (τ ++ l) a0 a1 ever rver L rest :=
 ⟨wt h.h0 l, wt h.h1 l, wt h.h2 l, h.rep.app l, wt h.h5 l, h.ids⟩
theorem Xq {σ : Store} {keep : List Nat} {e : Int} : tell σ keep true 12 (.tup [.agg [.int .i64 0, .int .i64 0, .str [], .ds true [] 0 true, .ds true [] 0 true], .int .i64 e]) = .tup [.agg (cellsGTree ⟨0, 0, [], [], []⟩), .int .i64 e] := by
 simp only [tell_tup, qM, qy, tell_agg, Y2, Y1, Ym]
 rfl
theorem zy.step (zA : GSchema → GMessage → List UInt8 → Int → Option (GTree × Int)) (yD : GSchema → GType → GRaw → Int → Option (GTree × Int))
 (Yq : ∀ (a0 : GSchema) (a1 : GType) (a2 : GRaw) (a3 : Int) (r : GTree × Int), yD a0 a1 a2 a3 = some r → ACalls qh 57 [.agg (encGSchema a0), .agg (encGType a1), .agg (encGRaw a2), .int .i64 a3] [] (fun r' _ => r' = .tup [.agg (cellsGTree r.1), .int .i64 r.2]))
 (a0 : GSchema) (a1 : GMessage) (a2 : List UInt8) (a3 : Int) (r : GTree × Int) (h : zy.body zA yD a0 a1 a2 a3 = some r) :
 ACalls qh 35 [.agg (encGSchema a0), .agg (encGMessage a1), .ds true (qg encB a2) (qc a2) false, .int .i64 a3] [] (fun r' _ => r' = .tup [.agg (cellsGTree r.1), .int .i64 r.2]) := by
 have ev_one := fun a0 a1 a2 a3 r h σ => (Yq a0 a1 a2 a3 r h).pureAt (by simp only [AV.canon, canonL, canon_all, qS, qI, qW, encGRaw, encGSchema, encGType]) (by simp only [AV.canon, canonL, canon_all, qS, qI, qW, cellsGTree]) σ
 refine zn (rs := [.cell 8 42, .tmp 9]) tok Tryd.func35 rfl Tryd.ntmps35 rfl Tryd.call35 (by simp) ?_
 refine zt [(0, .agg (encGSchema a0)), (1, .agg (encGMessage a1)), (2, .ds true (qg encB a2) (qc a2) false), (3, .int .i64 a3)] ⟨rfl, rfl, rfl, rfl, trivial⟩ ?_
 unfold zy.body at h
 refine rg tok [2, 3, 4, 5, 8, 9] fun K hK => ?_
 simp only [go_sem, qb, qa, qd, reduceCtorEq, encGSchema, encGMessage]
 apply hK
 clear hK K
 refine zd fun Z hZ => ?_
 refine rg tok [2, 3, 4, 5, 8, 9, 21] fun K hK => ?_
 simp only [go_sem, qb, qa]
 apply hK
 clear hK K
 refine zI rfl (fun hc => ?_) (fun hc => ?_)
 · rw [if_pos hc] at h
   obtain rfl := Option.some.inj h
   refine rg tok [8, 9] fun K hK => ?_
   simp only [go_sem, qb, qe, qa, qd]
   apply hK
   clear hK K
   refine zj ?_
   simp only [ZF, xd, xl, xY, exists_eq_left', go_sem, qe, qa, qd]
   exact Xq
 rw [if_neg hc] at h
 obtain ⟨g, hg, h⟩ := bind_some h
 refine zh ?_
 refine hZ _ _ ?_
 clear hZ Z
 refine rc [3, 4, 5, 8, 9, 10, 11] fun K hK => ?_
 refine zb tok 1 ?_
 simp only [go_sem, qb, qa]
 refine zi rfl rfl rfl (y7.ev a2 g hg _) ?_
 rintro _ _ ⟨rfl, hσ⟩
 rw [hσ]; clear hσ
 refine zb tok 5 ?_
 simp only [go_sem, qb, qa, qd]
 refine za ?_
 simp only [ze, upd, qa, reduceIte, zl, zq]
 apply hK
 clear hK K
 refine zd fun Z hZ => ?_
 refine rg tok [3, 4, 5, 8, 9, 10, 11, 29] fun K hK => ?_
 simp only [go_sem, qb, qa]
 apply hK
 clear hK K
 refine zI rfl (fun hc2 => ?_) (fun hc2 => ?_)
 · rw [if_neg hc2] at h
   obtain rfl := Option.some.inj h
   refine rg tok [8, 9] fun K hK => ?_
   simp only [go_sem, qb, qe, qa, qd]
   apply hK
   clear hK K
   refine zj ?_
   simp only [ZF, xd, xl, xY, exists_eq_left', go_sem, qe, qa, qd]
   exact Xq
 rw [if_pos hc2] at h
 refine zh ?_
 refine hZ _ _ ?_
 clear hZ Z
 refine rg tok [3, 4, 5, 8, 9, 10, 12] fun K hK => ?_
 simp only [go_sem, qb, qe, qa, qd]
 apply hK
 clear hK K
 refine ZC 3 3 2 rfl (by simp) rfl (L := [(3, .int .i64 a3), (4, .op 0 0 0), (5, .op 1 0 0), (8, .op 2 0 0), (9, .int .i64 0), (10, .ds true (qg encGRaw g.1) (qc g.1) false), (12, .op 3 0 0)]) (.same ⟨rfl, rfl, rfl, rfl, rfl, rfl, rfl, trivial⟩ rfl) ?_
 refine rg tok [3, 4, 5, 8, 9, 10, 12, 13] fun K hK => ?_
 simp only [go_sem, qb, qa, qd]
 apply hK
 clear hK K
 refine Zm 13 4 rfl ?_
 refine yc (L := [(3, .int .i64 a3), (4, .op 0 0 0), (5, .op 1 0 0), (8, .op 2 0 0), (9, .int .i64 0), (10, .ds true (qg encGRaw g.1) (qc g.1) false), (12, .op 3 0 0), (13, .os true 4 5 0 0 0 false)]) (.same ⟨rfl, rfl, rfl, rfl, rfl, rfl, rfl, rfl, trivial⟩ rfl) ?_
 refine zd fun Z hZ => ?_
 refine yW 10 fun hb => ?_
 replace hb : qc g.1 ≤ 9223372036854775807 := hb.1
 refine rg tok [3, 4, 5, 8, 9, 12, 13, 33, 34, 35] fun K hK => ?_
 simp only [go_sem, qb, qa]
 apply hK
 clear hK K
 refine zk ?_
 refine zF (fun k F τ => ∃ (p q : List GRaw) (i : Int) (L : List Ent) (rest : List GRaw) (ever rver : Nat), k = q.length ∧ F = [(3, AV.int .i64 a3), (4, .op 0 0 0), (5, .op 1 0 0), (8, .op 2 0 0), (9, .int .i64 0), (12, .op 3 0 0), (13, .os true 4 5 rver 0 rest.length false), (33, .ds true (qg encGRaw g.1) (qc g.1) false), (34, .int .i64 (qc g.1 : Int)), (35, .int .i64 i)] ∧ Loop τ a0 a1 ever rver L rest ∧ g.1 = p ++ q ∧ i = (p.length : Int) ∧ zy.l yD a0 a1 a3 q (L.map Ent.val) rest = some r) g.1.length
  ⟨[], g.1, 0, [], [], 0, 0, rfl, rfl, ⟨rfl, rfl, rfl, ⟨rfl, rfl, fun _ h => (by cases h), by simp⟩, rfl, fun _ h => (by cases h)⟩, rfl, rfl, h⟩ (.same ⟨rfl, rfl, rfl, rfl, rfl, rfl, rfl, rfl, rfl, rfl, trivial⟩ rfl) ?_
 clear h
 rintro k _ τ ⟨p, q, i, L, rest, ever, rver, rfl, rfl, hL, hE, hi, h⟩
 refine rg tok [3, 4, 5, 8, 9, 12, 13, 33, 34, 35, 36] fun K hK => ?_
 simp only [go_sem, qb, qa]
 apply hK
 clear hK K
 refine zd fun Y hY => ?_
 rcases q with _ | ⟨y, q⟩
 · have hz := yz hE hi
   refine zI rfl (fun hc => absurd hc (by rw [hz]; exact id)) (fun _ => ?_)
   refine zM ?_
   simp only [ze, go_sem]
   simp only [zy.l] at h
   obtain ⟨u, hu, h⟩ := bind_some h
   have hrm := of_eq_true (yy hu)
   obtain ⟨es', hes, h⟩ := bind_some h
   obtain ⟨rr, hrr, h⟩ := bind_some h
   obtain rfl := Option.some.inj h
   have hid : ∀ y ∈ L, wZ [2, 3, 4] y.id 0 = none := by
    intro y hy
    have := hL.ids y hy
    simp only [wG, wD]
    rw [if_neg (by omega), if_neg (by omega), if_neg (by omega)]
   have hget : ∀ {j v : Nat} {cs : List AV}, Store.at τ j v = some cs → τ.getD j .dead = .cells v cs := by
    intro j v cs hj
    rw [qs, Store.at_some hj]; rfl
   have hl4 : (rest.flatMap encGRaw).length = rest.length * 4 := zK E22.len rest
   have hcells := hL.rep.toldC [2, 3, 4] false 10 hid
   have htS : tellS τ [2, 3, 4] false 12 = [.cells 0 [.int .i64 0, .int .i64 0, .str [], .ds true [] 0 true, .ds true [] 0 true], .cells 0 [.int .i64 3, .int .i64 0, .str [], .os true 2 2 ever 0 (L.map Ent.val).length false, .ds true [] 0 true], .cells ever ((L.map Ent.val).flatMap encGEntry)] := by
    simp only [tellS, qM, qy, hget hL.h2, hget hL.rep.t, hget hL.rep.e, YH, Y2, Y1, Ym, wT, wG, wD, qa, if_true, if_false, hcells, qV, ub, qI, q2, qd]
   have hrest : tell τ [2, 3, 4] false 12 (.os true 4 5 rver 0 rest.length false) = .ds true (rest.flatMap encGRaw) rest.length false := by
    simp only [wT, wG, wD, qa, if_false, hL.h5]
    rw [if_pos (by rw [hl4]; omega), qJ, ← hl4, ui, yj]
   have hmsg : tell τ [2, 3, 4] false 12 (.op 1 0 0) = .dp (encGMessage a1) 0 := by
    simp only [tell_op, wG, wD, qa, if_false, hL.h1, encGMessage, qM, qy, Y1, Ym, yj, ub, qI, q2]
   have hk3 : [2, 3, 4].Nodup := by decide
   have hlt5 := Store.at_lt hL.h5
   refine hZ _ _ ?_
   refine yc (L := [(5, .dp (encGMessage a1) 0), (8, .op 0 0 0), (12, .op 1 0 0), (13, .ds true (rest.flatMap encGRaw) rest.length false)]) (.told [2, 3, 4] false hk3 (by intro id hid'; simp at hid'; omega) rfl htS ⟨hmsg, rfl, rfl, hrest, trivial⟩) ?_
   refine rc [8, 12, 13] fun K hK => ?_
   refine zb tok 3 ?_
   simp only [go_sem, qb, qa, qd, qV]
   have hdel := DeleteFunc_at (σ := [.cells 0 [.int .i64 0, .int .i64 0, .str [], .ds true [] 0 true, .ds true [] 0 true], .cells 0 [.int .i64 3, .int .i64 0, .str [], .os true 2 2 ever 0 L.length false, .ds true [] 0 true], .cells ever ((L.map Ent.val).flatMap encGEntry)]) (id := 2) (ver := ever) (nl := true) a1 (by simp only [Store.at_hd, Store.at_tl, if_true]) hes (by omega)
   rw [qV] at hdel
   refine zi rfl rfl rfl hdel ?_
   rintro _ _ ⟨cs, g', rfl, rfl⟩
   refine zb tok 2 ?_
   simp only [go_sem, qb, qe, qa, qd, qC, qA, uO, uA]
   refine za ?_
   simp only [ze, upd, qa, reduceIte, zl, zq]
   apply hK
   clear hK K
   refine rc [8, 12] fun K hK => ?_
   refine zb tok 1 ?_
   simp only [go_sem, qb, qa]
   refine zi rfl rfl rfl (zH.ev rest rr hrr _) ?_
   rintro _ _ ⟨rfl, hσ⟩
   rw [hσ]; clear hσ
   refine zb tok 2 ?_
   simp only [go_sem, qb, qe, qa, qd, uO, uA]
   refine za ?_
   simp only [ze, upd, qa, reduceIte, zl, zq]
   apply hK
   clear hK K
   refine rg tok [8, 9] fun K hK => ?_
   simp only [go_sem, qb, qe, qa, qd, uO, uA]
   apply hK
   clear hK K
   refine zj ?_
   simp only [ZF, xd, xl, xY, exists_eq_left', go_sem, qe, qa, qd]
   have hle : (es'.flatMap encGEntry).length = es'.length * 2 := zK E40.len es'
   simp only [tell_tup, qM, qy, tell_agg, Y2, Y1, Ym, wT, wD, Store.at_hd, Store.at_tl, if_true, yj, cellsGTree, GTree.fKind, GTree.fN, GTree.fS, GTree.fEntries, GTree.fRest]
   rw [if_pos (by rw [qi, hle]; omega), qJ, ← hle, List.take_left, yj]
   rfl
 obtain ⟨hz, hw, hx, hE', hi'⟩ := yg hE hi hb
 refine zI rfl (fun _ => ?_) (fun hc => absurd (of_eq_true hz) hc)
 refine zh ?_
 refine hY _ _ ?_
 clear hY Y
 refine zd fun X hX => ?_
 have fin : ∀ (F : Fr) (τ' : Store) (L' : List Ent) (rest' : List GRaw) (ever' rver' : Nat), Fits F [(3, AV.int .i64 a3), (4, .op 0 0 0), (5, .op 1 0 0), (8, .op 2 0 0), (9, .int .i64 0), (12, .op 3 0 0), (13, .os true 4 5 rver' 0 rest'.length false), (33, .ds true (qg encGRaw g.1) (qc g.1) false), (34, .int .i64 (qc g.1 : Int)), (35, .int .i64 i)] → Loop τ' a0 a1 ever' rver' L' rest' → zy.l yD a0 a1 a3 q (L'.map Ent.val) rest' = some r → X F τ' := by
  intro F τ' L' rest' ever' rver' hF hL' h'
  refine hX _ _ (yc (.same hF rfl) ?_)
  refine rgE tok [3, 4, 5, 8, 9, 12, 13, 33, 34, 35] fun K hK => ?_
  simp only [go_sem, qb, qa, hw]
  apply hK
  clear hK K
  simp only [ze]
  exact ⟨q.length, _, _, by simp, ⟨p ++ [y], q, i + 1, L', rest', ever', rver', rfl, rfl, hL', hE', hi', h'⟩, .same ⟨rfl, rfl, rfl, rfl, rfl, rfl, rfl, rfl, rfl, rfl, trivial⟩ rfl⟩
 clear hX
 refine zk ?_
 have hix := E22.idxS hx
 have hld := E22.loadS rfl rfl hx
 have hae : ∀ (τ : Store) cs, Store.at (τ ++ [.cells 0 cs]) τ.length 0 = some cs := fun τ cs => XJ τ cs []
 have hse : ∀ (τ : Store) cs cs', (τ ++ [Zq.cells 0 cs]).set τ.length (.cells 0 cs') = τ ++ [.cells 0 cs'] := fun τ cs cs' => set_mid τ _ _ []
 refine rg tok [3, 4, 5, 8, 9, 12, 13, 15, 33, 34, 35] fun K hK => ?_
 simp only [go_sem, qb, qe, qa, qd, hix, hld, encGRaw, hae, hse, qk, qn, uA, uO]
 apply hK
 clear hK K
 simp only [zy.l] at h
 obtain ⟨f, hf, h⟩ := zS h
 have hL1 := hL.app [.cells 0 [.int .i64 y.fTag, .int .i64 y.fWire, .int .i64 y.fN, .str y.fB]]
 have hr1 := XJ τ [.int .i64 y.fTag, .int .i64 y.fWire, .int .i64 y.fN, .str y.fB] []
 generalize τ.length = k1 at *
 generalize τ ++ [.cells 0 [.int .i64 y.fTag, .int .i64 y.fWire, .int .i64 y.fN, .str y.fB]] = τ1 at *
 have hm1 := hL1.h1
 have hs1 := hL1.h0
 simp only [encGMessage] at hm1
 simp only [encGSchema] at hs1
 refine rc [3, 4, 5, 8, 9, 12, 13, 15, 16, 17, 33, 34, 35] fun K hK => ?_
 refine zb tok 3 ?_
 simp only [go_sem, qb, qe, qa, qd, hm1, hr1, qk, qn]
 refine zi rfl rfl rfl (zm.ev a1 y.fTag f hf _) ?_
 rintro _ _ ⟨rfl, hσ⟩
 rw [hσ]; clear hσ
 refine zb tok 6 ?_
 simp only [go_sem, qb, qe, qa, qd, encGField, hae, hse, qk, qn, uA, uO]
 refine za ?_
 simp only [ze, upd, qa, reduceIte, zl, zq]
 apply hK
 clear hK K
 have hL2 := hL1.app [.cells 0 [.str f.1.fName, .int .i64 f.1.fTag, .int .i64 f.1.fLabel, .int .i64 f.1.fType.fKind, .str f.1.fType.fName]]
 have hr2 := wt hr1 [.cells 0 [.str f.1.fName, .int .i64 f.1.fTag, .int .i64 f.1.fLabel, .int .i64 f.1.fType.fKind, .str f.1.fType.fName]]
 have hm2 := wt hs1 [.cells 0 [.str f.1.fName, .int .i64 f.1.fTag, .int .i64 f.1.fLabel, .int .i64 f.1.fType.fKind, .str f.1.fType.fName]]
 have hf2 := XJ τ1 [.str f.1.fName, .int .i64 f.1.fTag, .int .i64 f.1.fLabel, .int .i64 f.1.fType.fKind, .str f.1.fType.fName] []
 clear hm1 hs1 hr1
 generalize τ1.length = k2 at *
 generalize τ1 ++ [.cells 0 [.str f.1.fName, .int .i64 f.1.fTag, .int .i64 f.1.fLabel, .int .i64 f.1.fType.fKind, .str f.1.fType.fName]] = τ2 at *
 refine zd fun Y hY => ?_
 refine rg tok [3, 4, 5, 8, 9, 12, 13, 15, 16, 17, 33, 34, 35, 47] fun K hK => ?_
 simp only [go_sem, qb, qa]
 apply hK
 clear hK K
 have hb2 : ∀ (b : Bool), (!b) = true → b = false := by decide
 refine zv (b := !f.2) rfl (fun hc3 => ?_) (fun hc3 => ?_)
 · have hc4 : f.2 = false := by simpa using hc3
   rw [xD hc4] at h
   obtain ⟨u, hu, h⟩ := bind_some h
   have hrm := yy hu
   have hL5 := hL2.h5
   have hl4 : (rest.flatMap encGRaw).length = rest.length * 4 := zK E22.len rest
   refine rg tok [3, 4, 5, 8, 9, 12, 13, 33, 34, 35] fun K hK => ?_
   have hlit := XJ τ2 [.int .i64 y.fTag, .int .i64 y.fWire, .int .i64 y.fN, .str y.fB] []
   have hat5 := wt hL5 [.cells 0 [.int .i64 y.fTag, .int .i64 y.fWire, .int .i64 y.fN, .str y.fB]]
   have hap : yn tab 22 22 (.os true 4 5 rver 0 rest.length false) (.os true 4 τ2.length 0 0 1 true) (τ2 ++ [.cells 0 [.int .i64 y.fTag, .int .i64 y.fWire, .int .i64 y.fN, .str y.fB]]) =
    some (.os true 4 5 (rver + 1) 0 (rest.length + 1) false, List.set (τ2 ++ [.cells 0 [.int .i64 y.fTag, .int .i64 y.fWire, .int .i64 y.fN, .str y.fB]]) 5 (.cells (rver + 1) (rest.flatMap encGRaw ++ [.int .i64 y.fTag, .int .i64 y.fWire, .int .i64 y.fN, .str y.fB]))) := by
    have e1 : yb (τ2 ++ [.cells 0 [.int .i64 y.fTag, .int .i64 y.fWire, .int .i64 y.fN, .str y.fB]]) 4 (.os true 4 τ2.length 0 0 1 true) = some (1, [.int .i64 y.fTag, .int .i64 y.fWire, .int .i64 y.fN, .str y.fB]) := by
     simp only [yb, hlit]; simp
    simp only [yn, tab_22, tab_33, e1, yq, zY, hat5, hl4, hrm]
    simp [AV.one]
   simp only [go_sem, qb, qe, qa, qd, qw, hr2, zR, z8, ug, qY, true_and, ul, qk, qn, hap]
   apply hK
   clear hK K
   refine zM ?_
   simp only [go_sem, reduceCtorEq]
   have hLs : Loop (List.set (τ2 ++ [.cells 0 [.int .i64 y.fTag, .int .i64 y.fWire, .int .i64 y.fN, .str y.fB]]) 5 (.cells (rver + 1) (rest.flatMap encGRaw ++ [.int .i64 y.fTag, .int .i64 y.fWire, .int .i64 y.fN, .str y.fB]))) a0 a1 ever (rver + 1) L (rest ++ [y]) := by
    have hL3 := hL2.app [.cells 0 [.int .i64 y.fTag, .int .i64 y.fWire, .int .i64 y.fN, .str y.fB]]
    refine ⟨xq hL3.h0 (by decide) _, xq hL3.h1 (by decide) _, xq hL3.h2 (by decide) _, hL3.rep.set_ne (fun hm => ?_) _, ?_, hL3.ids⟩
    · simp only [qD, uv] at hm
      rcases hm with h | h | ⟨z, hz, h⟩
      · cases h
      · cases h
      have := hL3.ids z hz; omega
    rw [Store.at_set hL3.h5, q1]
    simp [encGRaw]
   exact fin _ _ L (rest ++ [y]) ever (rver + 1) ⟨rfl, rfl, rfl, rfl, rfl, rfl, by rw [qi]; rfl, rfl, rfl, rfl, trivial⟩ hLs h
 have hc4 : f.2 = true := by simpa using hc3
 rw [if_pos hc4] at h
 refine zh ?_
 refine hY _ _ ?_
 clear hY Y
 obtain ⟨x, hx1, h⟩ := bind_some h
 have hty : AV.agg (encGType f.1.fType) = .agg [.int .i64 f.1.fType.fKind, .str f.1.fType.fName] := rfl
 refine rc [3, 4, 5, 8, 9, 12, 13, 16, 18, 19, 33, 34, 35] fun K hK => ?_
 refine zb tok 5 ?_
 simp only [go_sem, qb, qe, qa, qd, hm2, hr2, hf2, qk, qn, List.drop_succ_cons, qJ, List.take_succ_cons, List.take_zero]
 refine zi rfl rfl rfl (ev_one a0 f.1.fType y a3 x hx1 _) ?_
 rintro _ _ ⟨rfl, hσ⟩
 rw [hσ]; clear hσ
 refine zb tok 6 ?_
 simp only [go_sem, qb, qe, qa, qd, cellsGTree, hae, hse, qk, qn, uA, uO]
 refine za ?_
 simp only [ze, upd, qa, reduceIte, zl, zq]
 apply hK
 clear hK K hr2 hm2
 obtain ⟨xc, hxc⟩ : ∃ xc, xc = [AV.int .i64 x.1.fKind, .int .i64 x.1.fN, .str x.1.fS, .ds true (qg encGEntry x.1.fEntries) x.1.fEntries.length false, .ds true (qg encGRaw x.1.fRest) x.1.fRest.length false] := ⟨_, rfl⟩
 rw [← hxc]
 have hL3 := hL2.app [.cells 0 xc]
 have hf3 := wt hf2 [.cells 0 xc]
 have hx3 := XJ τ2 xc []
 clear hf2 hL2
 generalize τ2.length = k3 at *
 generalize τ2 ++ [.cells 0 xc] = τ3 at *
 subst hxc
 refine zd fun Y hY => ?_
 refine rg tok [3, 4, 5, 8, 9, 12, 13, 16, 18, 19, 33, 34, 35, 62] fun K hK => ?_
 simp only [go_sem, qb, qa]
 apply hK
 clear hK K
 have h23 := hL3.h2
 have h24 := Store.at_set (ver' := 0) (cs' := [.int .i64 0, .int .i64 0, .str [], .ds true [] 0 true, .ds true [] 0 true]) h23
 refine zI rfl (fun hc5 => ?_) (fun hc5 => ?_)
 · rw [if_neg hc5] at h
   obtain rfl := Option.some.inj h
   refine rg tok [8, 9] fun K hK => ?_
   simp only [go_sem, qb, qe, qa, qd, h23, qk, qn, uA, uO]
   apply hK
   clear hK K
   refine zj ?_
   simp only [vbp, ZF, xd, xl, xY, exists_eq_left', go_sem, qe, qa, qd, h24, qk, qn]
   exact Xq
 rw [if_pos hc5] at h
 obtain ⟨pp, hp, h⟩ := bind_some h
 refine zh ?_
 refine hY _ _ ?_
 clear hY Y
 refine rc [3, 4, 5, 8, 9, 12, 13, 33, 34, 35, 68] fun K hK => ?_
 refine zb tok 2 ?_
 simp only [go_sem, qb, qe, qa, qd, hf3, hx3, qk, qn]
 refine zi rfl rfl rfl (put_at hL3.rep f.1 x.1 (es' := pp.1) (b := pp.2) hp) ?_
 rintro _ τ4 ⟨ever', L', rfl, hR4, he4, hid4, hle4, hfr4⟩
 refine zb tok 1 ?_
 simp only [go_sem, qb, qa]
 refine za ?_
 simp only [ze, upd, qa, reduceIte, zl, zq]
 apply hK
 clear hK K
 have hkeep : ∀ {j v : Nat} {cs : List AV}, Store.at τ3 j v = some cs → j < 6 → j ≠ 3 → j ≠ 4 → Store.at τ4 j v = some cs := by
  intro j v cs hj h6 h3 h4
  have hlt := Store.at_lt hj
  unfold Store.at at hj ⊢
  rw [hfr4 j hlt (fun hm => ?_)]
  · exact hj
  simp only [qD, uv] at hm
  rcases hm with h | h | ⟨z, hz, h⟩
  · exact h3 h
  · exact h4 h
  have := hL3.ids z hz; omega
 have h45 : 6 ≤ τ3.length := by
  have := Store.at_lt hL3.h5; omega
 have hL4 : Loop τ4 a0 a1 ever' rver L' rest := by
  refine ⟨hkeep hL3.h0 (by decide) (by decide) (by decide), hkeep hL3.h1 (by decide) (by decide) (by decide), hkeep hL3.h2 (by decide) (by decide) (by decide), hR4, hkeep hL3.h5 (by decide) (by decide) (by decide), fun z hz => ?_⟩
  rcases hid4 z hz with h | h
  · obtain ⟨w, hw, h'⟩ := uv.1 h
    have := hL3.ids w hw; omega
  omega
 have h43 := hL4.h2
 have h44 := Store.at_set (ver' := 0) (cs' := [.int .i64 0, .int .i64 0, .str [], .ds true [] 0 true, .ds true [] 0 true]) h43
 refine zv (b := !pp.2) rfl (fun hc6 => ?_) (fun hc6 => ?_)
 · have hc7 : pp.2 = false := by simpa using hc6
   rw [xD hc7] at h
   obtain rfl := Option.some.inj h
   refine rg tok [8, 9] fun K hK => ?_
   simp only [go_sem, qb, qe, qa, qd, h43, qk, qn, uA, uO]
   apply hK
   clear hK K
   refine zj ?_
   simp only [vbp, ZF, xd, xl, xY, exists_eq_left', go_sem, qe, qa, qd, h44, qk, qn]
   exact Xq
 have hc7 : pp.2 = true := by simpa using hc6
 rw [if_pos hc7] at h
 refine zh ?_
 simp only [Zu, ze]
 exact fin _ _ L' rest ever' rver ⟨rfl, rfl, rfl, rfl, rfl, rfl, rfl, rfl, rfl, rfl, trivial⟩ hL4 (by rw [he4]; exact h)
end
section
set_option maxRecDepth 8000
open Go.RowKit AM
mutual
def zy : Nat → GSchema → GMessage → List UInt8 → Int → Option (GTree × Int)
 | 0, _, _, _, _ => none
 | k + 1, a0, a1, a2, a3 => zy.body (zy k) (zL k) a0 a1 a2 a3
def zL : Nat → GSchema → GType → GRaw → Int → Option (GTree × Int)
 | 0, _, _, _, _ => none
 | k + 1, a0, a1, a2, a3 => zL.body (zy k) (zL k) a0 a1 a2 a3
end
theorem zy.all (k : Nat) :
 (∀ (a0 : GSchema) (a1 : GMessage) (a2 : List UInt8) (a3 : Int) (r : GTree × Int), zy k a0 a1 a2 a3 = some r → ACalls qh 35 [.agg (encGSchema a0), .agg (encGMessage a1), .ds true (qg encB a2) (qc a2) false, .int .i64 a3] [] (fun r' _ => r' = .tup [.agg (cellsGTree r.1), .int .i64 r.2])) ∧
 (∀ (a0 : GSchema) (a1 : GType) (a2 : GRaw) (a3 : Int) (r : GTree × Int), zL k a0 a1 a2 a3 = some r → ACalls qh 57 [.agg (encGSchema a0), .agg (encGType a1), .agg (encGRaw a2), .int .i64 a3] [] (fun r' _ => r' = .tup [.agg (cellsGTree r.1), .int .i64 r.2])) := by
 induction k with
 | zero => exact ⟨fun a0 a1 a2 a3 r h => (by simp only [zy] at h; cases h), fun a0 a1 a2 a3 r h => (by simp only [zL] at h; cases h)⟩
 | succ k ih =>
  exact ⟨fun a0 a1 a2 a3 r h => zy.step (zy k) (zL k) ih.2 a0 a1 a2 a3 r (by simpa only [zy] using h),
   fun a0 a1 a2 a3 r h => zL.step (zy k) (zL k) ih.1 ih.2 a0 a1 a2 a3 r (by simpa only [zL] using h)⟩
theorem zy.ok (k : Nat) (a0 : GSchema) (a1 : GMessage) (a2 : List UInt8) (a3 : Int) (r : GTree × Int) (h : zy k a0 a1 a2 a3 = some r) : ACalls qh 35 [.agg (encGSchema a0), .agg (encGMessage a1), .ds true (qg encB a2) (qc a2) false, .int .i64 a3] [] (fun r' _ => r' = .tup [.agg (cellsGTree r.1), .int .i64 r.2]) :=
 (zy.all k).1 a0 a1 a2 a3 r h
theorem zy.ev (k : Nat) (a0 : GSchema) (a1 : GMessage) (a2 : List UInt8) (a3 : Int) (r : GTree × Int) (h : zy k a0 a1 a2 a3 = some r) (σ : Store) : ACalls qh 35 [.agg (encGSchema a0), .agg (encGMessage a1), .ds true (qg encB a2) (qc a2) false, .int .i64 a3] σ (fun r' σ' => r' = .tup [.agg (cellsGTree r.1), .int .i64 r.2] ∧ σ' = σ) :=
 (zy.ok k a0 a1 a2 a3 r h).pureAt (by simp only [AV.canon, canonL, canon_all, qS, qI, qW, encGMessage, encGSchema]) (by simp only [AV.canon, canonL, canon_all, qS, qI, qW, cellsGTree]) σ
end
section
set_option maxRecDepth 4000
set_option maxHeartbeats 1000000
open AM
def yA.l9 (a0 : List UInt8) : Nat → Nat → Int → Option Int
 | 0, _, _ => none
 | k9 + 1, p5, x6 => (if p5 < qc a0 then ((yA.l9 a0 k9) (p5 + (ZQ a0 p5).2) (IntKind.i64.wrap (x6 + 1))) else some x6)
def yA (a0 : List UInt8) : Option Int :=
 (yp a0).bind fun r2 => (if (!r2) = true then some 0 else (yA.l9 a0 rounds 0 0))
theorem yA.ok (a0 : List UInt8) (r : Int) (h : yA a0 = some r) : ACalls qh 77 [.str a0] [] (fun r' _ => r' = .int .i64 r) := by
 refine zn (rs := [.tmp 2]) tok Tryd.func77 rfl Tryd.ntmps77 rfl Tryd.call77 (by simp) ?_
 refine zt [(0, .str a0)] ⟨rfl, trivial⟩ ?_
 unfold yA at h
 refine rg tok [0] fun K hK => ?_
 simp only [go_sem, qb, reduceCtorEq]
 apply hK
 refine zd fun Z1 hZ1 => ?_
 refine rc [0, 6] fun K hK => ?_
 obtain ⟨r2, hr2, h⟩ := bind_some h
 refine zb tok 1 ?_
 simp only [go_sem, qb]
 refine zi rfl rfl rfl (yp.ev a0 r2 hr2 _) ?_
 rintro _ _ ⟨rfl, rfl⟩
 refine zb tok 1 ?_
 simp only [go_sem, qb, qa, reduceCtorEq]
 refine za ?_
 simp only [ze, upd, qa, reduceIte, zl, zq]
 apply hK
 refine zv (b := (!r2)) rfl (fun hc3 => ?_) (fun hc3 => ?_)
 · rw [if_pos hc3] at h
   refine rg tok [2] fun K hK => ?_
   simp only [go_sem, qb, qa, reduceCtorEq]
   apply hK
   refine zj ?_
   obtain rfl := Option.some.inj h
   exact yr
 rw [xD hc3] at h
 refine zh ?_
 apply hZ1
 refine rg tok [0, 3] fun K hK => ?_
 simp only [go_sem, qb, qa, reduceCtorEq]
 apply hK
 refine zd fun Z4 hZ4 => ?_
 refine rg tok [3, 8] fun K hK => ?_
 simp only [go_sem, qb, qa, reduceCtorEq]
 apply hK
 refine zk ?_
 refine zF (fun m L τ => ∃ (k9 : Nat) (p5 : Nat) (x6 : Int), m = 0 + k9 ∧ L = ([(3, .int .i64 x6), (8, .it 0)] : List (Nat × AV)) ∧ τ = ([.iter a0 p5] : Store) ∧ yA.l9 a0 k9 p5 x6 = some r) _ ⟨rounds, 0, 0, rfl, rfl, rfl, h⟩ .s ?_
 rintro m L τ ⟨k9, p5, x6, rfl, rfl, rfl, h⟩
 rcases k9 with _ | k9
 · cases h
 simp only [yA.l9] at h
 by_cases hn10 : p5 < qc a0
 · rw [if_pos hn10] at h
   have t11 := eq_true hn10
   refine rg tok [3, 8, 10] fun K hK => ?_
   simp only [go_sem, qb, qa, qd, XA, if_true, if_false, t11]
   apply hK
   refine zd fun Z12 hZ12 => ?_
   refine zB rfl ?_
   refine zh ?_
   apply hZ12
   refine zk ?_
   refine rgE tok [3, 8] fun K hK => ?_
   simp only [go_sem, qb, qa]
   apply hK
   exact ⟨_, _, _, qu (0 + k9), ⟨k9, p5 + (ZQ a0 p5).2, IntKind.i64.wrap (x6 + 1), rfl, rfl, rfl, h⟩, .s⟩
 rw [if_neg hn10] at h
 have t13 := eq_false hn10
 refine rg tok [3, 8, 10] fun K hK => ?_
 simp only [go_sem, qb, qa, XA, if_true, if_false, t13]
 apply hK
 refine zd fun Z14 hZ14 => ?_
 refine zz rfl ?_
 refine zM ?_
 apply hZ4
 refine rg tok [2] fun K hK => ?_
 simp only [go_sem, qb, qa]
 apply hK
 refine zj ?_
 obtain rfl := Option.some.inj h
 exact yr
theorem yA.ev (a0 : List UInt8) (r : Int) (h : yA a0 = some r) (σ : Store) : ACalls qh 77 [.str a0] σ (fun r' σ' => r' = .int .i64 r ∧ σ' = σ) :=
 (yA.ok a0 r h).c σ
def yT.j3 (x2 : Bool) : Bool :=
 (if x2 = true then true else false)
def yT (a0 : List UInt8) : Bool :=
 (if a0 = [115, 99, 104, 101, 109, 97] then (yT.j3 (decide (a0 = [115, 99, 104, 101, 109, 97]))) else (if a0 = [109, 101, 115, 115, 97, 103, 101] then (yT.j3 (decide (a0 = [109, 101, 115, 115, 97, 103, 101]))) else (if a0 = [101, 110, 117, 109] then (yT.j3 (decide (a0 = [101, 110, 117, 109]))) else (if a0 = [99, 97, 108, 108] then (yT.j3 (decide (a0 = [99, 97, 108, 108]))) else (if a0 = [114, 101, 116, 117, 114, 110, 115] then (yT.j3 (decide (a0 = [114, 101, 116, 117, 114, 110, 115]))) else (if a0 = [114, 101, 115, 101, 114, 118, 101, 100] then (yT.j3 (decide (a0 = [114, 101, 115, 101, 114, 118, 101, 100]))) else (if a0 = [111, 112, 116, 105, 111, 110, 97, 108] then (yT.j3 (decide (a0 = [111, 112, 116, 105, 111, 110, 97, 108]))) else (if a0 = [114, 101, 112, 101, 97, 116, 101, 100] then (yT.j3 (decide (a0 = [114, 101, 112, 101, 97, 116, 101, 100]))) else (if a0 = [105, 110, 116, 51, 50] then (yT.j3 (decide (a0 = [105, 110, 116, 51, 50]))) else (if a0 = [105, 110, 116, 54, 52] then (yT.j3 (decide (a0 = [105, 110, 116, 54, 52]))) else (if a0 = [98, 111, 111, 108] then (yT.j3 (decide (a0 = [98, 111, 111, 108]))) else (if a0 = [116, 101, 120, 116] then (yT.j3 (decide (a0 = [116, 101, 120, 116]))) else (yT.j3 (decide (a0 = [98, 121, 116, 101, 115])))))))))))))))
theorem yT.ok (a0 : List UInt8) (r : Bool) (h : yT a0 = r) : ACalls qh 78 [.str a0] [] (fun r' _ => r' = .bool r) := by
 refine zn (rs := [.tmp 2]) tok Tryd.func78 rfl Tryd.ntmps78 rfl Tryd.call78 (by simp) ?_
 refine zt [(0, .str a0)] ⟨rfl, trivial⟩ ?_
 unfold yT at h
 refine rg tok [0] fun K hK => ?_
 simp only [go_sem, qb, reduceCtorEq]
 apply hK
 refine zd fun Z1 hZ1 => ?_
 refine rg tok [3] fun K hK => ?_
 simp only [go_sem, qb, reduceCtorEq]
 apply hK
 refine zk ?_
 refine xK (fun L τ => ∃ (x2 : Bool), L = ([(4, .bool x2)] : List (Nat × AV)) ∧ τ = ([] : Store) ∧ yT.j3 x2 = r) ?_ ?_
 · refine rg tok [3, 4] fun K hK => ?_
   simp only [go_sem, qb, qa]
   apply hK
   refine zI rfl (fun hc5 => ?_) (fun hc5 => ?_)
   · rw [if_pos hc5] at h
     have t6 := eq_true hc5
     refine zh ?_
     exact ⟨_, _, ⟨decide (a0 = [115, 99, 104, 101, 109, 97]), rfl, rfl, h⟩, .s⟩
   rw [if_neg hc5] at h
   have t7 := eq_false hc5
   refine rg tok [3, 4] fun K hK => ?_
   simp only [go_sem, qb, qa, t7]
   apply hK
   refine zI rfl (fun hc8 => ?_) (fun hc8 => ?_)
   · rw [if_pos hc8] at h
     have t9 := eq_true hc8
     refine zh ?_
     exact ⟨_, _, ⟨decide (a0 = [109, 101, 115, 115, 97, 103, 101]), rfl, rfl, h⟩, .s⟩
   rw [if_neg hc8] at h
   have t10 := eq_false hc8
   refine rg tok [3, 4] fun K hK => ?_
   simp only [go_sem, qb, qa, t10]
   apply hK
   refine zI rfl (fun hc11 => ?_) (fun hc11 => ?_)
   · rw [if_pos hc11] at h
     have t12 := eq_true hc11
     refine zh ?_
     exact ⟨_, _, ⟨decide (a0 = [101, 110, 117, 109]), rfl, rfl, h⟩, .s⟩
   rw [if_neg hc11] at h
   have t13 := eq_false hc11
   refine rg tok [3, 4] fun K hK => ?_
   simp only [go_sem, qb, qa, t13]
   apply hK
   refine zI rfl (fun hc14 => ?_) (fun hc14 => ?_)
   · rw [if_pos hc14] at h
     have t15 := eq_true hc14
     refine zh ?_
     exact ⟨_, _, ⟨decide (a0 = [99, 97, 108, 108]), rfl, rfl, h⟩, .s⟩
   rw [if_neg hc14] at h
   have t16 := eq_false hc14
   refine rg tok [3, 4] fun K hK => ?_
   simp only [go_sem, qb, qa, t16]
   apply hK
   refine zI rfl (fun hc17 => ?_) (fun hc17 => ?_)
   · rw [if_pos hc17] at h
     have t18 := eq_true hc17
     refine zh ?_
     exact ⟨_, _, ⟨decide (a0 = [114, 101, 116, 117, 114, 110, 115]), rfl, rfl, h⟩, .s⟩
   rw [if_neg hc17] at h
   have t19 := eq_false hc17
   refine rg tok [3, 4] fun K hK => ?_
   simp only [go_sem, qb, qa, t19]
   apply hK
   refine zI rfl (fun hc20 => ?_) (fun hc20 => ?_)
   · rw [if_pos hc20] at h
     have t21 := eq_true hc20
     refine zh ?_
     exact ⟨_, _, ⟨decide (a0 = [114, 101, 115, 101, 114, 118, 101, 100]), rfl, rfl, h⟩, .s⟩
   rw [if_neg hc20] at h
   have t22 := eq_false hc20
   refine rg tok [3, 4] fun K hK => ?_
   simp only [go_sem, qb, qa, t22]
   apply hK
   refine zI rfl (fun hc23 => ?_) (fun hc23 => ?_)
   · rw [if_pos hc23] at h
     have t24 := eq_true hc23
     refine zh ?_
     exact ⟨_, _, ⟨decide (a0 = [111, 112, 116, 105, 111, 110, 97, 108]), rfl, rfl, h⟩, .s⟩
   rw [if_neg hc23] at h
   have t25 := eq_false hc23
   refine rg tok [3, 4] fun K hK => ?_
   simp only [go_sem, qb, qa, t25]
   apply hK
   refine zI rfl (fun hc26 => ?_) (fun hc26 => ?_)
   · rw [if_pos hc26] at h
     have t27 := eq_true hc26
     refine zh ?_
     exact ⟨_, _, ⟨decide (a0 = [114, 101, 112, 101, 97, 116, 101, 100]), rfl, rfl, h⟩, .s⟩
   rw [if_neg hc26] at h
   have t28 := eq_false hc26
   refine rg tok [3, 4] fun K hK => ?_
   simp only [go_sem, qb, qa, t28]
   apply hK
   refine zI rfl (fun hc29 => ?_) (fun hc29 => ?_)
   · rw [if_pos hc29] at h
     have t30 := eq_true hc29
     refine zh ?_
     exact ⟨_, _, ⟨decide (a0 = [105, 110, 116, 51, 50]), rfl, rfl, h⟩, .s⟩
   rw [if_neg hc29] at h
   have t31 := eq_false hc29
   refine rg tok [3, 4] fun K hK => ?_
   simp only [go_sem, qb, qa, t31]
   apply hK
   refine zI rfl (fun hc32 => ?_) (fun hc32 => ?_)
   · rw [if_pos hc32] at h
     have t33 := eq_true hc32
     refine zh ?_
     exact ⟨_, _, ⟨decide (a0 = [105, 110, 116, 54, 52]), rfl, rfl, h⟩, .s⟩
   rw [if_neg hc32] at h
   have t34 := eq_false hc32
   refine rg tok [3, 4] fun K hK => ?_
   simp only [go_sem, qb, qa, t34]
   apply hK
   refine zI rfl (fun hc35 => ?_) (fun hc35 => ?_)
   · rw [if_pos hc35] at h
     have t36 := eq_true hc35
     refine zh ?_
     exact ⟨_, _, ⟨decide (a0 = [98, 111, 111, 108]), rfl, rfl, h⟩, .s⟩
   rw [if_neg hc35] at h
   have t37 := eq_false hc35
   refine rg tok [3, 4] fun K hK => ?_
   simp only [go_sem, qb, qa, t37]
   apply hK
   refine zI rfl (fun hc38 => ?_) (fun hc38 => ?_)
   · rw [if_pos hc38] at h
     have t39 := eq_true hc38
     refine zh ?_
     exact ⟨_, _, ⟨decide (a0 = [116, 101, 120, 116]), rfl, rfl, h⟩, .s⟩
   rw [if_neg hc38] at h
   have t40 := eq_false hc38
   refine rgE tok [4] fun K hK => ?_
   simp only [go_sem, qb, qa, t40]
   apply hK
   exact ⟨_, _, ⟨decide (a0 = [98, 121, 116, 101, 115]), rfl, rfl, h⟩, .s⟩
 rintro _ _ ⟨x2, rfl, rfl, h⟩
 unfold yT.j3 at h
 refine zv (b := x2) rfl (fun hc4 => ?_) (fun hc4 => ?_)
 · rw [if_pos hc4] at h
   refine rg tok [2] fun K hK => ?_
   simp only [go_sem, qb, qa]
   apply hK
   refine zj ?_
   obtain rfl := h
   exact yr
 rw [xD hc4] at h
 refine zh ?_
 apply hZ1
 refine rg tok [2] fun K hK => ?_
 simp only [go_sem, qb, qa]
 apply hK
 refine zj ?_
 obtain rfl := h
 exact yr
theorem yT.ev (a0 : List UInt8) (r : Bool) (h : yT a0 = r) (σ : Store) : ACalls qh 78 [.str a0] σ (fun r' σ' => r' = .bool r ∧ σ' = σ) :=
 (yT.ok a0 r h).c σ
def xR (a0 : Int) (a1 : Int) (a2 : Int) : Bool :=
 ((decide (a1 ≤ a0)) && (decide (a0 ≤ a2)))
theorem xR.ok (a0 : Int) (a1 : Int) (a2 : Int) (r : Bool) (h : xR a0 a1 a2 = r) : ACalls qh 108 [.int .i32 a0, .int .i32 a1, .int .i32 a2] [] (fun r' _ => r' = .bool r) := by
 refine zn (rs := [.tmp 6]) tok Tryd.func108 rfl Tryd.ntmps108 rfl Tryd.call108 (by simp) ?_
 refine zt [(0, .int .i32 a0), (1, .int .i32 a1), (2, .int .i32 a2)] ⟨rfl, rfl, rfl, trivial⟩ ?_
 unfold xR at h
 refine rg tok [0, 1, 2] fun K hK => ?_
 simp only [go_sem, qb, qa, reduceCtorEq]
 apply hK
 refine rc [6] fun K hK => ?_
 refine zb tok 4 ?_
 simp only [go_sem, qb, qa, reduceCtorEq]
 refine zo 4 (fun L τ => L = ([(14, .bool ((decide (a1 ≤ a0)) && (decide (a0 ≤ a2))))] : List (Nat × AV)) ∧ τ = ([] : Store)) ?_ ?_
 · refine yN 10 rfl (fun hg10 => ?_) (fun hg10 => ?_)
   · have t1 := eq_true hg10
     refine zb tok 4 ?_
     simp only [go_sem, qb, qa, reduceCtorEq]
     refine za ⟨rfl, _, _, ⟨rfl, rfl⟩, .p t1⟩
   have t2 := eq_false hg10
   refine zb tok 4 ?_
   simp only [go_sem, qb, qa, reduceCtorEq]
   refine za ⟨rfl, _, _, ⟨rfl, rfl⟩, .p t2⟩
 rintro _ _ ⟨rfl, rfl⟩
 refine zb tok 1 ?_
 simp only [go_sem, qb]
 refine za ?_
 simp only [ze, upd, qa, reduceIte, zl, zq]
 apply hK
 refine zj ?_
 obtain rfl := h
 exact yr
theorem xR.ev (a0 : Int) (a1 : Int) (a2 : Int) (r : Bool) (h : xR a0 a1 a2 = r) (σ : Store) : ACalls qh 108 [.int .i32 a0, .int .i32 a1, .int .i32 a2] σ (fun r' σ' => r' = .bool r ∧ σ' = σ) :=
 (xR.ok a0 a1 a2 r h).c σ
def yP.j6 (a0 : Int) (x5 : Bool) : Bool :=
 (if x5 = true then false else bnd (xR a0 97 122) fun r8 => bnd (if r8 = true then true else bnd (xR a0 65 90) fun r9 => r9) fun c9 => bnd (if c9 = true then true else bnd (xR a0 192 591) fun r11 => r11) fun c11 => bnd (if c11 = true then true else bnd (xR a0 913 969) fun r13 => r13) fun c13 => c13)
def yP (a0 : Int) : Bool :=
 (if a0 = 95 then true else (if a0 = 215 then (yP.j6 a0 (decide (a0 = 215))) else (if a0 = 247 then (yP.j6 a0 (decide (a0 = 247))) else (yP.j6 a0 (decide (a0 = 930))))))
theorem yP.ok (a0 : Int) (r : Bool) (h : yP a0 = r) : ACalls qh 79 [.int .i32 a0] [] (fun r' _ => r' = .bool r) := by
 refine zn (rs := [.tmp 2]) tok Tryd.func79 rfl Tryd.ntmps79 rfl Tryd.call79 (by simp) ?_
 refine zt [(0, .int .i32 a0)] ⟨rfl, trivial⟩ ?_
 unfold yP at h
 refine rg tok [0] fun K hK => ?_
 simp only [go_sem, qb, reduceCtorEq]
 apply hK
 refine zd fun Z1 hZ1 => ?_
 refine rg tok [0, 3] fun K hK => ?_
 simp only [go_sem, qb, reduceCtorEq]
 apply hK
 refine zk ?_
 refine rg tok [0, 3, 4] fun K hK => ?_
 simp only [go_sem, qb, qa, reduceCtorEq]
 apply hK
 refine zI rfl (fun hc2 => ?_) (fun hc2 => ?_)
 · rw [if_pos hc2] at h
   have t3 := eq_true hc2
   refine rg tok [2] fun K hK => ?_
   simp only [go_sem, qb, qa, reduceCtorEq, t3]
   apply hK
   refine zj ?_
   obtain rfl := h
   exact yr
 rw [if_neg hc2] at h
 have t4 := eq_false hc2
 refine xK (fun L τ => ∃ (x5 : Bool), L = ([(0, .int .i32 a0), (6, .bool x5)] : List (Nat × AV)) ∧ τ = ([] : Store) ∧ yP.j6 a0 x5 = r) ?_ ?_
 · refine rg tok [0, 3, 6] fun K hK => ?_
   simp only [go_sem, qb, qa, reduceCtorEq, t4]
   apply hK
   refine zI rfl (fun hc15 => ?_) (fun hc15 => ?_)
   · rw [if_pos hc15] at h
     have t16 := eq_true hc15
     refine zh ?_
     exact ⟨_, _, ⟨decide (a0 = 215), rfl, rfl, h⟩, .s⟩
   rw [if_neg hc15] at h
   have t17 := eq_false hc15
   refine rg tok [0, 3, 6] fun K hK => ?_
   simp only [go_sem, qb, qa, reduceCtorEq, t17]
   apply hK
   refine zI rfl (fun hc18 => ?_) (fun hc18 => ?_)
   · rw [if_pos hc18] at h
     have t19 := eq_true hc18
     refine zh ?_
     exact ⟨_, _, ⟨decide (a0 = 247), rfl, rfl, h⟩, .s⟩
   rw [if_neg hc18] at h
   have t20 := eq_false hc18
   refine rgE tok [0, 6] fun K hK => ?_
   simp only [go_sem, qb, qa, reduceCtorEq, t20]
   apply hK
   exact ⟨_, _, ⟨decide (a0 = 930), rfl, rfl, h⟩, .s⟩
 rintro _ _ ⟨x5, rfl, rfl, h⟩
 unfold yP.j6 at h
 refine zv (b := x5) rfl (fun hc7 => ?_) (fun hc7 => ?_)
 · rw [if_pos hc7] at h
   refine rg tok [2] fun K hK => ?_
   simp only [go_sem, qb, qa, reduceCtorEq]
   apply hK
   refine zj ?_
   obtain rfl := h
   exact yr
 rw [xD hc7] at h
 refine zh ?_
 apply hZ1
 refine rc [2] fun K hK => ?_
 obtain ⟨r8, hr8, h⟩ := zS h
 refine zb tok 1 ?_
 simp only [go_sem, qb, reduceCtorEq]
 refine zi rfl rfl rfl (xR.ev a0 97 122 r8 hr8 _) ?_
 rintro _ _ ⟨rfl, rfl⟩
 refine zb tok 1 ?_
 simp only [go_sem, qb, qa, reduceCtorEq]
 obtain ⟨c9, hc9, h⟩ := zS h
 refine zo 3 (fun L τ => L = ([(0, .int .i32 a0), (15, .bool c9)] : List (Nat × AV)) ∧ τ = ([] : Store)) ?_ ?_
 · refine zQ (b := r8) 12 rfl (fun hg12 => ?_) (fun hg12 => ?_)
   · rw [if_pos hg12] at hc9
     refine zb tok 3 ?_
     simp only [go_sem, qb, qa, reduceCtorEq]
     subst hc9
     refine za ⟨rfl, _, _, ⟨rfl, rfl⟩, .b hg12⟩
   rw [xD hg12] at hc9
   obtain ⟨r10, hr10, hc9⟩ := zS hc9
   refine zb tok 1 ?_
   simp only [go_sem, qb, qa, reduceCtorEq]
   refine zi rfl rfl rfl (xR.ev a0 65 90 r10 hr10 _) ?_
   rintro _ _ ⟨rfl, rfl⟩
   refine zb tok 1 ?_
   simp only [go_sem, qb, qa, reduceCtorEq]
   subst hc9
   refine za ⟨rfl, _, _, ⟨rfl, rfl⟩, .b hg12⟩
 rintro _ _ ⟨rfl, rfl⟩
 refine zb tok 1 ?_
 simp only [go_sem, qb, reduceCtorEq]
 obtain ⟨c11, hc11, h⟩ := zS h
 refine zo 3 (fun L τ => L = ([(0, .int .i32 a0), (19, .bool c11)] : List (Nat × AV)) ∧ τ = ([] : Store)) ?_ ?_
 · refine zQ (b := c9) 16 rfl (fun hg16 => ?_) (fun hg16 => ?_)
   · rw [if_pos hg16] at hc11
     refine zb tok 3 ?_
     simp only [go_sem, qb, qa, reduceCtorEq]
     subst hc11
     refine za ⟨rfl, _, _, ⟨rfl, rfl⟩, .b hg16⟩
   rw [xD hg16] at hc11
   obtain ⟨r12, hr12, hc11⟩ := zS hc11
   refine zb tok 1 ?_
   simp only [go_sem, qb, qa, reduceCtorEq]
   refine zi rfl rfl rfl (xR.ev a0 192 591 r12 hr12 _) ?_
   rintro _ _ ⟨rfl, rfl⟩
   refine zb tok 1 ?_
   simp only [go_sem, qb, qa, reduceCtorEq]
   subst hc11
   refine za ⟨rfl, _, _, ⟨rfl, rfl⟩, .b hg16⟩
 rintro _ _ ⟨rfl, rfl⟩
 refine zb tok 1 ?_
 simp only [go_sem, qb, reduceCtorEq]
 obtain ⟨c13, hc13, h⟩ := zS h
 refine zo 3 (fun L τ => L = ([(23, .bool c13)] : List (Nat × AV)) ∧ τ = ([] : Store)) ?_ ?_
 · refine zQ (b := c11) 20 rfl (fun hg20 => ?_) (fun hg20 => ?_)
   · rw [if_pos hg20] at hc13
     refine zb tok 3 ?_
     simp only [go_sem, qb, qa, reduceCtorEq]
     subst hc13
     refine za ⟨rfl, _, _, ⟨rfl, rfl⟩, .b hg20⟩
   rw [xD hg20] at hc13
   obtain ⟨r14, hr14, hc13⟩ := zS hc13
   refine zb tok 1 ?_
   simp only [go_sem, qb, qa, reduceCtorEq]
   refine zi rfl rfl rfl (xR.ev a0 913 969 r14 hr14 _) ?_
   rintro _ _ ⟨rfl, rfl⟩
   refine zb tok 1 ?_
   simp only [go_sem, qb, qa, reduceCtorEq]
   subst hc13
   refine za ⟨rfl, _, _, ⟨rfl, rfl⟩, .b hg20⟩
 rintro _ _ ⟨rfl, rfl⟩
 refine zb tok 1 ?_
 simp only [go_sem, qb]
 refine za ?_
 simp only [ze, upd, qa, reduceIte, zl, zq]
 apply hK
 refine zj ?_
 obtain rfl := h
 exact yr
theorem yP.ev (a0 : Int) (r : Bool) (h : yP a0 = r) (σ : Store) : ACalls qh 79 [.int .i32 a0] σ (fun r' σ' => r' = .bool r ∧ σ' = σ) :=
 (yP.ok a0 r h).c σ
def wm (a0 : Int) : Bool :=
 bnd (xR a0 48 57) fun r1 => r1
theorem wm.ok (a0 : Int) (r : Bool) (h : wm a0 = r) : ACalls qh 80 [.int .i32 a0] [] (fun r' _ => r' = .bool r) := by
 refine zn (rs := [.tmp 2]) tok Tryd.func80 rfl Tryd.ntmps80 rfl Tryd.call80 (by simp) ?_
 refine zt [(0, .int .i32 a0)] ⟨rfl, trivial⟩ ?_
 unfold wm at h
 refine rg tok [0] fun K hK => ?_
 simp only [go_sem, qb, reduceCtorEq]
 apply hK
 refine rc [2] fun K hK => ?_
 obtain ⟨r1, hr1, h⟩ := zS h
 refine zb tok 1 ?_
 simp only [go_sem, qb]
 refine zi rfl rfl rfl (xR.ev a0 48 57 r1 hr1 _) ?_
 rintro _ _ ⟨rfl, rfl⟩
 refine zb tok 1 ?_
 simp only [go_sem, qb, qa, reduceCtorEq]
 refine za ?_
 simp only [ze, upd, qa, reduceIte, zl, zq]
 apply hK
 refine zj ?_
 obtain rfl := h
 exact yr
theorem wm.ev (a0 : Int) (r : Bool) (h : wm a0 = r) (σ : Store) : ACalls qh 80 [.int .i32 a0] σ (fun r' σ' => r' = .bool r ∧ σ' = σ) :=
 (wm.ok a0 r h).c σ
def yo.l11 (a0 : List UInt8) : Nat → Nat → Option Bool
 | 0, _ => none
 | k11 + 1, p9 => (if p9 < qc a0 then bnd (yP ((ZQ a0 p9).1 : Int)) fun r15 => bnd (if (!r15) = true then bnd (if ((p9 : Nat) : Int) = 0 then true else bnd (wm ((ZQ a0 p9).1 : Int)) fun r16 => !r16) fun c16 => c16 else false) fun c16 => (if c16 = true then some false else ((yo.l11 a0 k11) (p9 + (ZQ a0 p9).2))) else some true)
def yo (a0 : List UInt8) : Option Bool :=
 (yA a0).bind fun r1 => bnd (if ((decide (r1 < 1)) || (decide (20 < r1))) = true then true else bnd (yT a0) fun r5 => r5) fun c5 => (if c5 = true then some false else (yo.l11 a0 rounds 0))
theorem yo.ok (a0 : List UInt8) (r : Bool) (h : yo a0 = some r) : ACalls qh 51 [.str a0] [] (fun r' _ => r' = .bool r) := by
 refine zn (rs := [.tmp 2]) tok Tryd.func51 rfl Tryd.ntmps51 rfl Tryd.call51 (by simp) ?_
 refine zt [(0, .str a0)] ⟨rfl, trivial⟩ ?_
 unfold yo at h
 refine rg tok [0] fun K hK => ?_
 simp only [go_sem, qb, reduceCtorEq]
 apply hK
 refine rc [0, 3] fun K hK => ?_
 obtain ⟨r1, hr1, h⟩ := bind_some h
 refine zb tok 1 ?_
 simp only [go_sem, qb]
 refine zi rfl rfl rfl (yA.ev a0 r1 hr1 _) ?_
 rintro _ _ ⟨rfl, rfl⟩
 refine zb tok 1 ?_
 simp only [go_sem, qb, qa, reduceCtorEq]
 refine za ?_
 simp only [ze, upd, qa, reduceIte, zl, zq]
 apply hK
 refine zd fun Z2 hZ2 => ?_
 refine rc [0, 17] fun K hK => ?_
 refine zb tok 3 ?_
 simp only [go_sem, qb, qa, reduceCtorEq]
 refine zo 3 (fun L τ => L = ([(0, .str a0), (13, .bool ((decide (r1 < 1)) || (decide (20 < r1))))] : List (Nat × AV)) ∧ τ = ([] : Store)) ?_ ?_
 · refine yN 10 rfl (fun hg10 => ?_) (fun hg10 => ?_)
   · have t3 := eq_true hg10
     refine zb tok 3 ?_
     simp only [go_sem, qb, qa, reduceCtorEq]
     refine za ⟨rfl, _, _, ⟨rfl, rfl⟩, .p t3⟩
   have t4 := eq_false hg10
   refine zb tok 3 ?_
   simp only [go_sem, qb, qa, reduceCtorEq]
   refine za ⟨rfl, _, _, ⟨rfl, rfl⟩, .p t4⟩
 rintro _ _ ⟨rfl, rfl⟩
 refine zb tok 1 ?_
 simp only [go_sem, qb, reduceCtorEq]
 obtain ⟨c5, hc5, h⟩ := zS h
 refine zo 3 (fun L τ => L = ([(0, .str a0), (17, .bool c5)] : List (Nat × AV)) ∧ τ = ([] : Store)) ?_ ?_
 · refine zQ (b := ((decide (r1 < 1)) || (decide (20 < r1)))) 14 rfl (fun hg14 => ?_) (fun hg14 => ?_)
   · rw [if_pos hg14] at hc5
     refine zb tok 3 ?_
     simp only [go_sem, qb, qa, reduceCtorEq]
     subst hc5
     refine za ⟨rfl, _, _, ⟨rfl, rfl⟩, .b hg14⟩
   rw [xD hg14] at hc5
   obtain ⟨r6, hr6, hc5⟩ := zS hc5
   refine zb tok 1 ?_
   simp only [go_sem, qb, qa, reduceCtorEq]
   refine zi rfl rfl rfl (yT.ev a0 r6 hr6 _) ?_
   rintro _ _ ⟨rfl, rfl⟩
   refine zb tok 1 ?_
   simp only [go_sem, qb, qa, reduceCtorEq]
   subst hc5
   refine za ⟨rfl, _, _, ⟨rfl, rfl⟩, .b hg14⟩
 rintro _ _ ⟨rfl, rfl⟩
 refine za ?_
 simp only [ze, qa, reduceIte, zl, zq]
 apply hK
 refine zv (b := c5) rfl (fun hc7 => ?_) (fun hc7 => ?_)
 · rw [if_pos hc7] at h
   refine rg tok [2] fun K hK => ?_
   simp only [go_sem, qb, qa, reduceCtorEq]
   apply hK
   refine zj ?_
   obtain rfl := Option.some.inj h
   exact yr
 rw [xD hc7] at h
 refine zh ?_
 apply hZ2
 refine zd fun Z8 hZ8 => ?_
 refine rg tok [19] fun K hK => ?_
 simp only [go_sem, qb, qa, reduceCtorEq]
 apply hK
 refine zk ?_
 refine zF (fun m L τ => ∃ (k11 : Nat) (p9 : Nat), m = 0 + k11 ∧ L = ([(19, .it 0)] : List (Nat × AV)) ∧ τ = ([.iter a0 p9] : Store) ∧ yo.l11 a0 k11 p9 = some r) _ ⟨rounds, 0, rfl, rfl, rfl, h⟩ .s ?_
 rintro m L τ ⟨k11, p9, rfl, rfl, rfl, h⟩
 rcases k11 with _ | k11
 · cases h
 simp only [yo.l11] at h
 by_cases hn12 : p9 < qc a0
 · rw [if_pos hn12] at h
   have t13 := eq_true hn12
   refine rg tok [19, 20, 21] fun K hK => ?_
   simp only [go_sem, qb, qa, qd, XA, if_true, if_false, t13]
   apply hK
   refine zd fun Z14 hZ14 => ?_
   refine zB rfl ?_
   refine zh ?_
   apply hZ14
   refine zk ?_
   refine rg tok [4, 5, 19] fun K hK => ?_
   simp only [go_sem, qb, qa, qd]
   apply hK
   refine rc [19, 35] fun K hK => ?_
   obtain ⟨r15, hr15, h⟩ := zS h
   refine zb tok 1 ?_
   simp only [go_sem, qb, qa]
   refine zi rfl rfl rfl (yP.ev ((ZQ a0 p9).1 : Int) r15 hr15 _) ?_
   rintro _ _ ⟨rfl, rfl⟩
   refine zb tok 2 ?_
   simp only [go_sem, qb, qa]
   obtain ⟨c16, hc16, h⟩ := zS h
   refine zo 8 (fun L τ => L = ([(19, .it 0), (35, .bool c16)] : List (Nat × AV)) ∧ τ = ([.iter a0 (p9 + (ZQ a0 p9).2)] : Store)) ?_ ?_
   · refine zQ (b := (!r15)) 27 rfl (fun hg27 => ?_) (fun hg27 => ?_)
     · rw [if_pos hg27] at hc16
       refine zb tok 3 ?_
       simp only [go_sem, qb, qa]
       obtain ⟨c17, hc17, hc16⟩ := zS hc16
       refine zo 4 (fun L τ => L = ([(19, .it 0), (27, .bool true), (34, .bool c17)] : List (Nat × AV)) ∧ τ = ([.iter a0 (p9 + (ZQ a0 p9).2)] : Store)) ?_ ?_
       · refine yN 30 rfl (fun hg30 => ?_) (fun hg30 => ?_)
         · have t18 := eq_true hg30
           rw [if_pos hg30] at hc17
           refine zb tok 4 ?_
           simp only [go_sem, qb, qa]
           subst hc17
           refine za ⟨rfl, _, _, ⟨rfl, rfl⟩, .p t18⟩
         have t19 := eq_false hg30
         rw [if_neg hg30] at hc17
         obtain ⟨r20, hr20, hc17⟩ := zS hc17
         refine zb tok 1 ?_
         simp only [go_sem, qb, qa]
         refine zi rfl rfl rfl (wm.ev ((ZQ a0 p9).1 : Int) r20 hr20 _) ?_
         rintro _ _ ⟨rfl, rfl⟩
         refine zb tok 2 ?_
         simp only [go_sem, qb, qa]
         subst hc17
         refine za ⟨rfl, _, _, ⟨rfl, rfl⟩, .p t19⟩
       rintro _ _ ⟨rfl, rfl⟩
       refine zb tok 1 ?_
       simp only [go_sem, qb, qa]
       subst hc16
       refine za ⟨rfl, _, _, ⟨rfl, rfl⟩, .b hg27⟩
     rw [xD hg27] at hc16
     refine zb tok 8 ?_
     simp only [go_sem, qb, qa]
     subst hc16
     refine za ⟨rfl, _, _, ⟨rfl, rfl⟩, .b hg27⟩
   rintro _ _ ⟨rfl, rfl⟩
   refine za ?_
   simp only [ze, qa, reduceIte, zl, zq]
   apply hK
   refine zv (b := c16) rfl (fun hc21 => ?_) (fun hc21 => ?_)
   · rw [if_pos hc21] at h
     refine rg tok [2] fun K hK => ?_
     simp only [go_sem, qb, qa]
     apply hK
     refine zj ?_
     obtain rfl := Option.some.inj h
     exact yr
   rw [xD hc21] at h
   refine zh ?_
   exact ⟨_, _, _, qu (0 + k11), ⟨k11, p9 + (ZQ a0 p9).2, rfl, rfl, rfl, h⟩, .s⟩
 rw [if_neg hn12] at h
 have t22 := eq_false hn12
 refine rg tok [19, 20, 21] fun K hK => ?_
 simp only [go_sem, qb, qa, XA, if_true, if_false, t22]
 apply hK
 refine zd fun Z23 hZ23 => ?_
 refine zz rfl ?_
 refine zM ?_
 apply hZ8
 refine rg tok [2] fun K hK => ?_
 simp only [go_sem, qb, qa]
 apply hK
 refine zj ?_
 obtain rfl := Option.some.inj h
 exact yr
theorem yo.ev (a0 : List UInt8) (r : Bool) (h : yo a0 = some r) (σ : Store) : ACalls qh 51 [.str a0] σ (fun r' σ' => r' = .bool r ∧ σ' = σ) :=
 (yo.ok a0 r h).c σ
def z7 (a0 : List (List UInt8 × Bool)) (a1 : List UInt8) : Option (Bool × List (List UInt8 × Bool)) :=
 (yo a1).bind fun r2 => (if ((!r2) || ((X0 a0 a1).getD false)) = true then some (false, a0) else some (true, vaa a0 a1 true))
theorem z7.ok (a0 : List (List UInt8 × Bool)) (a1 : List UInt8) (r : Bool × List (List UInt8 × Bool)) (h : z7 a0 a1 = some r) : ACalls qh 54 [.mp 0, .str a1] [.map (xV AV.str AV.bool a0)] (fun r' σ' => r' = .bool r.1 ∧ σ' = [.map (xV AV.str AV.bool r.2)]) := by
 refine vbt [0] (rs := [.tmp 4]) tok Tryd.func54 rfl Tryd.ntmps54 rfl Tryd.call54 (by simp) rfl ?_
 refine zt [(0, .mp 0), (1, .str a1)] ⟨rfl, rfl, trivial⟩ ?_
 unfold z7 at h
 refine rg tok [0, 1] fun K hK => ?_
 simp only [go_sem, qb, qa, reduceCtorEq]
 apply hK
 refine zd fun Z1 hZ1 => ?_
 refine rc [0, 1, 12] fun K hK => ?_
 obtain ⟨r2, hr2, h⟩ := bind_some h
 refine zb tok 1 ?_
 simp only [go_sem, qb, reduceCtorEq]
 refine zi rfl rfl rfl (yo.ev a1 r2 hr2 _) ?_
 rintro _ _ ⟨rfl, rfl⟩
 refine zb tok 2 ?_
 simp only [go_sem, qb, qa, reduceCtorEq]
 refine zo 4 (fun L τ => L = ([(0, .mp 0), (1, .str a1), (12, .bool ((!r2) || ((X0 a0 a1).getD false)))] : List (Nat × AV)) ∧ τ = ([.map (xV AV.str AV.bool a0)] : Store)) ?_ ?_
 · refine zQ (b := (!r2)) 8 rfl (fun hg8 => ?_) (fun hg8 => ?_)
   · refine zb tok 4 ?_
     simp only [go_sem, qb, qa, reduceCtorEq, if_false, if_true]
     refine za ⟨rfl, _, _, ⟨rfl, rfl⟩, .b hg8⟩
   have f3 := fun (x : Store) => vax (T := tab) (t := 105) (ek := AV.str) (ev := AV.bool) (z := false) (KeyE.str rfl rfl rfl rfl) rfl rfl rfl rfl a0 a1 false (.map (xV AV.str AV.bool a0) :: x) 0 rfl
   refine zb tok 4 ?_
   simp only [go_sem, qb, qa, reduceCtorEq, Xb, qT, if_false, if_true, f3]
   refine za ⟨rfl, _, _, ⟨rfl, rfl⟩, .b hg8⟩
 rintro _ _ ⟨rfl, rfl⟩
 refine za ?_
 simp only [ze, qa, reduceIte, zl, zq]
 apply hK
 refine zv (b := ((!r2) || ((X0 a0 a1).getD false))) rfl (fun hc4 => ?_) (fun hc4 => ?_)
 · rw [if_pos hc4] at h
   refine rg tok [4] fun K hK => ?_
   simp only [go_sem, qb, qa, reduceCtorEq]
   apply hK
   refine zj ?_
   obtain rfl := Option.some.inj h
   simp only [ZF, xd, xl, xY, exists_eq_left', go_sem]
   refine ⟨by decide, by simp, ?_, ?_⟩
   · first | rfl | (simp only [go_sem, qb, qe, qa, qd, qw, qL, reduceIte, reduceCtorEq, push_cast, if_true, qJ, qt, qM, qy, qR, qW, ub, q2, ud, qX, qI, yj] <;> rfl)
   first | rfl | (simp only [go_sem, push_cast, qy] <;> rfl)
 rw [xD hc4] at h
 refine zh ?_
 apply hZ1
 have f5 := fun (x : Store) => var (T := tab) (t := 105) (ek := AV.str) (ev := AV.bool) (KeyE.str rfl rfl rfl rfl) rfl rfl a0 a1 true (.map (xV AV.str AV.bool a0) :: x) 0 rfl
 refine rg tok [] fun K hK => ?_
 simp only [go_sem, qb, qa, reduceCtorEq, f5]
 apply hK
 refine rg tok [4] fun K hK => ?_
 simp only [go_sem, qb]
 apply hK
 refine zj ?_
 obtain rfl := Option.some.inj h
 simp only [ZF, xd, xl, xY, exists_eq_left', go_sem]
 refine ⟨by decide, by simp, ?_, ?_⟩
 · first | rfl | (simp only [go_sem, qb, qe, qa, qd, qw, qL, reduceIte, reduceCtorEq, push_cast, if_true, qJ, qt, qM, qy, qR, qW, ub, q2, ud, qX, qI, yj] <;> rfl)
 first | rfl | (simp only [go_sem, push_cast, qy] <;> rfl)
def wr (a0 : Int) : Bool :=
 ((decide (1 ≤ a0)) && (decide (a0 ≤ 500)))
theorem wr.ok (a0 : Int) (r : Bool) (h : wr a0 = r) : ACalls qh 81 [.int .i64 a0] [] (fun r' _ => r' = .bool r) := by
 refine zn (rs := [.tmp 2]) tok Tryd.func81 rfl Tryd.ntmps81 rfl Tryd.call81 (by simp) ?_
 refine zt [(0, .int .i64 a0)] ⟨rfl, trivial⟩ ?_
 unfold wr at h
 refine rg tok [0] fun K hK => ?_
 simp only [go_sem, qb, reduceCtorEq]
 apply hK
 refine rc [2] fun K hK => ?_
 refine zb tok 3 ?_
 simp only [go_sem, qb, qa, reduceCtorEq]
 refine zo 3 (fun L τ => L = ([(8, .bool ((decide (1 ≤ a0)) && (decide (a0 ≤ 500))))] : List (Nat × AV)) ∧ τ = ([] : Store)) ?_ ?_
 · refine yN 5 rfl (fun hg5 => ?_) (fun hg5 => ?_)
   · have t1 := eq_true hg5
     refine zb tok 3 ?_
     simp only [go_sem, qb, qa, reduceCtorEq]
     refine za ⟨rfl, _, _, ⟨rfl, rfl⟩, .p t1⟩
   have t2 := eq_false hg5
   refine zb tok 3 ?_
   simp only [go_sem, qb, qa, reduceCtorEq]
   refine za ⟨rfl, _, _, ⟨rfl, rfl⟩, .p t2⟩
 rintro _ _ ⟨rfl, rfl⟩
 refine zb tok 1 ?_
 simp only [go_sem, qb]
 refine za ?_
 simp only [ze, upd, qa, reduceIte, zl, zq]
 apply hK
 refine zj ?_
 obtain rfl := h
 exact yr
theorem wr.ev (a0 : Int) (r : Bool) (h : wr a0 = r) (σ : Store) : ACalls qh 81 [.int .i64 a0] σ (fun r' σ' => r' = .bool r ∧ σ' = σ) :=
 (wr.ok a0 r h).c σ
def xb.l4 (a1 : List UInt8) : List GEnumeration → Int → GEnumeration × Bool
 | [], x2 => ((⟨[], ([] : List GNamed)⟩ : GEnumeration), false)
 | y4 :: q4, x2 => (if y4.fName = a1 then (y4, true) else ((xb.l4 a1 q4) (x2 + 1)))
def xb (a0 : GSchema) (a1 : List UInt8) : GEnumeration × Bool :=
 (xb.l4 a1 a0.fEnums 0)
theorem xb.ok (a0 : GSchema) (a1 : List UInt8) (r : GEnumeration × Bool) (h : xb a0 a1 = r) : ACalls qh 109 [.agg (encGSchema a0), .str a1] [] (fun r' _ => r' = .tup [.agg (encGEnumeration r.1), .bool r.2]) := by
 refine zn (rs := [.cell 4 90, .tmp 5]) tok Tryd.func109 rfl Tryd.ntmps109 rfl Tryd.call109 (by simp) ?_
 refine zt [(0, .agg (encGSchema a0)), (1, .str a1)] ⟨rfl, rfl, trivial⟩ ?_
 unfold xb at h
 refine rg tok [1, 2, 4] fun K hK => ?_
 simp only [go_sem, qb, qa, qd, reduceCtorEq, encGSchema]
 apply hK
 refine zd fun Z1 hZ1 => ?_
 refine rg tok [1, 4, 9, 10, 11] fun K hK => ?_
 simp only [go_sem, qb, qa, qd]
 apply hK
 refine zk ?_
 refine yW 9 fun hb4 => ?_
 replace hb4 : qc a0.fEnums ≤ 9223372036854775807 := hb4.1
 refine zF (fun m L τ => ∃ (p4 q4 : List GEnumeration) (x2 : Int), m = qc q4 ∧ L = ([(1, .str a1), (4, .op 0 0 0), (9, .ds true (qg encGEnumeration a0.fEnums) (qc a0.fEnums) false), (10, .int .i64 (qc a0.fEnums : Int)), (11, .int .i64 x2)] : List (Nat × AV)) ∧ τ = ([.cells 0 [.str [], .ds true [] 0 true]] : Store) ∧ a0.fEnums = p4 ++ q4 ∧ x2 = (qc p4 : Int) ∧ xb.l4 a1 q4 x2 = r) _ ⟨[], a0.fEnums, 0, rfl, rfl, rfl, rfl, rfl, h⟩ (.t [1] false) ?_
 rintro m L τ ⟨p4, q4, x2, rfl, rfl, rfl, hE4, hi4, h⟩
 rcases q4 with _ | ⟨y4, q4⟩
 · have hz4 := yz hE4 hi4
   simp only [xb.l4] at h
   refine rg tok [1, 4, 9, 10, 11, 12] fun K hK => ?_
   simp only [go_sem, qb, qa, hz4]
   apply hK
   refine zd fun Z5 hZ5 => ?_
   refine zz rfl ?_
   refine zM ?_
   apply hZ1
   refine rg tok [4, 5] fun K hK => ?_
   simp only [go_sem, qb, qe, qa, qd]
   apply hK
   refine zj ?_
   obtain rfl := h
   exact yr
 obtain ⟨hz4, hw4, hx4, hE'4, hi'4⟩ := yg hE4 hi4 hb4
 simp only [xb.l4] at h
 refine rg tok [1, 4, 9, 10, 11, 12] fun K hK => ?_
 simp only [go_sem, qb, qa, hz4]
 apply hK
 refine zd fun Z6 hZ6 => ?_
 refine zB rfl ?_
 refine zh ?_
 apply hZ6
 refine zd fun Z7 hZ7 => ?_
 refine zk ?_
 have f8 := E28.idxS hx4
 have f9 := E28.loadS rfl rfl hx4
 refine rg tok [1, 4, 7, 9, 10, 11] fun K hK => ?_
 simp only [go_sem, qb, qe, qa, qd, encGEnumeration, f8, f9]
 apply hK
 refine rg tok [1, 4, 7, 9, 10, 11, 18] fun K hK => ?_
 simp only [go_sem, qb, qa, qd]
 apply hK
 refine zI rfl (fun hc10 => ?_) (fun hc10 => ?_)
 · rw [if_pos hc10] at h
   have t11 := eq_true hc10
   refine rg tok [4, 5] fun K hK => ?_
   simp only [go_sem, qb, qe, qa, qd, t11]
   apply hK
   refine zj ?_
   obtain rfl := h
   exact yr
 rw [if_neg hc10] at h
 have t12 := eq_false hc10
 refine zh ?_
 apply hZ7
 refine rgE tok [1, 4, 9, 10, 11] fun K hK => ?_
 simp only [go_sem, qb, qa, hw4, t12]
 apply hK
 exact ⟨_, _, _, qu q4.length, ⟨p4 ++ [y4], q4, x2 + 1, rfl, rfl, rfl, hE'4, hi'4, h⟩, (.t [0] false)⟩
theorem xb.ev (a0 : GSchema) (a1 : List UInt8) (r : GEnumeration × Bool) (h : xb a0 a1 = r) (σ : Store) : ACalls qh 109 [.agg (encGSchema a0), .str a1] σ (fun r' σ' => r' = .tup [.agg (encGEnumeration r.1), .bool r.2] ∧ σ' = σ) :=
 (xb.ok a0 a1 r h).c σ
def xC (a0 : GSchema) (a1 : GField) : Bool :=
 (if a1.fType.fKind = 6 then bnd (xb a0 a1.fType.fName) fun r6 => (((decide (1 ≤ a1.fLabel)) && (decide (a1.fLabel ≤ 3))) && r6.2) else (if a1.fType.fKind = 7 then bnd (zP a0 a1.fType.fName) fun r10 => (((decide (1 ≤ a1.fLabel)) && (decide (a1.fLabel ≤ 3))) && r10.2) else (((((decide (1 ≤ a1.fLabel)) && (decide (a1.fLabel ≤ 3))) && (decide (1 ≤ a1.fType.fKind))) && (decide (a1.fType.fName = []))) && (decide (a1.fType.fKind < 6)))))
theorem xC.ok (a0 : GSchema) (a1 : GField) (r : Bool) (h : xC a0 a1 = r) : ACalls qh 82 [.agg (encGSchema a0), .agg (encGField a1)] [] (fun r' _ => r' = .bool r) := by
 refine zn (rs := [.tmp 4]) tok Tryd.func82 rfl Tryd.ntmps82 rfl Tryd.call82 (by simp) ?_
 refine zt [(0, .agg (encGSchema a0)), (1, .agg (encGField a1))] ⟨rfl, rfl, trivial⟩ ?_
 unfold xC at h
 refine rg tok [2, 3] fun K hK => ?_
 simp only [go_sem, qb, qa, qd, reduceCtorEq, encGField, encGSchema]
 apply hK
 refine rc [2, 3, 5] fun K hK => ?_
 refine zb tok 4 ?_
 simp only [go_sem, qb, qa, qd]
 refine zo 4 (fun L τ => L = ([(2, .op 0 0 0), (3, .op 1 0 0), (17, .bool ((decide (1 ≤ a1.fLabel)) && (decide (a1.fLabel ≤ 3))))] : List (Nat × AV)) ∧ τ = ([.cells 0 (encGSchema a0), .cells 0 (encGField a1)] : Store)) ?_ ?_
 · refine yN 13 rfl (fun hg13 => ?_) (fun hg13 => ?_)
   · have t1 := eq_true hg13
     refine zb tok 4 ?_
     simp only [go_sem, qb, qa, qd]
     refine za ⟨rfl, _, _, ⟨rfl, rfl⟩, .p t1⟩
   have t2 := eq_false hg13
   refine zb tok 4 ?_
   simp only [go_sem, qb, qa]
   refine za ⟨rfl, _, _, ⟨rfl, rfl⟩, .p t2⟩
 rintro _ _ ⟨rfl, rfl⟩
 refine zb tok 1 ?_
 simp only [go_sem, qb, qa]
 refine za ?_
 simp only [ze, upd, qa, reduceIte, zl, zq]
 apply hK
 refine zd fun Z3 hZ3 => ?_
 refine rg tok [2, 3, 5, 20] fun K hK => ?_
 simp only [go_sem, qb, qa, qd]
 apply hK
 refine zk ?_
 refine rg tok [2, 3, 5, 20, 21] fun K hK => ?_
 simp only [go_sem, qb, qa]
 apply hK
 refine zI rfl (fun hc4 => ?_) (fun hc4 => ?_)
 · rw [if_pos hc4] at h
   have t5 := eq_true hc4
   refine rc [5, 7] fun K hK => ?_
   obtain ⟨r6, hr6, h⟩ := zS h
   refine zb tok 4 ?_
   simp only [go_sem, qb, qe, qa, qd, t5]
   refine zi rfl rfl rfl (xb.ev a0 a1.fType.fName r6 hr6 _) ?_
   rintro _ _ ⟨rfl, rfl⟩
   refine zb tok 6 ?_
   simp only [go_sem, qb, qe, qa, qd, encGEnumeration]
   refine za ?_
   simp only [ze, upd, qa, reduceIte, zl, zq]
   apply hK
   refine rc [4] fun K hK => ?_
   refine zb tok 2 ?_
   simp only [go_sem, qb, qa]
   refine zo 2 (fun L τ => L = ([(34, .bool (((decide (1 ≤ a1.fLabel)) && (decide (a1.fLabel ≤ 3))) && r6.2))] : List (Nat × AV)) ∧ τ = ([.cells 0 (encGSchema a0), .cells 0 (encGField a1), .cells 0 (encGEnumeration r6.1)] : Store)) ?_ ?_
   · refine zQ (b := ((decide (1 ≤ a1.fLabel)) && (decide (a1.fLabel ≤ 3)))) 32 rfl (fun hg32 => ?_) (fun hg32 => ?_)
     · refine zb tok 2 ?_
       simp only [go_sem, qb, qa]
       refine za ⟨rfl, _, _, ⟨rfl, rfl⟩, .b hg32⟩
     refine zb tok 2 ?_
     simp only [go_sem, qb, qa]
     refine za ⟨rfl, _, _, ⟨rfl, rfl⟩, .b hg32⟩
   rintro _ _ ⟨rfl, rfl⟩
   refine zb tok 1 ?_
   simp only [go_sem, qb]
   refine za ?_
   simp only [ze, upd, qa, reduceIte, zl, zq]
   apply hK
   refine zj ?_
   obtain rfl := h
   exact yr
 rw [if_neg hc4] at h
 have t7 := eq_false hc4
 refine rg tok [2, 3, 5, 35] fun K hK => ?_
 simp only [go_sem, qb, qa, t7]
 apply hK
 refine zI rfl (fun hc8 => ?_) (fun hc8 => ?_)
 · rw [if_pos hc8] at h
   have t9 := eq_true hc8
   refine rc [5, 9] fun K hK => ?_
   obtain ⟨r10, hr10, h⟩ := zS h
   refine zb tok 4 ?_
   simp only [go_sem, qb, qe, qa, qd, t9]
   refine zi rfl rfl rfl (zP.ev a0 a1.fType.fName r10 hr10 _) ?_
   rintro _ _ ⟨rfl, rfl⟩
   refine zb tok 6 ?_
   simp only [go_sem, qb, qe, qa, qd, encGMessage]
   refine za ?_
   simp only [ze, upd, qa, reduceIte, zl, zq]
   apply hK
   refine rc [4] fun K hK => ?_
   refine zb tok 2 ?_
   simp only [go_sem, qb, qa]
   refine zo 2 (fun L τ => L = ([(48, .bool (((decide (1 ≤ a1.fLabel)) && (decide (a1.fLabel ≤ 3))) && r10.2))] : List (Nat × AV)) ∧ τ = ([.cells 0 (encGSchema a0), .cells 0 (encGField a1), .cells 0 (encGMessage r10.1)] : Store)) ?_ ?_
   · refine zQ (b := ((decide (1 ≤ a1.fLabel)) && (decide (a1.fLabel ≤ 3)))) 46 rfl (fun hg46 => ?_) (fun hg46 => ?_)
     · refine zb tok 2 ?_
       simp only [go_sem, qb, qa]
       refine za ⟨rfl, _, _, ⟨rfl, rfl⟩, .b hg46⟩
     refine zb tok 2 ?_
     simp only [go_sem, qb, qa]
     refine za ⟨rfl, _, _, ⟨rfl, rfl⟩, .b hg46⟩
   rintro _ _ ⟨rfl, rfl⟩
   refine zb tok 1 ?_
   simp only [go_sem, qb]
   refine za ?_
   simp only [ze, upd, qa, reduceIte, zl, zq]
   apply hK
   refine zj ?_
   obtain rfl := h
   exact yr
 rw [if_neg hc8] at h
 have t11 := eq_false hc8
 refine zh ?_
 apply hZ3
 refine rc [4] fun K hK => ?_
 refine zb tok 2 ?_
 simp only [go_sem, qb, qa, t11]
 refine zo 5 (fun L τ => L = ([(3, .op 1 0 0), (55, .bool (((decide (1 ≤ a1.fLabel)) && (decide (a1.fLabel ≤ 3))) && (decide (1 ≤ a1.fType.fKind))))] : List (Nat × AV)) ∧ τ = ([.cells 0 (encGSchema a0), .cells 0 (encGField a1)] : Store)) ?_ ?_
 · refine zQ (b := ((decide (1 ≤ a1.fLabel)) && (decide (a1.fLabel ≤ 3)))) 50 rfl (fun hg50 => ?_) (fun hg50 => ?_)
   · refine zb tok 5 ?_
     simp only [go_sem, qb, qa, qd]
     refine za ⟨rfl, _, _, ⟨rfl, rfl⟩, .b hg50⟩
   refine zb tok 5 ?_
   simp only [go_sem, qb, qa]
   refine za ⟨rfl, _, _, ⟨rfl, rfl⟩, .b hg50⟩
 rintro _ _ ⟨rfl, rfl⟩
 refine zb tok 1 ?_
 simp only [go_sem, qb, qa]
 refine zo 8 (fun L τ => L = ([(3, .op 1 0 0), (64, .bool ((((decide (1 ≤ a1.fLabel)) && (decide (a1.fLabel ≤ 3))) && (decide (1 ≤ a1.fType.fKind))) && (decide (a1.fType.fName = []))))] : List (Nat × AV)) ∧ τ = ([.cells 0 (encGSchema a0), .cells 0 (encGField a1)] : Store)) ?_ ?_
 · refine zQ (b := (((decide (1 ≤ a1.fLabel)) && (decide (a1.fLabel ≤ 3))) && (decide (1 ≤ a1.fType.fKind)))) 56 rfl (fun hg56 => ?_) (fun hg56 => ?_)
   · refine zb tok 8 ?_
     simp only [go_sem, qb, qe, qa, qd, evEqA, ceqL, ceq]
     refine za ⟨rfl, _, _, ⟨rfl, rfl⟩, .b hg56⟩
   refine zb tok 8 ?_
   simp only [go_sem, qb, qa]
   refine za ⟨rfl, _, _, ⟨rfl, rfl⟩, .b hg56⟩
 rintro _ _ ⟨rfl, rfl⟩
 refine zb tok 1 ?_
 simp only [go_sem, qb, qa]
 refine zo 5 (fun L τ => L = ([(70, .bool (((((decide (1 ≤ a1.fLabel)) && (decide (a1.fLabel ≤ 3))) && (decide (1 ≤ a1.fType.fKind))) && (decide (a1.fType.fName = []))) && (decide (a1.fType.fKind < 6))))] : List (Nat × AV)) ∧ τ = ([.cells 0 (encGSchema a0), .cells 0 (encGField a1)] : Store)) ?_ ?_
 · refine zQ (b := ((((decide (1 ≤ a1.fLabel)) && (decide (a1.fLabel ≤ 3))) && (decide (1 ≤ a1.fType.fKind))) && (decide (a1.fType.fName = [])))) 65 rfl (fun hg65 => ?_) (fun hg65 => ?_)
   · refine zb tok 5 ?_
     simp only [go_sem, qb, qa, qd]
     refine za ⟨rfl, _, _, ⟨rfl, rfl⟩, .b hg65⟩
   refine zb tok 5 ?_
   simp only [go_sem, qb, qa]
   refine za ⟨rfl, _, _, ⟨rfl, rfl⟩, .b hg65⟩
 rintro _ _ ⟨rfl, rfl⟩
 refine zb tok 1 ?_
 simp only [go_sem, qb]
 refine za ?_
 simp only [ze, upd, qa, reduceIte, zl, zq]
 apply hK
 refine zj ?_
 obtain rfl := h
 exact yr
theorem xC.ev (a0 : GSchema) (a1 : GField) (r : Bool) (h : xC a0 a1 = r) (σ : Store) : ACalls qh 82 [.agg (encGSchema a0), .agg (encGField a1)] σ (fun r' σ' => r' = .bool r ∧ σ' = σ) :=
 (xC.ok a0 a1 r h).c σ
def zO.l21 (a0 : GSchema) (r2 : Bool × List (List UInt8 × Bool)) : List GField → Int → List (Int × Bool) → List (List UInt8 × Bool) → Option (Int × List (List UInt8 × Bool))
 | [], x17, l15, l16 => some (0, r2.2)
 | y21 :: q21, x17, l15, l16 => (z7 l16 y21.fName).bind fun r28 => (if (!r28.1) = true then some (6, r2.2) else bnd (wr y21.fTag) fun r30 => (if ((!r30) || ((X0 l15 y21.fTag).getD false)) = true then some (7, r2.2) else bnd (xC a0 y21) fun r33 => (if (!r33) = true then some (8, r2.2) else ((zO.l21 a0 r2 q21) (x17 + 1) (vaa l15 y21.fTag true) r28.2))))
def zO.l12 (a0 : GSchema) (a2 : GMessage) (r2 : Bool × List (List UInt8 × Bool)) : List Int → Int → List (Int × Bool) → Option (Int × List (List UInt8 × Bool))
 | [], x9, l8 => (zO.l21 a0 r2 a2.fFields 0 l8 [])
 | y12 :: q12, x9, l8 => bnd (wr y12) fun r41 => (if ((!r41) || ((X0 l8 y12).getD false)) = true then some (7, r2.2) else ((zO.l12 a0 a2 r2 q12) (x9 + 1) (vaa l8 y12 true)))
def zO (a0 : GSchema) (a1 : List (List UInt8 × Bool)) (a2 : GMessage) : Option (Int × List (List UInt8 × Bool)) :=
 (z7 a1 a2.fName).bind fun r2 => (if (!r2.1) = true then some (6, r2.2) else (if ((decide (16 < (qc a2.fFields : Int))) || (decide (32 < (qc a2.fReserved : Int)))) = true then some (4, r2.2) else (zO.l12 a0 a2 r2 a2.fReserved 0 [])))
theorem zO.ok (a0 : GSchema) (a1 : List (List UInt8 × Bool)) (a2 : GMessage) (r : Int × List (List UInt8 × Bool)) (h : zO a0 a1 a2 = some r) : ACalls qh 52 [.agg (encGSchema a0), .mp 0, .agg (encGMessage a2)] [.map (xV AV.str AV.bool a1)] (fun r' σ' => r' = .int .i64 r.1 ∧ σ' = [.map (xV AV.str AV.bool r.2)]) := by
 refine vbt [0] (rs := [.tmp 6]) tok Tryd.func52 rfl Tryd.ntmps52 rfl Tryd.call52 (by simp) rfl ?_
 refine zt [(0, .agg (encGSchema a0)), (1, .mp 0), (2, .agg (encGMessage a2))] ⟨rfl, rfl, rfl, trivial⟩ ?_
 unfold zO at h
 refine rg tok [1, 3, 5] fun K hK => ?_
 simp only [go_sem, qb, qa, qd, reduceCtorEq, encGMessage, encGSchema]
 apply hK
 refine zd fun Z1 hZ1 => ?_
 refine zk ?_
 refine rc [3, 5, 13] fun K hK => ?_
 obtain ⟨r2, hr2, h⟩ := bind_some h
 refine zb tok 3 ?_
 simp only [go_sem, qb, qa, qd]
 refine zi rfl rfl rfl (@id (ACalls qh 54 [.mp 0, .str a2.fName] [.map (xV AV.str AV.bool a1), .cells 0 (encGSchema a0), .cells 0 (encGMessage a2)] (fun r' σ' => r' = .bool r2.1 ∧ σ' = [.map (xV AV.str AV.bool r2.2), .cells 0 (encGSchema a0), .cells 0 (encGMessage a2)])) ((z7.ok a1 a2.fName r2 hr2).i [0])) ?_
 rintro _ _ ⟨rfl, rfl⟩
 refine zb tok 2 ?_
 simp only [go_sem, qb, qa]
 refine za ?_
 simp only [ze, upd, qa, reduceIte, zl, zq]
 apply hK
 refine zv (b := (!r2.1)) rfl (fun hc3 => ?_) (fun hc3 => ?_)
 · rw [if_pos hc3] at h
   refine rg tok [6] fun K hK => ?_
   simp only [go_sem, qb, qa]
   apply hK
   refine zj ?_
   obtain rfl := Option.some.inj h
   simp only [ZF, xd, xl, xY, exists_eq_left', go_sem, qd]
   refine ⟨by decide, by simp, ?_, ?_⟩
   · first | rfl | (simp only [go_sem, qb, qe, qa, qd, qw, qL, reduceIte, reduceCtorEq, push_cast, if_true, qJ, qt, qM, qy, qR, qW, ub, q2, ud, qX, qI, yj] <;> rfl)
   first | rfl | (simp only [go_sem, push_cast, qy] <;> rfl)
 rw [xD hc3] at h
 refine rc [3, 5, 19] fun K hK => ?_
 refine zb tok 5 ?_
 simp only [go_sem, qb, qa, qd]
 refine zo 5 (fun L τ => L = ([(3, .op 1 0 0), (5, .op 2 0 0), (29, .bool ((decide (16 < (qc a2.fFields : Int))) || (decide (32 < (qc a2.fReserved : Int)))))] : List (Nat × AV)) ∧ τ = ([.map (xV AV.str AV.bool r2.2), .cells 0 (encGSchema a0), .cells 0 (encGMessage a2)] : Store)) ?_ ?_
 · refine yN 24 rfl (fun hg24 => ?_) (fun hg24 => ?_)
   · have t4 := eq_true hg24
     refine zb tok 5 ?_
     simp only [go_sem, qb, qa]
     refine za ⟨rfl, _, _, ⟨rfl, rfl⟩, .p t4⟩
   have t5 := eq_false hg24
   refine zb tok 5 ?_
   simp only [go_sem, qb, qa, qd]
   refine za ⟨rfl, _, _, ⟨rfl, rfl⟩, .p t5⟩
 rintro _ _ ⟨rfl, rfl⟩
 refine zb tok 1 ?_
 simp only [go_sem, qb, qa]
 refine za ?_
 simp only [ze, upd, qa, reduceIte, zl, zq]
 apply hK
 refine zv (b := ((decide (16 < (qc a2.fFields : Int))) || (decide (32 < (qc a2.fReserved : Int))))) rfl (fun hc6 => ?_) (fun hc6 => ?_)
 · rw [if_pos hc6] at h
   refine rg tok [6] fun K hK => ?_
   simp only [go_sem, qb, qa]
   apply hK
   refine zj ?_
   obtain rfl := Option.some.inj h
   simp only [ZF, xd, xl, xY, exists_eq_left', go_sem, qd]
   refine ⟨by decide, by simp, ?_, ?_⟩
   · first | rfl | (simp only [go_sem, qb, qe, qa, qd, qw, qL, reduceIte, reduceCtorEq, push_cast, if_true, qJ, qt, qM, qy, qR, qW, ub, q2, ud, qX, qI, yj] <;> rfl)
   first | rfl | (simp only [go_sem, push_cast, qy] <;> rfl)
 rw [xD hc6] at h
 refine zh ?_
 apply hZ1
 refine rg tok [3, 5, 7] fun K hK => ?_
 simp only [go_sem, qb, qa, qd]
 apply hK
 refine yc (L := [(3, .op 1 0 0), (5, .op 2 0 0), (7, .mp 3)]) (τ := [.map (xV AV.str AV.bool r2.2), .cells 0 (encGSchema a0), .cells 0 (encGMessage a2), .map (xV (AV.int .i64) AV.bool [])]) .s ?_
 refine zd fun Z7 hZ7 => ?_
 refine rg tok [3, 5, 7, 32, 33, 34] fun K hK => ?_
 simp only [go_sem, qb, qa, qd]
 apply hK
 refine zk ?_
 refine yW 32 fun hb12 => ?_
 replace hb12 : qc a2.fReserved ≤ 9223372036854775807 := hb12.1
 refine zF (fun m L τ => ∃ (p12 q12 : List Int) (x9 : Int) (l8 : List (Int × Bool)), m = qc q12 ∧ L = ([(3, .op 1 0 0), (5, .op 2 0 0), (7, .mp 3), (32, .ds true (qg encI a2.fReserved) (qc a2.fReserved) false), (33, .int .i64 (qc a2.fReserved : Int)), (34, .int .i64 x9)] : List (Nat × AV)) ∧ τ = ([.map (xV AV.str AV.bool r2.2), .cells 0 (encGSchema a0), .cells 0 (encGMessage a2), .map (xV (AV.int .i64) AV.bool l8)] : Store) ∧ a2.fReserved = p12 ++ q12 ∧ x9 = (qc p12 : Int) ∧ zO.l12 a0 a2 r2 q12 x9 l8 = some r) _ ⟨[], a2.fReserved, 0, [], rfl, rfl, rfl, rfl, rfl, h⟩ .s ?_
 rintro m L τ ⟨p12, q12, x9, l8, rfl, rfl, rfl, hE12, hi12, h⟩
 rcases q12 with _ | ⟨y12, q12⟩
 · have hz12 := yz hE12 hi12
   simp only [zO.l12] at h
   refine rg tok [3, 5, 7, 32, 33, 34, 35] fun K hK => ?_
   simp only [go_sem, qb, qa, hz12]
   apply hK
   refine zd fun Z13 hZ13 => ?_
   refine zz rfl ?_
   refine zM ?_
   apply hZ7
   refine rg tok [3, 5, 7, 10] fun K hK => ?_
   simp only [go_sem, qb, qa, qd]
   apply hK
   refine yc (L := [(3, .op 1 0 0), (5, .op 2 0 0), (7, .mp 3), (10, .mp 4)]) (τ := [.map (xV AV.str AV.bool r2.2), .cells 0 (encGSchema a0), .cells 0 (encGMessage a2), .map (xV (AV.int .i64) AV.bool l8), .map (xV AV.str AV.bool [])]) .s ?_
   refine zd fun Z14 hZ14 => ?_
   refine rg tok [3, 7, 10, 51, 52, 53] fun K hK => ?_
   simp only [go_sem, qb, qa, qd]
   apply hK
   refine zk ?_
   refine yW 51 fun hb21 => ?_
   replace hb21 : qc a2.fFields ≤ 9223372036854775807 := hb21.1
   refine zF (fun m L τ => ∃ (p21 q21 : List GField) (x17 : Int) (l15 : List (Int × Bool)) (l16 : List (List UInt8 × Bool)), m = qc q21 ∧ L = ([(3, .op 1 0 0), (7, .mp 2), (10, .mp 3), (51, .ds true (qg encGField a2.fFields) (qc a2.fFields) false), (52, .int .i64 (qc a2.fFields : Int)), (53, .int .i64 x17)] : List (Nat × AV)) ∧ τ = ([.map (xV AV.str AV.bool r2.2), .cells 0 (encGSchema a0), .map (xV (AV.int .i64) AV.bool l15), .map (xV AV.str AV.bool l16)] : Store) ∧ a2.fFields = p21 ++ q21 ∧ x17 = (qc p21 : Int) ∧ zO.l21 a0 r2 q21 x17 l15 l16 = some r) _ ⟨[], a2.fFields, 0, l8, [], rfl, rfl, rfl, rfl, rfl, h⟩ (.t [0, 1, 3, 4] false) ?_
   rintro m L τ ⟨p21, q21, x17, l15, l16, rfl, rfl, rfl, hE21, hi21, h⟩
   rcases q21 with _ | ⟨y21, q21⟩
   · have hz21 := yz hE21 hi21
     simp only [zO.l21] at h
     refine rg tok [3, 7, 10, 51, 52, 53, 54] fun K hK => ?_
     simp only [go_sem, qb, qa, hz21]
     apply hK
     refine zd fun Z22 hZ22 => ?_
     refine zz rfl ?_
     refine zM ?_
     apply hZ14
     refine rg tok [6] fun K hK => ?_
     simp only [go_sem, qb, qa]
     apply hK
     refine zj ?_
     obtain rfl := Option.some.inj h
     simp only [ZF, xd, xl, xY, exists_eq_left', go_sem, qd]
     refine ⟨by decide, by simp, ?_, ?_⟩
     · first | rfl | (simp only [go_sem, qb, qe, qa, qd, qw, qL, reduceIte, reduceCtorEq, push_cast, if_true, qJ, qt, qM, qy, qR, qW, ub, q2, ud, qX, qI, yj] <;> rfl)
     first | rfl | (simp only [go_sem, push_cast, qy] <;> rfl)
   obtain ⟨hz21, hw21, hx21, hE'21, hi'21⟩ := yg hE21 hi21 hb21
   simp only [zO.l21] at h
   refine rg tok [3, 7, 10, 51, 52, 53, 54] fun K hK => ?_
   simp only [go_sem, qb, qa, hz21]
   apply hK
   refine zd fun Z23 hZ23 => ?_
   refine zB rfl ?_
   refine zh ?_
   apply hZ23
   refine zd fun Z24 hZ24 => ?_
   refine zk ?_
   have f25 := E23.idxS hx21
   have f26 := E23.loadS rfl rfl hx21
   refine rg tok [3, 7, 10, 12, 51, 52, 53] fun K hK => ?_
   simp only [go_sem, qb, qe, qa, qd, encGField, f25, f26]
   apply hK
   refine zd fun Z27 hZ27 => ?_
   refine zk ?_
   refine rc [3, 7, 10, 12, 51, 52, 53, 57] fun K hK => ?_
   obtain ⟨r28, hr28, h⟩ := bind_some h
   refine zb tok 3 ?_
   simp only [go_sem, qb, qa, qd]
   refine zi rfl rfl rfl (@id (ACalls qh 54 [.mp 3, .str y21.fName] [.map (xV AV.str AV.bool r2.2), .cells 0 (encGSchema a0), .map (xV (AV.int .i64) AV.bool l15), .map (xV AV.str AV.bool l16), .cells 0 (encGField y21)] (fun r' σ' => r' = .bool r28.1 ∧ σ' = [.map (xV AV.str AV.bool r2.2), .cells 0 (encGSchema a0), .map (xV (AV.int .i64) AV.bool l15), .map (xV AV.str AV.bool r28.2), .cells 0 (encGField y21)])) ((z7.ok l16 y21.fName r28 hr28).i [3])) ?_
   rintro _ _ ⟨rfl, rfl⟩
   refine zb tok 2 ?_
   simp only [go_sem, qb, qa]
   refine za ?_
   simp only [ze, upd, qa, reduceIte, zl, zq]
   apply hK
   refine zv (b := (!r28.1)) rfl (fun hc29 => ?_) (fun hc29 => ?_)
   · rw [if_pos hc29] at h
     refine rg tok [6] fun K hK => ?_
     simp only [go_sem, qb, qa]
     apply hK
     refine zj ?_
     obtain rfl := Option.some.inj h
     simp only [ZF, xd, xl, xY, exists_eq_left', go_sem, qd]
     refine ⟨by decide, by simp, ?_, ?_⟩
     · first | rfl | (simp only [go_sem, qb, qe, qa, qd, qw, qL, reduceIte, reduceCtorEq, push_cast, if_true, qJ, qt, qM, qy, qR, qW, ub, q2, ud, qX, qI, yj] <;> rfl)
     first | rfl | (simp only [go_sem, push_cast, qy] <;> rfl)
   rw [xD hc29] at h
   refine rc [3, 7, 10, 12, 51, 52, 53, 63] fun K hK => ?_
   obtain ⟨r30, hr30, h⟩ := zS h
   refine zb tok 2 ?_
   simp only [go_sem, qb, qa, qd]
   refine zi rfl rfl rfl (wr.ev y21.fTag r30 hr30 _) ?_
   rintro _ _ ⟨rfl, rfl⟩
   refine zb tok 2 ?_
   simp only [go_sem, qb, qa]
   refine zo 5 (fun L τ => L = ([(3, .op 1 0 0), (7, .mp 2), (10, .mp 3), (12, .op 4 0 0), (51, .ds true (qg encGField a2.fFields) (qc a2.fFields) false), (52, .int .i64 (qc a2.fFields : Int)), (53, .int .i64 x17), (73, .bool ((!r30) || ((X0 l15 y21.fTag).getD false)))] : List (Nat × AV)) ∧ τ = ([.map (xV AV.str AV.bool r2.2), .cells 0 (encGSchema a0), .map (xV (AV.int .i64) AV.bool l15), .map (xV AV.str AV.bool r28.2), .cells 0 (encGField y21)] : Store)) ?_ ?_
   · refine zQ (b := (!r30)) 68 rfl (fun hg68 => ?_) (fun hg68 => ?_)
     · refine zb tok 5 ?_
       simp only [go_sem, qb, qa, if_false, if_true]
       refine za ⟨rfl, _, _, ⟨rfl, rfl⟩, .b hg68⟩
     have f31 := fun (o0 : Zq) (o1 : Zq) (x : Store) => vax (T := tab) (t := 134) (ek := (AV.int .i64)) (ev := AV.bool) (z := false) (KeyE.int rfl rfl rfl rfl) rfl rfl rfl rfl l15 y21.fTag false (o0 :: o1 :: .map (xV (AV.int .i64) AV.bool l15) :: x) 2 rfl
     refine zb tok 5 ?_
     simp only [go_sem, qb, qa, qd, Xb, qT, if_false, if_true, f31]
     refine za ⟨rfl, _, _, ⟨rfl, rfl⟩, .b hg68⟩
   rintro _ _ ⟨rfl, rfl⟩
   refine zb tok 1 ?_
   simp only [go_sem, qb, qa]
   refine za ?_
   simp only [ze, upd, qa, reduceIte, zl, zq]
   apply hK
   refine zv (b := ((!r30) || ((X0 l15 y21.fTag).getD false))) rfl (fun hc32 => ?_) (fun hc32 => ?_)
   · rw [if_pos hc32] at h
     refine rg tok [6] fun K hK => ?_
     simp only [go_sem, qb, qa]
     apply hK
     refine zj ?_
     obtain rfl := Option.some.inj h
     simp only [ZF, xd, xl, xY, exists_eq_left', go_sem, qd]
     refine ⟨by decide, by simp, ?_, ?_⟩
     · first | rfl | (simp only [go_sem, qb, qe, qa, qd, qw, qL, reduceIte, reduceCtorEq, push_cast, if_true, qJ, qt, qM, qy, qR, qW, ub, q2, ud, qX, qI, yj] <;> rfl)
     first | rfl | (simp only [go_sem, push_cast, qy] <;> rfl)
   rw [xD hc32] at h
   refine rc [3, 7, 10, 12, 51, 52, 53, 74] fun K hK => ?_
   obtain ⟨r33, hr33, h⟩ := zS h
   refine zb tok 2 ?_
   simp only [go_sem, qb, qe, qa, qd]
   refine zi rfl rfl rfl (xC.ev a0 y21 r33 hr33 _) ?_
   rintro _ _ ⟨rfl, rfl⟩
   refine zb tok 2 ?_
   simp only [go_sem, qb, qa]
   refine za ?_
   simp only [ze, upd, qa, reduceIte, zl, zq]
   apply hK
   refine zv (b := (!r33)) rfl (fun hc34 => ?_) (fun hc34 => ?_)
   · rw [if_pos hc34] at h
     refine rg tok [6] fun K hK => ?_
     simp only [go_sem, qb, qa]
     apply hK
     refine zj ?_
     obtain rfl := Option.some.inj h
     simp only [ZF, xd, xl, xY, exists_eq_left', go_sem, qd]
     refine ⟨by decide, by simp, ?_, ?_⟩
     · first | rfl | (simp only [go_sem, qb, qe, qa, qd, qw, qL, reduceIte, reduceCtorEq, push_cast, if_true, qJ, qt, qM, qy, qR, qW, ub, q2, ud, qX, qI, yj] <;> rfl)
     first | rfl | (simp only [go_sem, push_cast, qy] <;> rfl)
   rw [xD hc34] at h
   refine zh ?_
   apply hZ27
   have f35 := fun (o0 : Zq) (o1 : Zq) (x : Store) => var (T := tab) (t := 134) (ek := (AV.int .i64)) (ev := AV.bool) (KeyE.int rfl rfl rfl rfl) rfl rfl l15 y21.fTag true (o0 :: o1 :: .map (xV (AV.int .i64) AV.bool l15) :: x) 2 rfl
   refine rgE tok [3, 7, 10, 51, 52, 53] fun K hK => ?_
   simp only [go_sem, qb, qa, qd, f35]
   apply hK
   apply hZ24
   refine rgE tok [3, 7, 10, 51, 52, 53] fun K hK => ?_
   simp only [go_sem, qb, qa, hw21]
   apply hK
   exact ⟨_, _, _, qu q21.length, ⟨p21 ++ [y21], q21, x17 + 1, vaa l15 y21.fTag true, r28.2, rfl, rfl, rfl, hE'21, hi'21, h⟩, (.t [0, 1, 2, 3] false)⟩
 obtain ⟨hz12, hw12, hx12, hE'12, hi'12⟩ := yg hE12 hi12 hb12
 simp only [zO.l12] at h
 refine rg tok [3, 5, 7, 32, 33, 34, 35] fun K hK => ?_
 simp only [go_sem, qb, qa, hz12]
 apply hK
 refine zd fun Z36 hZ36 => ?_
 refine zB rfl ?_
 refine zh ?_
 apply hZ36
 refine zd fun Z37 hZ37 => ?_
 refine zk ?_
 have f38 := E24.idxS hx12
 have f39 := E24.fldS0 (f := 3) rfl rfl hx12
 refine rg tok [3, 5, 7, 9, 32, 33, 34] fun K hK => ?_
 simp only [go_sem, qb, qa, encI, f38, f39]
 apply hK
 refine zd fun Z40 hZ40 => ?_
 refine rc [3, 5, 7, 9, 32, 33, 34, 45] fun K hK => ?_
 obtain ⟨r41, hr41, h⟩ := zS h
 refine zb tok 1 ?_
 simp only [go_sem, qb, qa]
 refine zi rfl rfl rfl (wr.ev y12 r41 hr41 _) ?_
 rintro _ _ ⟨rfl, rfl⟩
 refine zb tok 2 ?_
 simp only [go_sem, qb, qa]
 refine zo 4 (fun L τ => L = ([(3, .op 1 0 0), (5, .op 2 0 0), (7, .mp 3), (9, .int .i64 y12), (32, .ds true (qg encI a2.fReserved) (qc a2.fReserved) false), (33, .int .i64 (qc a2.fReserved : Int)), (34, .int .i64 x9), (45, .bool ((!r41) || ((X0 l8 y12).getD false)))] : List (Nat × AV)) ∧ τ = ([.map (xV AV.str AV.bool r2.2), .cells 0 (encGSchema a0), .cells 0 (encGMessage a2), .map (xV (AV.int .i64) AV.bool l8)] : Store)) ?_ ?_
 · refine zQ (b := (!r41)) 41 rfl (fun hg41 => ?_) (fun hg41 => ?_)
   · refine zb tok 4 ?_
     simp only [go_sem, qb, qa, if_false, if_true]
     refine za ⟨rfl, _, _, ⟨rfl, rfl⟩, .b hg41⟩
   have f42 := fun (o0 : Zq) (o1 : Zq) (o2 : Zq) (x : Store) => vax (T := tab) (t := 134) (ek := (AV.int .i64)) (ev := AV.bool) (z := false) (KeyE.int rfl rfl rfl rfl) rfl rfl rfl rfl l8 y12 false (o0 :: o1 :: o2 :: .map (xV (AV.int .i64) AV.bool l8) :: x) 3 rfl
   refine zb tok 4 ?_
   simp only [go_sem, qb, qa, Xb, qT, if_false, if_true, f42]
   refine za ⟨rfl, _, _, ⟨rfl, rfl⟩, .b hg41⟩
 rintro _ _ ⟨rfl, rfl⟩
 refine za ?_
 simp only [ze, qa, reduceIte, zl, zq]
 apply hK
 refine zv (b := ((!r41) || ((X0 l8 y12).getD false))) rfl (fun hc43 => ?_) (fun hc43 => ?_)
 · rw [if_pos hc43] at h
   refine rg tok [6] fun K hK => ?_
   simp only [go_sem, qb, qa]
   apply hK
   refine zj ?_
   obtain rfl := Option.some.inj h
   simp only [ZF, xd, xl, xY, exists_eq_left', go_sem, qd]
   refine ⟨by decide, by simp, ?_, ?_⟩
   · first | rfl | (simp only [go_sem, qb, qe, qa, qd, qw, qL, reduceIte, reduceCtorEq, push_cast, if_true, qJ, qt, qM, qy, qR, qW, ub, q2, ud, qX, qI, yj] <;> rfl)
   first | rfl | (simp only [go_sem, push_cast, qy] <;> rfl)
 rw [xD hc43] at h
 refine zh ?_
 apply hZ40
 have f44 := fun (o0 : Zq) (o1 : Zq) (o2 : Zq) (x : Store) => var (T := tab) (t := 134) (ek := (AV.int .i64)) (ev := AV.bool) (KeyE.int rfl rfl rfl rfl) rfl rfl l8 y12 true (o0 :: o1 :: o2 :: .map (xV (AV.int .i64) AV.bool l8) :: x) 3 rfl
 refine rgE tok [3, 5, 7, 32, 33, 34] fun K hK => ?_
 simp only [go_sem, qb, qa, f44]
 apply hK
 apply hZ37
 refine rgE tok [3, 5, 7, 32, 33, 34] fun K hK => ?_
 simp only [go_sem, qb, qa, hw12]
 apply hK
 exact ⟨_, _, _, qu q12.length, ⟨p12 ++ [y12], q12, x9 + 1, vaa l8 y12 true, rfl, rfl, rfl, hE'12, hi'12, h⟩, .s⟩
def yf.l23 (r2 : Bool × List (List UInt8 × Bool)) : List GNamed → Int → List (List UInt8 × Bool) → List (Int × Bool) → Option (Int × List (List UInt8 × Bool))
 | [], x19, l17, l18 => some (0, r2.2)
 | y23 :: q23, x19, l17, l18 => (z7 l17 y23.fName).bind fun r30 => (if (!r30.1) = true then some (6, r2.2) else (if (((decide (y23.fN < 0)) || (decide (2147483647 < y23.fN))) || ((X0 l18 y23.fN).getD false)) = true then some (11, r2.2) else ((yf.l23 r2 q23) (x19 + 1) r30.2 (vaa l18 y23.fN true))))
def yf.l12 (a1 : GEnumeration) (r2 : Bool × List (List UInt8 × Bool)) : List GNamed → Int → Bool → Option (Int × List (List UInt8 × Bool))
 | [], x9, x8 => (if (!x8) = true then some (12, r2.2) else (yf.l23 r2 a1.fValues 0 [] []))
 | y12 :: q12, x9, x8 => ((yf.l12 a1 r2 q12) (x9 + 1) (x8 || (decide (y12.fN = 0))))
def yf (a0 : List (List UInt8 × Bool)) (a1 : GEnumeration) : Option (Int × List (List UInt8 × Bool)) :=
 (z7 a0 a1.fName).bind fun r2 => (if (!r2.1) = true then some (6, r2.2) else (if 16 < (qc a1.fValues : Int) then some (4, r2.2) else (yf.l12 a1 r2 a1.fValues 0 false)))
theorem yf.ok (a0 : List (List UInt8 × Bool)) (a1 : GEnumeration) (r : Int × List (List UInt8 × Bool)) (h : yf a0 a1 = some r) : ACalls qh 53 [.mp 0, .agg (encGEnumeration a1)] [.map (xV AV.str AV.bool a0)] (fun r' σ' => r' = .int .i64 r.1 ∧ σ' = [.map (xV AV.str AV.bool r.2)]) := by
 refine vbt [0] (rs := [.tmp 4]) tok Tryd.func53 rfl Tryd.ntmps53 rfl Tryd.call53 (by simp) rfl ?_
 refine zt [(0, .mp 0), (1, .agg (encGEnumeration a1))] ⟨rfl, rfl, trivial⟩ ?_
 unfold yf at h
 refine rg tok [0, 3] fun K hK => ?_
 simp only [go_sem, qb, qa, qd, reduceCtorEq, encGEnumeration]
 apply hK
 refine zd fun Z1 hZ1 => ?_
 refine zk ?_
 refine rc [3, 12] fun K hK => ?_
 obtain ⟨r2, hr2, h⟩ := bind_some h
 refine zb tok 3 ?_
 simp only [go_sem, qb, qa, qd, reduceCtorEq]
 refine zi rfl rfl rfl (@id (ACalls qh 54 [.mp 0, .str a1.fName] [.map (xV AV.str AV.bool a0), .cells 0 (encGEnumeration a1)] (fun r' σ' => r' = .bool r2.1 ∧ σ' = [.map (xV AV.str AV.bool r2.2), .cells 0 (encGEnumeration a1)])) ((z7.ok a0 a1.fName r2 hr2).i [0])) ?_
 rintro _ _ ⟨rfl, rfl⟩
 refine zb tok 2 ?_
 simp only [go_sem, qb, qa, reduceCtorEq]
 refine za ?_
 simp only [ze, upd, qa, reduceIte, zl, zq]
 apply hK
 refine zv (b := (!r2.1)) rfl (fun hc3 => ?_) (fun hc3 => ?_)
 · rw [if_pos hc3] at h
   refine rg tok [4] fun K hK => ?_
   simp only [go_sem, qb, qa]
   apply hK
   refine zj ?_
   obtain rfl := Option.some.inj h
   simp only [ZF, xd, xl, xY, exists_eq_left', go_sem, qd]
   refine ⟨by decide, by simp, ?_, ?_⟩
   · first | rfl | (simp only [go_sem, qb, qe, qa, qd, qw, qL, reduceIte, reduceCtorEq, push_cast, if_true, qJ, qt, qM, qy, qR, qW, ub, q2, ud, qX, qI, yj] <;> rfl)
   first | rfl | (simp only [go_sem, push_cast, qy] <;> rfl)
 rw [xD hc3] at h
 refine rg tok [3, 18] fun K hK => ?_
 simp only [go_sem, qb, qa, qd]
 apply hK
 refine zI rfl (fun hc4 => ?_) (fun hc4 => ?_)
 · rw [if_pos hc4] at h
   have t5 := eq_true hc4
   refine rg tok [4] fun K hK => ?_
   simp only [go_sem, qb, qa, t5]
   apply hK
   refine zj ?_
   obtain rfl := Option.some.inj h
   simp only [ZF, xd, xl, xY, exists_eq_left', go_sem, qd]
   refine ⟨by decide, by simp, ?_, ?_⟩
   · first | rfl | (simp only [go_sem, qb, qe, qa, qd, qw, qL, reduceIte, reduceCtorEq, push_cast, if_true, qJ, qt, qM, qy, qR, qW, ub, q2, ud, qX, qI, yj] <;> rfl)
   first | rfl | (simp only [go_sem, push_cast, qy] <;> rfl)
 rw [if_neg hc4] at h
 have t6 := eq_false hc4
 refine zh ?_
 apply hZ1
 refine rg tok [3, 5] fun K hK => ?_
 simp only [go_sem, qb, qa, t6]
 apply hK
 refine zd fun Z7 hZ7 => ?_
 refine rg tok [3, 5, 24, 25, 26] fun K hK => ?_
 simp only [go_sem, qb, qa, qd]
 apply hK
 refine zk ?_
 refine yW 24 fun hb12 => ?_
 replace hb12 : qc a1.fValues ≤ 9223372036854775807 := hb12.1
 refine zF (fun m L τ => ∃ (p12 q12 : List GNamed) (x9 : Int) (x8 : Bool), m = qc q12 ∧ L = ([(3, .op 1 0 0), (5, .bool x8), (24, .ds true (qg encGNamed a1.fValues) (qc a1.fValues) false), (25, .int .i64 (qc a1.fValues : Int)), (26, .int .i64 x9)] : List (Nat × AV)) ∧ τ = ([.map (xV AV.str AV.bool r2.2), .cells 0 (encGEnumeration a1)] : Store) ∧ a1.fValues = p12 ++ q12 ∧ x9 = (qc p12 : Int) ∧ yf.l12 a1 r2 q12 x9 x8 = some r) _ ⟨[], a1.fValues, 0, false, rfl, rfl, rfl, rfl, rfl, h⟩ .s ?_
 rintro m L τ ⟨p12, q12, x9, x8, rfl, rfl, rfl, hE12, hi12, h⟩
 rcases q12 with _ | ⟨y12, q12⟩
 · have hz12 := yz hE12 hi12
   simp only [yf.l12] at h
   refine rg tok [3, 5, 24, 25, 26, 27] fun K hK => ?_
   simp only [go_sem, qb, qa, hz12]
   apply hK
   refine zd fun Z13 hZ13 => ?_
   refine zz rfl ?_
   refine zM ?_
   apply hZ7
   refine zd fun Z14 hZ14 => ?_
   refine rg tok [3, 38] fun K hK => ?_
   simp only [go_sem, qb, qa]
   apply hK
   refine zv (b := (!x8)) rfl (fun hc15 => ?_) (fun hc15 => ?_)
   · rw [if_pos hc15] at h
     refine rg tok [4] fun K hK => ?_
     simp only [go_sem, qb, qa]
     apply hK
     refine zj ?_
     obtain rfl := Option.some.inj h
     simp only [ZF, xd, xl, xY, exists_eq_left', go_sem, qd]
     refine ⟨by decide, by simp, ?_, ?_⟩
     · first | rfl | (simp only [go_sem, qb, qe, qa, qd, qw, qL, reduceIte, reduceCtorEq, push_cast, if_true, qJ, qt, qM, qy, qR, qW, ub, q2, ud, qX, qI, yj] <;> rfl)
     first | rfl | (simp only [go_sem, push_cast, qy] <;> rfl)
   rw [xD hc15] at h
   refine zh ?_
   apply hZ14
   refine rg tok [3, 8, 9] fun K hK => ?_
   simp only [go_sem, qb, qa, qd]
   apply hK
   refine yc (L := [(3, .op 1 0 0), (8, .mp 2), (9, .mp 3)]) (τ := [.map (xV AV.str AV.bool r2.2), .cells 0 (encGEnumeration a1), .map (xV AV.str AV.bool []), .map (xV (AV.int .i64) AV.bool [])]) .s ?_
   refine zd fun Z16 hZ16 => ?_
   refine rg tok [8, 9, 42, 43, 44] fun K hK => ?_
   simp only [go_sem, qb, qa, qd]
   apply hK
   refine zk ?_
   refine yW 42 fun hb23 => ?_
   replace hb23 : qc a1.fValues ≤ 9223372036854775807 := hb23.1
   refine zF (fun m L τ => ∃ (p23 q23 : List GNamed) (x19 : Int) (l17 : List (List UInt8 × Bool)) (l18 : List (Int × Bool)), m = qc q23 ∧ L = ([(8, .mp 1), (9, .mp 2), (42, .ds true (qg encGNamed a1.fValues) (qc a1.fValues) false), (43, .int .i64 (qc a1.fValues : Int)), (44, .int .i64 x19)] : List (Nat × AV)) ∧ τ = ([.map (xV AV.str AV.bool r2.2), .map (xV AV.str AV.bool l17), .map (xV (AV.int .i64) AV.bool l18)] : Store) ∧ a1.fValues = p23 ++ q23 ∧ x19 = (qc p23 : Int) ∧ yf.l23 r2 q23 x19 l17 l18 = some r) _ ⟨[], a1.fValues, 0, [], [], rfl, rfl, rfl, rfl, rfl, h⟩ (.t [0, 2, 3] false) ?_
   rintro m L τ ⟨p23, q23, x19, l17, l18, rfl, rfl, rfl, hE23, hi23, h⟩
   rcases q23 with _ | ⟨y23, q23⟩
   · have hz23 := yz hE23 hi23
     simp only [yf.l23] at h
     refine rg tok [8, 9, 42, 43, 44, 45] fun K hK => ?_
     simp only [go_sem, qb, qa, hz23]
     apply hK
     refine zd fun Z24 hZ24 => ?_
     refine zz rfl ?_
     refine zM ?_
     apply hZ16
     refine rg tok [4] fun K hK => ?_
     simp only [go_sem, qb, qa]
     apply hK
     refine zj ?_
     obtain rfl := Option.some.inj h
     simp only [ZF, xd, xl, xY, exists_eq_left', go_sem, qd]
     refine ⟨by decide, by simp, ?_, ?_⟩
     · first | rfl | (simp only [go_sem, qb, qe, qa, qd, qw, qL, reduceIte, reduceCtorEq, push_cast, if_true, qJ, qt, qM, qy, qR, qW, ub, q2, ud, qX, qI, yj] <;> rfl)
     first | rfl | (simp only [go_sem, push_cast, qy] <;> rfl)
   obtain ⟨hz23, hw23, hx23, hE'23, hi'23⟩ := yg hE23 hi23 hb23
   simp only [yf.l23] at h
   refine rg tok [8, 9, 42, 43, 44, 45] fun K hK => ?_
   simp only [go_sem, qb, qa, hz23]
   apply hK
   refine zd fun Z25 hZ25 => ?_
   refine zB rfl ?_
   refine zh ?_
   apply hZ25
   refine zd fun Z26 hZ26 => ?_
   refine zk ?_
   have f27 := E88.idxS hx23
   have f28 := E88.loadS rfl rfl hx23
   refine rg tok [8, 9, 11, 42, 43, 44] fun K hK => ?_
   simp only [go_sem, qb, qe, qa, qd, encGNamed, f27, f28]
   apply hK
   refine zd fun Z29 hZ29 => ?_
   refine zk ?_
   refine rc [8, 9, 11, 42, 43, 44, 48] fun K hK => ?_
   obtain ⟨r30, hr30, h⟩ := bind_some h
   refine zb tok 3 ?_
   simp only [go_sem, qb, qa, qd]
   refine zi rfl rfl rfl (@id (ACalls qh 54 [.mp 1, .str y23.fName] [.map (xV AV.str AV.bool r2.2), .map (xV AV.str AV.bool l17), .map (xV (AV.int .i64) AV.bool l18), .cells 0 [.str y23.fName, .int .i64 y23.fN]] (fun r' σ' => r' = .bool r30.1 ∧ σ' = [.map (xV AV.str AV.bool r2.2), .map (xV AV.str AV.bool r30.2), .map (xV (AV.int .i64) AV.bool l18), .cells 0 [.str y23.fName, .int .i64 y23.fN]])) ((z7.ok l17 y23.fName r30 hr30).i [1])) ?_
   rintro _ _ ⟨rfl, rfl⟩
   refine zb tok 2 ?_
   simp only [go_sem, qb, qa]
   refine za ?_
   simp only [ze, upd, qa, reduceIte, zl, zq]
   apply hK
   refine zv (b := (!r30.1)) rfl (fun hc31 => ?_) (fun hc31 => ?_)
   · rw [if_pos hc31] at h
     refine rg tok [4] fun K hK => ?_
     simp only [go_sem, qb, qa]
     apply hK
     refine zj ?_
     obtain rfl := Option.some.inj h
     simp only [ZF, xd, xl, xY, exists_eq_left', go_sem, qd]
     refine ⟨by decide, by simp, ?_, ?_⟩
     · first | rfl | (simp only [go_sem, qb, qe, qa, qd, qw, qL, reduceIte, reduceCtorEq, push_cast, if_true, qJ, qt, qM, qy, qR, qW, ub, q2, ud, qX, qI, yj] <;> rfl)
     first | rfl | (simp only [go_sem, push_cast, qy] <;> rfl)
   rw [xD hc31] at h
   refine rc [8, 9, 11, 42, 43, 44, 54] fun K hK => ?_
   refine zb tok 4 ?_
   simp only [go_sem, qb, qa, qd]
   refine zo 4 (fun L τ => L = ([(8, .mp 1), (9, .mp 2), (11, .op 3 0 0), (42, .ds true (qg encGNamed a1.fValues) (qc a1.fValues) false), (43, .int .i64 (qc a1.fValues : Int)), (44, .int .i64 x19), (62, .bool ((decide (y23.fN < 0)) || (decide (2147483647 < y23.fN))))] : List (Nat × AV)) ∧ τ = ([.map (xV AV.str AV.bool r2.2), .map (xV AV.str AV.bool r30.2), .map (xV (AV.int .i64) AV.bool l18), .cells 0 [.str y23.fName, .int .i64 y23.fN]] : Store)) ?_ ?_
   · refine yN 58 rfl (fun hg58 => ?_) (fun hg58 => ?_)
     · have t32 := eq_true hg58
       refine zb tok 4 ?_
       simp only [go_sem, qb, qa]
       refine za ⟨rfl, _, _, ⟨rfl, rfl⟩, .p t32⟩
     have t33 := eq_false hg58
     refine zb tok 4 ?_
     simp only [go_sem, qb, qa, qd]
     refine za ⟨rfl, _, _, ⟨rfl, rfl⟩, .p t33⟩
   rintro _ _ ⟨rfl, rfl⟩
   refine zb tok 1 ?_
   simp only [go_sem, qb, qa]
   refine zo 5 (fun L τ => L = ([(8, .mp 1), (9, .mp 2), (11, .op 3 0 0), (42, .ds true (qg encGNamed a1.fValues) (qc a1.fValues) false), (43, .int .i64 (qc a1.fValues : Int)), (44, .int .i64 x19), (68, .bool (((decide (y23.fN < 0)) || (decide (2147483647 < y23.fN))) || ((X0 l18 y23.fN).getD false)))] : List (Nat × AV)) ∧ τ = ([.map (xV AV.str AV.bool r2.2), .map (xV AV.str AV.bool r30.2), .map (xV (AV.int .i64) AV.bool l18), .cells 0 [.str y23.fName, .int .i64 y23.fN]] : Store)) ?_ ?_
   · refine zQ (b := ((decide (y23.fN < 0)) || (decide (2147483647 < y23.fN)))) 63 rfl (fun hg63 => ?_) (fun hg63 => ?_)
     · refine zb tok 5 ?_
       simp only [go_sem, qb, qa, if_false, if_true]
       refine za ⟨rfl, _, _, ⟨rfl, rfl⟩, .b hg63⟩
     have f34 := fun (o0 : Zq) (o1 : Zq) (x : Store) => vax (T := tab) (t := 134) (ek := (AV.int .i64)) (ev := AV.bool) (z := false) (KeyE.int rfl rfl rfl rfl) rfl rfl rfl rfl l18 y23.fN false (o0 :: o1 :: .map (xV (AV.int .i64) AV.bool l18) :: x) 2 rfl
     refine zb tok 5 ?_
     simp only [go_sem, qb, qa, qd, Xb, qT, if_false, if_true, f34]
     refine za ⟨rfl, _, _, ⟨rfl, rfl⟩, .b hg63⟩
   rintro _ _ ⟨rfl, rfl⟩
   refine zb tok 1 ?_
   simp only [go_sem, qb, qa]
   refine za ?_
   simp only [ze, upd, qa, reduceIte, zl, zq]
   apply hK
   refine zv (b := (((decide (y23.fN < 0)) || (decide (2147483647 < y23.fN))) || ((X0 l18 y23.fN).getD false))) rfl (fun hc35 => ?_) (fun hc35 => ?_)
   · rw [if_pos hc35] at h
     refine rg tok [4] fun K hK => ?_
     simp only [go_sem, qb, qa]
     apply hK
     refine zj ?_
     obtain rfl := Option.some.inj h
     simp only [ZF, xd, xl, xY, exists_eq_left', go_sem, qd]
     refine ⟨by decide, by simp, ?_, ?_⟩
     · first | rfl | (simp only [go_sem, qb, qe, qa, qd, qw, qL, reduceIte, reduceCtorEq, push_cast, if_true, qJ, qt, qM, qy, qR, qW, ub, q2, ud, qX, qI, yj] <;> rfl)
     first | rfl | (simp only [go_sem, push_cast, qy] <;> rfl)
   rw [xD hc35] at h
   refine zh ?_
   apply hZ29
   have f36 := fun (o0 : Zq) (o1 : Zq) (x : Store) => var (T := tab) (t := 134) (ek := (AV.int .i64)) (ev := AV.bool) (KeyE.int rfl rfl rfl rfl) rfl rfl l18 y23.fN true (o0 :: o1 :: .map (xV (AV.int .i64) AV.bool l18) :: x) 2 rfl
   refine rgE tok [8, 9, 42, 43, 44] fun K hK => ?_
   simp only [go_sem, qb, qa, qd, f36]
   apply hK
   apply hZ26
   refine rgE tok [8, 9, 42, 43, 44] fun K hK => ?_
   simp only [go_sem, qb, qa, hw23]
   apply hK
   exact ⟨_, _, _, qu q23.length, ⟨p23 ++ [y23], q23, x19 + 1, r30.2, vaa l18 y23.fN true, rfl, rfl, rfl, hE'23, hi'23, h⟩, (.t [0, 1, 2] false)⟩
 obtain ⟨hz12, hw12, hx12, hE'12, hi'12⟩ := yg hE12 hi12 hb12
 simp only [yf.l12] at h
 refine rg tok [3, 5, 24, 25, 26, 27] fun K hK => ?_
 simp only [go_sem, qb, qa, hz12]
 apply hK
 refine zd fun Z37 hZ37 => ?_
 refine zB rfl ?_
 refine zh ?_
 apply hZ37
 refine zd fun Z38 hZ38 => ?_
 refine zk ?_
 have f39 := E88.idxS hx12
 have f40 := E88.loadS rfl rfl hx12
 refine rg tok [3, 5, 7, 24, 25, 26] fun K hK => ?_
 simp only [go_sem, qb, qe, qa, qd, encGNamed, f39, f40]
 apply hK
 refine rcE [3, 5, 24, 25, 26] fun K hK => ?_
 refine zb tok 2 ?_
 simp only [go_sem, qb, qa]
 refine zo 4 (fun L τ => L = ([(3, .op 1 0 0), (5, .bool x8), (24, .ds true (qg encGNamed a1.fValues) (qc a1.fValues) false), (25, .int .i64 (qc a1.fValues : Int)), (26, .int .i64 x9), (35, .bool (x8 || (decide (y12.fN = 0))))] : List (Nat × AV)) ∧ τ = ([.map (xV AV.str AV.bool r2.2), .cells 0 (encGEnumeration a1), .cells 0 [.str y12.fName, .int .i64 y12.fN]] : Store)) ?_ ?_
 · refine zQ (b := x8) 31 rfl (fun hg31 => ?_) (fun hg31 => ?_)
   · refine zb tok 4 ?_
     simp only [go_sem, qb, qa]
     refine za ⟨rfl, _, _, ⟨rfl, rfl⟩, .b hg31⟩
   refine zb tok 4 ?_
   simp only [go_sem, qb, qa, qd]
   refine za ⟨rfl, _, _, ⟨rfl, rfl⟩, .b hg31⟩
 rintro _ _ ⟨rfl, rfl⟩
 refine zb tok 1 ?_
 simp only [go_sem, qb, qa]
 refine za ?_
 simp only [ze, upd, qa, reduceIte, zl, zq]
 apply hK
 apply hZ38
 refine rgE tok [3, 5, 24, 25, 26] fun K hK => ?_
 simp only [go_sem, qb, qa, hw12]
 apply hK
 exact ⟨_, _, _, qu q12.length, ⟨p12 ++ [y12], q12, x9 + 1, (x8 || (decide (y12.fN = 0))), rfl, rfl, rfl, hE'12, hi'12, h⟩, (.t [0, 1] false)⟩
def zx.l29 (a0 : GSchema) : List GMethod → Int → List (List UInt8 × Bool) → Option Int
 | [], x26, l25 => some 0
 | y29 :: q29, x26, l25 => bnd (zP a0 y29.fIn) fun r35 => bnd (zP a0 y29.fOut) fun r36 => (z7 l25 y29.fName).bind fun r37 => (if (!r37.1) = true then some 6 else (if ((!r35.2) || (!r36.2)) = true then some 8 else ((zx.l29 a0 q29) (x26 + 1) r37.2)))
def zx.l22 (a0 : GSchema) : List GEnumeration → Int → List (List UInt8 × Bool) → Option Int
 | [], x19, l18 => (zx.l29 a0 a0.fMethods 0 [])
 | y22 :: q22, x19, l18 => (yf l18 y22).bind fun r44 => (if r44.1 = 0 then ((zx.l22 a0 q22) (x19 + 1) r44.2) else some r44.1)
def zx.l15 (a0 : GSchema) : List GMessage → Int → List (List UInt8 × Bool) → Option Int
 | [], x12, l11 => (zx.l22 a0 a0.fEnums 0 l11)
 | y15 :: q15, x12, l11 => (zO a0 l11 y15).bind fun r52 => (if r52.1 = 0 then ((zx.l15 a0 q15) (x12 + 1) r52.2) else some r52.1)
def zx (a0 : GSchema) : Option Int :=
 (yo a0.fName).bind fun r2 => (if (!r2) = true then some 6 else (if (qc a0.fMessages : Int) = 0 then some 12 else (if (((decide (10 < (qc a0.fMessages : Int))) || (decide (6 < (qc a0.fEnums : Int)))) || (decide (6 < (qc a0.fMethods : Int)))) = true then some 4 else (zx.l15 a0 a0.fMessages 0 []))))
theorem zx.ok (a0 : GSchema) (r : Int) (h : zx a0 = some r) : ACalls qh 33 [.agg (encGSchema a0)] [] (fun r' _ => r' = .int .i64 r) := by
 refine zn (rs := [.tmp 2]) tok Tryd.func33 rfl Tryd.ntmps33 rfl Tryd.call33 (by simp) ?_
 refine zt [(0, .agg (encGSchema a0))] ⟨rfl, trivial⟩ ?_
 unfold zx at h
 refine rg tok [1] fun K hK => ?_
 simp only [go_sem, qb, qa, qd, reduceCtorEq, encGSchema]
 apply hK
 refine zd fun Z1 hZ1 => ?_
 refine zk ?_
 refine rc [1, 17] fun K hK => ?_
 obtain ⟨r2, hr2, h⟩ := bind_some h
 refine zb tok 2 ?_
 simp only [go_sem, qb, qa, qd]
 refine zi rfl rfl rfl (yo.ev a0.fName r2 hr2 _) ?_
 rintro _ _ ⟨rfl, rfl⟩
 refine zb tok 2 ?_
 simp only [go_sem, qb, qa]
 refine za ?_
 simp only [ze, upd, qa, reduceIte, zl, zq]
 apply hK
 refine zv (b := (!r2)) rfl (fun hc3 => ?_) (fun hc3 => ?_)
 · rw [if_pos hc3] at h
   refine rg tok [2] fun K hK => ?_
   simp only [go_sem, qb, qa]
   apply hK
   refine zj ?_
   obtain rfl := Option.some.inj h
   exact yr
 rw [xD hc3] at h
 refine rg tok [1, 22] fun K hK => ?_
 simp only [go_sem, qb, qa, qd]
 apply hK
 refine zI rfl (fun hc4 => ?_) (fun hc4 => ?_)
 · rw [if_pos hc4] at h
   have t5 := eq_true hc4
   refine rg tok [2] fun K hK => ?_
   simp only [go_sem, qb, qa, t5]
   apply hK
   refine zj ?_
   obtain rfl := Option.some.inj h
   exact yr
 rw [if_neg hc4] at h
 have t6 := eq_false hc4
 refine rc [1, 27] fun K hK => ?_
 refine zb tok 5 ?_
 simp only [go_sem, qb, qa, qd, t6]
 refine zo 5 (fun L τ => L = ([(1, .op 0 0 0), (37, .bool ((decide (10 < (qc a0.fMessages : Int))) || (decide (6 < (qc a0.fEnums : Int)))))] : List (Nat × AV)) ∧ τ = ([.cells 0 (encGSchema a0)] : Store)) ?_ ?_
 · refine yN 32 rfl (fun hg32 => ?_) (fun hg32 => ?_)
   · have t7 := eq_true hg32
     refine zb tok 5 ?_
     simp only [go_sem, qb, qa]
     refine za ⟨rfl, _, _, ⟨rfl, rfl⟩, .p t7⟩
   have t8 := eq_false hg32
   refine zb tok 5 ?_
   simp only [go_sem, qb, qa, qd]
   refine za ⟨rfl, _, _, ⟨rfl, rfl⟩, .p t8⟩
 rintro _ _ ⟨rfl, rfl⟩
 refine zb tok 1 ?_
 simp only [go_sem, qb, qa]
 refine zo 5 (fun L τ => L = ([(1, .op 0 0 0), (43, .bool (((decide (10 < (qc a0.fMessages : Int))) || (decide (6 < (qc a0.fEnums : Int)))) || (decide (6 < (qc a0.fMethods : Int)))))] : List (Nat × AV)) ∧ τ = ([.cells 0 (encGSchema a0)] : Store)) ?_ ?_
 · refine zQ (b := ((decide (10 < (qc a0.fMessages : Int))) || (decide (6 < (qc a0.fEnums : Int))))) 38 rfl (fun hg38 => ?_) (fun hg38 => ?_)
   · refine zb tok 5 ?_
     simp only [go_sem, qb, qa]
     refine za ⟨rfl, _, _, ⟨rfl, rfl⟩, .b hg38⟩
   refine zb tok 5 ?_
   simp only [go_sem, qb, qa, qd]
   refine za ⟨rfl, _, _, ⟨rfl, rfl⟩, .b hg38⟩
 rintro _ _ ⟨rfl, rfl⟩
 refine zb tok 1 ?_
 simp only [go_sem, qb, qa]
 refine za ?_
 simp only [ze, upd, qa, reduceIte, zl, zq]
 apply hK
 refine zv (b := (((decide (10 < (qc a0.fMessages : Int))) || (decide (6 < (qc a0.fEnums : Int)))) || (decide (6 < (qc a0.fMethods : Int))))) rfl (fun hc9 => ?_) (fun hc9 => ?_)
 · rw [if_pos hc9] at h
   refine rg tok [2] fun K hK => ?_
   simp only [go_sem, qb, qa]
   apply hK
   refine zj ?_
   obtain rfl := Option.some.inj h
   exact yr
 rw [xD hc9] at h
 refine zh ?_
 apply hZ1
 refine rg tok [1, 3] fun K hK => ?_
 simp only [go_sem, qb, qa]
 apply hK
 refine yc (L := [(1, .op 0 0 0), (3, .mp 1)]) (τ := [.cells 0 (encGSchema a0), .map (xV AV.str AV.bool [])]) .s ?_
 refine zd fun Z10 hZ10 => ?_
 refine rg tok [1, 3, 46, 47, 48] fun K hK => ?_
 simp only [go_sem, qb, qa, qd]
 apply hK
 refine zk ?_
 refine yW 46 fun hb15 => ?_
 replace hb15 : qc a0.fMessages ≤ 9223372036854775807 := hb15.1
 refine zF (fun m L τ => ∃ (p15 q15 : List GMessage) (x12 : Int) (l11 : List (List UInt8 × Bool)), m = qc q15 ∧ L = ([(1, .op 0 0 0), (3, .mp 1), (46, .ds true (qg encGMessage a0.fMessages) (qc a0.fMessages) false), (47, .int .i64 (qc a0.fMessages : Int)), (48, .int .i64 x12)] : List (Nat × AV)) ∧ τ = ([.cells 0 (encGSchema a0), .map (xV AV.str AV.bool l11)] : Store) ∧ a0.fMessages = p15 ++ q15 ∧ x12 = (qc p15 : Int) ∧ zx.l15 a0 q15 x12 l11 = some r) _ ⟨[], a0.fMessages, 0, [], rfl, rfl, rfl, rfl, rfl, h⟩ .s ?_
 rintro m L τ ⟨p15, q15, x12, l11, rfl, rfl, rfl, hE15, hi15, h⟩
 rcases q15 with _ | ⟨y15, q15⟩
 · have hz15 := yz hE15 hi15
   simp only [zx.l15] at h
   refine rg tok [1, 3, 46, 47, 48, 49] fun K hK => ?_
   simp only [go_sem, qb, qa, hz15]
   apply hK
   refine zd fun Z16 hZ16 => ?_
   refine zz rfl ?_
   refine zM ?_
   apply hZ10
   refine zd fun Z17 hZ17 => ?_
   refine rg tok [1, 3, 61, 62, 63] fun K hK => ?_
   simp only [go_sem, qb, qa, qd]
   apply hK
   refine zk ?_
   refine yW 61 fun hb22 => ?_
   replace hb22 : qc a0.fEnums ≤ 9223372036854775807 := hb22.1
   refine zF (fun m L τ => ∃ (p22 q22 : List GEnumeration) (x19 : Int) (l18 : List (List UInt8 × Bool)), m = qc q22 ∧ L = ([(1, .op 0 0 0), (3, .mp 1), (61, .ds true (qg encGEnumeration a0.fEnums) (qc a0.fEnums) false), (62, .int .i64 (qc a0.fEnums : Int)), (63, .int .i64 x19)] : List (Nat × AV)) ∧ τ = ([.cells 0 (encGSchema a0), .map (xV AV.str AV.bool l18)] : Store) ∧ a0.fEnums = p22 ++ q22 ∧ x19 = (qc p22 : Int) ∧ zx.l22 a0 q22 x19 l18 = some r) _ ⟨[], a0.fEnums, 0, l11, rfl, rfl, rfl, rfl, rfl, h⟩ .s ?_
   rintro m L τ ⟨p22, q22, x19, l18, rfl, rfl, rfl, hE22, hi22, h⟩
   rcases q22 with _ | ⟨y22, q22⟩
   · have hz22 := yz hE22 hi22
     simp only [zx.l22] at h
     refine rg tok [1, 3, 61, 62, 63, 64] fun K hK => ?_
     simp only [go_sem, qb, qa, hz22]
     apply hK
     refine zd fun Z23 hZ23 => ?_
     refine zz rfl ?_
     refine zM ?_
     apply hZ17
     refine rg tok [1, 10] fun K hK => ?_
     simp only [go_sem, qb, qa, qd]
     apply hK
     refine yc (L := [(1, .op 0 0 0), (10, .mp 2)]) (τ := [.cells 0 (encGSchema a0), .map (xV AV.str AV.bool l18), .map (xV AV.str AV.bool [])]) .s ?_
     refine zd fun Z24 hZ24 => ?_
     refine rg tok [1, 10, 76, 77, 78] fun K hK => ?_
     simp only [go_sem, qb, qa, qd]
     apply hK
     refine zk ?_
     refine yW 76 fun hb29 => ?_
     replace hb29 : qc a0.fMethods ≤ 9223372036854775807 := hb29.1
     refine zF (fun m L τ => ∃ (p29 q29 : List GMethod) (x26 : Int) (l25 : List (List UInt8 × Bool)), m = qc q29 ∧ L = ([(1, .op 0 0 0), (10, .mp 1), (76, .ds true (qg encGMethod a0.fMethods) (qc a0.fMethods) false), (77, .int .i64 (qc a0.fMethods : Int)), (78, .int .i64 x26)] : List (Nat × AV)) ∧ τ = ([.cells 0 (encGSchema a0), .map (xV AV.str AV.bool l25)] : Store) ∧ a0.fMethods = p29 ++ q29 ∧ x26 = (qc p29 : Int) ∧ zx.l29 a0 q29 x26 l25 = some r) _ ⟨[], a0.fMethods, 0, [], rfl, rfl, rfl, rfl, rfl, h⟩ (.t [0, 2] false) ?_
     rintro m L τ ⟨p29, q29, x26, l25, rfl, rfl, rfl, hE29, hi29, h⟩
     rcases q29 with _ | ⟨y29, q29⟩
     · have hz29 := yz hE29 hi29
       simp only [zx.l29] at h
       refine rg tok [1, 10, 76, 77, 78, 79] fun K hK => ?_
       simp only [go_sem, qb, qa, hz29]
       apply hK
       refine zd fun Z30 hZ30 => ?_
       refine zz rfl ?_
       refine zM ?_
       apply hZ24
       refine rg tok [2] fun K hK => ?_
       simp only [go_sem, qb, qa]
       apply hK
       refine zj ?_
       obtain rfl := Option.some.inj h
       exact yr
     obtain ⟨hz29, hw29, hx29, hE'29, hi'29⟩ := yg hE29 hi29 hb29
     simp only [zx.l29] at h
     refine rg tok [1, 10, 76, 77, 78, 79] fun K hK => ?_
     simp only [go_sem, qb, qa, hz29]
     apply hK
     refine zd fun Z31 hZ31 => ?_
     refine zB rfl ?_
     refine zh ?_
     apply hZ31
     refine zd fun Z32 hZ32 => ?_
     refine zk ?_
     have f33 := E29.idxS hx29
     have f34 := E29.loadS rfl rfl hx29
     refine rg tok [1, 10, 12, 76, 77, 78] fun K hK => ?_
     simp only [go_sem, qb, qe, qa, qd, encGMethod, f33, f34]
     apply hK
     refine rc [1, 10, 12, 14, 76, 77, 78] fun K hK => ?_
     obtain ⟨r35, hr35, h⟩ := zS h
     refine zb tok 3 ?_
     simp only [go_sem, qb, qe, qa, qd]
     refine zi rfl rfl rfl (zP.ev a0 y29.fIn r35 hr35 _) ?_
     rintro _ _ ⟨rfl, rfl⟩
     refine zb tok 6 ?_
     simp only [go_sem, qb, qe, qa, qd, encGMessage]
     refine za ?_
     simp only [ze, upd, qa, reduceIte, zl, zq]
     apply hK
     refine rc [1, 10, 12, 14, 16, 76, 77, 78] fun K hK => ?_
     obtain ⟨r36, hr36, h⟩ := zS h
     refine zb tok 3 ?_
     simp only [go_sem, qb, qe, qa, qd]
     refine zi rfl rfl rfl (zP.ev a0 y29.fOut r36 hr36 _) ?_
     rintro _ _ ⟨rfl, rfl⟩
     refine zb tok 6 ?_
     simp only [go_sem, qb, qe, qa, qd, encGMessage]
     refine za ?_
     simp only [ze, upd, qa, reduceIte, zl, zq]
     apply hK
     refine zk ?_
     refine rc [1, 10, 14, 16, 76, 77, 78, 96] fun K hK => ?_
     obtain ⟨r37, hr37, h⟩ := bind_some h
     refine zb tok 3 ?_
     simp only [go_sem, qb, qa, qd]
     refine zi rfl rfl rfl (@id (ACalls qh 54 [.mp 1, .str y29.fName] [.cells 0 (encGSchema a0), .map (xV AV.str AV.bool l25), .cells 0 [.str y29.fName, .str y29.fIn, .str y29.fOut], .cells 0 (encGMessage r35.1), .cells 0 (encGMessage r36.1)] (fun r' σ' => r' = .bool r37.1 ∧ σ' = [.cells 0 (encGSchema a0), .map (xV AV.str AV.bool r37.2), .cells 0 [.str y29.fName, .str y29.fIn, .str y29.fOut], .cells 0 (encGMessage r35.1), .cells 0 (encGMessage r36.1)])) ((z7.ok l25 y29.fName r37 hr37).i [1])) ?_
     rintro _ _ ⟨rfl, rfl⟩
     refine zb tok 2 ?_
     simp only [go_sem, qb, qa]
     refine za ?_
     simp only [ze, upd, qa, reduceIte, zl, zq]
     apply hK
     refine zv (b := (!r37.1)) rfl (fun hc38 => ?_) (fun hc38 => ?_)
     · rw [if_pos hc38] at h
       refine rg tok [2] fun K hK => ?_
       simp only [go_sem, qb, qa]
       apply hK
       refine zj ?_
       obtain rfl := Option.some.inj h
       exact yr
     rw [xD hc38] at h
     refine rc [1, 10, 76, 77, 78, 102] fun K hK => ?_
     refine zb tok 3 ?_
     simp only [go_sem, qb, qa]
     refine zo 3 (fun L τ => L = ([(1, .op 0 0 0), (10, .mp 1), (76, .ds true (qg encGMethod a0.fMethods) (qc a0.fMethods) false), (77, .int .i64 (qc a0.fMethods : Int)), (78, .int .i64 x26), (108, .bool ((!r35.2) || (!r36.2)))] : List (Nat × AV)) ∧ τ = ([.cells 0 (encGSchema a0), .map (xV AV.str AV.bool r37.2), .cells 0 [.str y29.fName, .str y29.fIn, .str y29.fOut], .cells 0 (encGMessage r35.1), .cells 0 (encGMessage r36.1)] : Store)) ?_ ?_
     · refine zQ (b := (!r35.2)) 105 rfl (fun hg105 => ?_) (fun hg105 => ?_)
       · refine zb tok 3 ?_
         simp only [go_sem, qb, qa]
         refine za ⟨rfl, _, _, ⟨rfl, rfl⟩, .b hg105⟩
       refine zb tok 3 ?_
       simp only [go_sem, qb, qa]
       refine za ⟨rfl, _, _, ⟨rfl, rfl⟩, .b hg105⟩
     rintro _ _ ⟨rfl, rfl⟩
     refine zb tok 1 ?_
     simp only [go_sem, qb, qa]
     refine za ?_
     simp only [ze, upd, qa, reduceIte, zl, zq]
     apply hK
     refine zv (b := ((!r35.2) || (!r36.2))) rfl (fun hc39 => ?_) (fun hc39 => ?_)
     · rw [if_pos hc39] at h
       refine rg tok [2] fun K hK => ?_
       simp only [go_sem, qb, qa]
       apply hK
       refine zj ?_
       obtain rfl := Option.some.inj h
       exact yr
     rw [xD hc39] at h
     refine zh ?_
     apply hZ32
     refine rgE tok [1, 10, 76, 77, 78] fun K hK => ?_
     simp only [go_sem, qb, qa, hw29]
     apply hK
     exact ⟨_, _, _, qu q29.length, ⟨p29 ++ [y29], q29, x26 + 1, r37.2, rfl, rfl, rfl, hE'29, hi'29, h⟩, (.t [0, 1] false)⟩
   obtain ⟨hz22, hw22, hx22, hE'22, hi'22⟩ := yg hE22 hi22 hb22
   simp only [zx.l22] at h
   refine rg tok [1, 3, 61, 62, 63, 64] fun K hK => ?_
   simp only [go_sem, qb, qa, hz22]
   apply hK
   refine zd fun Z40 hZ40 => ?_
   refine zB rfl ?_
   refine zh ?_
   apply hZ40
   refine zd fun Z41 hZ41 => ?_
   refine zk ?_
   have f42 := E28.idxS hx22
   have f43 := E28.loadS rfl rfl hx22
   refine rg tok [1, 3, 8, 61, 62, 63] fun K hK => ?_
   simp only [go_sem, qb, qe, qa, qd, encGEnumeration, f42, f43]
   apply hK
   refine rc [1, 3, 9, 61, 62, 63] fun K hK => ?_
   obtain ⟨r44, hr44, h⟩ := bind_some h
   refine zb tok 2 ?_
   simp only [go_sem, qb, qe, qa, qd]
   refine zi rfl rfl rfl (@id (ACalls qh 53 [.mp 1, .agg (encGEnumeration y22)] [.cells 0 (encGSchema a0), .map (xV AV.str AV.bool l18), .cells 0 (encGEnumeration y22)] (fun r' σ' => r' = .int .i64 r44.1 ∧ σ' = [.cells 0 (encGSchema a0), .map (xV AV.str AV.bool r44.2), .cells 0 (encGEnumeration y22)])) ((yf.ok l18 y22 r44 hr44).i [1])) ?_
   rintro _ _ ⟨rfl, rfl⟩
   refine zb tok 1 ?_
   simp only [go_sem, qb, qa]
   refine za ?_
   simp only [ze, upd, qa, reduceIte, zl, zq]
   apply hK
   refine rg tok [1, 3, 9, 61, 62, 63, 71] fun K hK => ?_
   simp only [go_sem, qb, qa]
   apply hK
   refine zI rfl (fun hc45 => ?_) (fun hc45 => ?_)
   · rw [if_neg hc45] at h
     have t46 := eq_false hc45
     refine rg tok [2] fun K hK => ?_
     simp only [go_sem, qb, qa, t46]
     apply hK
     refine zj ?_
     obtain rfl := Option.some.inj h
     exact yr
   rw [if_pos hc45] at h
   have t47 := eq_true hc45
   refine zh ?_
   apply hZ41
   refine rgE tok [1, 3, 61, 62, 63] fun K hK => ?_
   simp only [go_sem, qb, qa, hw22, t47]
   apply hK
   exact ⟨_, _, _, qu q22.length, ⟨p22 ++ [y22], q22, x19 + 1, r44.2, rfl, rfl, rfl, hE'22, hi'22, h⟩, (.t [0, 1] false)⟩
 obtain ⟨hz15, hw15, hx15, hE'15, hi'15⟩ := yg hE15 hi15 hb15
 simp only [zx.l15] at h
 refine rg tok [1, 3, 46, 47, 48, 49] fun K hK => ?_
 simp only [go_sem, qb, qa, hz15]
 apply hK
 refine zd fun Z48 hZ48 => ?_
 refine zB rfl ?_
 refine zh ?_
 apply hZ48
 refine zd fun Z49 hZ49 => ?_
 refine zk ?_
 have f50 := E27.idxS hx15
 have f51 := E27.loadS rfl rfl hx15
 refine rg tok [1, 3, 5, 46, 47, 48] fun K hK => ?_
 simp only [go_sem, qb, qe, qa, qd, encGMessage, f50, f51]
 apply hK
 refine rc [1, 3, 6, 46, 47, 48] fun K hK => ?_
 obtain ⟨r52, hr52, h⟩ := bind_some h
 refine zb tok 3 ?_
 simp only [go_sem, qb, qe, qa, qd]
 refine zi rfl rfl rfl (@id (ACalls qh 52 [.agg (encGSchema a0), .mp 1, .agg (encGMessage y15)] [.cells 0 (encGSchema a0), .map (xV AV.str AV.bool l11), .cells 0 (encGMessage y15)] (fun r' σ' => r' = .int .i64 r52.1 ∧ σ' = [.cells 0 (encGSchema a0), .map (xV AV.str AV.bool r52.2), .cells 0 (encGMessage y15)])) ((zO.ok a0 l11 y15 r52 hr52).i [1])) ?_
 rintro _ _ ⟨rfl, rfl⟩
 refine zb tok 1 ?_
 simp only [go_sem, qb, qa]
 refine za ?_
 simp only [ze, upd, qa, reduceIte, zl, zq]
 apply hK
 refine rg tok [1, 3, 6, 46, 47, 48, 57] fun K hK => ?_
 simp only [go_sem, qb, qa]
 apply hK
 refine zI rfl (fun hc53 => ?_) (fun hc53 => ?_)
 · rw [if_neg hc53] at h
   have t54 := eq_false hc53
   refine rg tok [2] fun K hK => ?_
   simp only [go_sem, qb, qa, t54]
   apply hK
   refine zj ?_
   obtain rfl := Option.some.inj h
   exact yr
 rw [if_pos hc53] at h
 have t55 := eq_true hc53
 refine zh ?_
 apply hZ49
 refine rgE tok [1, 3, 46, 47, 48] fun K hK => ?_
 simp only [go_sem, qb, qa, hw15, t55]
 apply hK
 exact ⟨_, _, _, qu q15.length, ⟨p15 ++ [y15], q15, x12 + 1, r52.2, rfl, rfl, rfl, hE'15, hi'15, h⟩, (.t [0, 1] false)⟩
theorem zx.ev (a0 : GSchema) (r : Int) (h : zx a0 = some r) (σ : Store) : ACalls qh 33 [.agg (encGSchema a0)] σ (fun r' σ' => r' = .int .i64 r ∧ σ' = σ) :=
 (zx.ok a0 r h).c σ
def yH (a0 : GSchema) (a1 : List UInt8) (a2 : List UInt8) : Option (GTree × Int) :=
 (zx a0).bind fun r2 => (if r2 = 0 then bnd (zP a0 a1) fun r6 => (if (!r6.2) = true then some ((⟨0, 0, [], ([] : List GEntry), ([] : List GRaw)⟩ : GTree), 14) else (zy rounds a0 r6.1 a2 1).bind fun r9 => some (r9.1, r9.2)) else some ((⟨0, 0, [], ([] : List GEntry), ([] : List GRaw)⟩ : GTree), 1))
theorem yH.ok (a0 : GSchema) (a1 : List UInt8) (a2 : List UInt8) (r : GTree × Int) (h : yH a0 a1 a2 = some r) : ACalls qh 13 [.agg (encGSchema a0), .str a1, .ds true (qg encB a2) (qc a2) false] [] (fun r' _ => r' = .tup [.agg (cellsGTree r.1), .int .i64 r.2]) := by
 refine zn (rs := [.cell 6 42, .tmp 7]) tok Tryd.func13 rfl Tryd.ntmps13 rfl Tryd.call13 (by simp) ?_
 refine zt [(0, .agg (encGSchema a0)), (1, .str a1), (2, .ds true (qg encB a2) (qc a2) false)] ⟨rfl, rfl, rfl, trivial⟩ ?_
 unfold yH at h
 refine rg tok [1, 2, 3, 6] fun K hK => ?_
 simp only [go_sem, qb, qa, qd, reduceCtorEq, encGSchema]
 apply hK
 refine zd fun Z1 hZ1 => ?_
 refine rc [1, 2, 3, 6, 12] fun K hK => ?_
 obtain ⟨r2, hr2, h⟩ := bind_some h
 refine zb tok 1 ?_
 simp only [go_sem, qb, qe, qa, qd]
 refine zi rfl rfl rfl (zx.ev a0 r2 hr2 _) ?_
 rintro _ _ ⟨rfl, rfl⟩
 refine zb tok 1 ?_
 simp only [go_sem, qb, qa]
 refine za ?_
 simp only [ze, upd, qa, reduceIte, zl, zq]
 apply hK
 refine zI rfl (fun hc3 => ?_) (fun hc3 => ?_)
 · rw [if_neg hc3] at h
   have t4 := eq_false hc3
   refine rg tok [6, 7] fun K hK => ?_
   simp only [go_sem, qb, qe, qa, qd, t4]
   apply hK
   refine zj ?_
   obtain rfl := Option.some.inj h
   exact yr
 rw [if_pos hc3] at h
 have t5 := eq_true hc3
 refine zh ?_
 apply hZ1
 refine rc [2, 3, 6, 8, 9] fun K hK => ?_
 obtain ⟨r6, hr6, h⟩ := zS h
 refine zb tok 2 ?_
 simp only [go_sem, qb, qe, qa, qd, t5]
 refine zi rfl rfl rfl (zP.ev a0 a1 r6 hr6 _) ?_
 rintro _ _ ⟨rfl, rfl⟩
 refine zb tok 6 ?_
 simp only [go_sem, qb, qe, qa, qd, encGMessage]
 refine za ?_
 simp only [ze, upd, qa, reduceIte, zl, zq]
 apply hK
 refine zd fun Z7 hZ7 => ?_
 refine rg tok [2, 3, 6, 8, 21] fun K hK => ?_
 simp only [go_sem, qb, qa]
 apply hK
 refine zv (b := (!r6.2)) rfl (fun hc8 => ?_) (fun hc8 => ?_)
 · rw [if_pos hc8] at h
   refine rg tok [6, 7] fun K hK => ?_
   simp only [go_sem, qb, qe, qa, qd]
   apply hK
   refine zj ?_
   obtain rfl := Option.some.inj h
   exact yr
 rw [xD hc8] at h
 refine zh ?_
 apply hZ7
 refine rc [6, 7] fun K hK => ?_
 obtain ⟨r9, hr9, h⟩ := bind_some h
 refine zb tok 3 ?_
 simp only [go_sem, qb, qe, qa, qd]
 refine zi rfl rfl rfl (zy.ev rounds a0 r6.1 a2 1 r9 hr9 _) ?_
 rintro _ _ ⟨rfl, rfl⟩
 refine zb tok 4 ?_
 simp only [go_sem, qb, qe, qa, qd, cellsGTree]
 refine za ?_
 simp only [ze, upd, qa, reduceIte, zl, zq]
 apply hK
 refine zj ?_
 obtain rfl := Option.some.inj h
 exact yr
theorem yH.ev (a0 : GSchema) (a1 : List UInt8) (a2 : List UInt8) (r : GTree × Int) (h : yH a0 a1 a2 = some r) (σ : Store) : ACalls qh 13 [.agg (encGSchema a0), .str a1, .ds true (qg encB a2) (qc a2) false] σ (fun r' σ' => r' = .tup [.agg (cellsGTree r.1), .int .i64 r.2] ∧ σ' = σ) :=
 (yH.ok a0 a1 a2 r h).c σ
def zT.l20 (yK : GTree → Int → Option Int) (a1 : Int) (x7 : Int) (rec10 : Int → Int → Option Int) : List GTree → Int → Int → Option Int
 | [], x17, x16 => (rec10 (x7 + 1) x16)
 | y20 :: q20, x17, x16 => (yK y20 (IntKind.i64.wrap (a1 - 1))).bind fun r26 => ((zT.l20 yK a1 x7 rec10 q20) (x17 + 1) (if x16 < r26 then r26 else x16))
def zT.l10 (yK : GTree → Int → Option Int) (a1 : Int) : List GEntry → Int → Int → Option Int
 | [], x7, x6 => some (IntKind.i64.wrap (x6 + 1))
 | y10 :: q10, x7, x6 => (zT.l20 yK a1 x7 (zT.l10 yK a1 q10) y10.fTrees 0 x6)
def zT.body (yK : GTree → Int → Option Int) (a0 : GTree) (a1 : Int) : Option Int :=
 (if ((!(decide (a0.fKind = 3))) || (decide (a1 = 0))) = true then some 0 else (zT.l10 yK a1 a0.fEntries 0 0))
theorem zT.step (yK : GTree → Int → Option Int) (ih_value_deep : ∀ (a0 : GTree) (a1 : Int) (r : Int), yK a0 a1 = some r → ACalls qh 99 [.agg (cellsGTree a0), .int .i64 a1] [] (fun r' _ => r' = .int .i64 r)) (a0 : GTree) (a1 : Int) (r : Int) (h : zT.body yK a0 a1 = some r) : ACalls qh 99 [.agg (cellsGTree a0), .int .i64 a1] [] (fun r' _ => r' = .int .i64 r) := by
 have ev_value_deep := fun a0 a1 r h σ => (ih_value_deep a0 a1 r h).c σ
 refine zn (rs := [.tmp 4]) tok Tryd.func99 rfl Tryd.ntmps99 rfl Tryd.call99 (by simp) ?_
 refine zt [(0, .agg (cellsGTree a0)), (1, .int .i64 a1)] ⟨rfl, rfl, trivial⟩ ?_
 unfold zT.body at h
 refine rg tok [1, 2] fun K hK => ?_
 simp only [go_sem, qb, qa, qd, reduceCtorEq, cellsGTree]
 apply hK
 refine zd fun Z1 hZ1 => ?_
 refine rc [1, 2, 16] fun K hK => ?_
 refine zb tok 4 ?_
 simp only [go_sem, qb, qa, qd]
 refine zo 3 (fun L τ => L = ([(1, .int .i64 a1), (2, .op 0 0 0), (16, .bool ((!(decide (a0.fKind = 3))) || (decide (a1 = 0))))] : List (Nat × AV)) ∧ τ = ([.cells 0 (cellsGTree a0)] : Store)) ?_ ?_
 · refine yN 13 rfl (fun hg13 => ?_) (fun hg13 => ?_)
   · have t2 := eq_false hg13
     refine zb tok 3 ?_
     simp only [go_sem, qb, qa]
     refine za ⟨rfl, _, _, ⟨rfl, rfl⟩, .p t2⟩
   have t3 := eq_true hg13
   refine zb tok 3 ?_
   simp only [go_sem, qb, qa]
   refine za ⟨rfl, _, _, ⟨rfl, rfl⟩, .p t3⟩
 rintro _ _ ⟨rfl, rfl⟩
 refine za ?_
 simp only [ze, qa, reduceIte, zl, zq]
 apply hK
 refine zv (b := ((!(decide (a0.fKind = 3))) || (decide (a1 = 0)))) rfl (fun hc4 => ?_) (fun hc4 => ?_)
 · rw [if_pos hc4] at h
   refine rg tok [4] fun K hK => ?_
   simp only [go_sem, qb, qa]
   apply hK
   refine zj ?_
   obtain rfl := Option.some.inj h
   exact yr
 rw [xD hc4] at h
 refine zh ?_
 apply hZ1
 refine rg tok [1, 2, 5] fun K hK => ?_
 simp only [go_sem, qb, qa]
 apply hK
 refine zd fun Z5 hZ5 => ?_
 refine rg tok [1, 5, 18, 19, 20] fun K hK => ?_
 simp only [go_sem, qb, qa, qd]
 apply hK
 refine zk ?_
 refine yW 18 fun hb10 => ?_
 replace hb10 : qc a0.fEntries ≤ 9223372036854775807 := hb10.1
 refine zF (fun m L τ => ∃ (p10 q10 : List GEntry) (x7 : Int) (x6 : Int), m = qc q10 ∧ L = ([(1, .int .i64 a1), (5, .int .i64 x6), (18, .ds true (qg encGEntry a0.fEntries) (qc a0.fEntries) false), (19, .int .i64 (qc a0.fEntries : Int)), (20, .int .i64 x7)] : List (Nat × AV)) ∧ τ = ([] : Store) ∧ a0.fEntries = p10 ++ q10 ∧ x7 = (qc p10 : Int) ∧ zT.l10 yK a1 q10 x7 x6 = some r) _ ⟨[], a0.fEntries, 0, 0, rfl, rfl, rfl, rfl, rfl, h⟩ (.t [] false) ?_
 rintro m L τ ⟨p10, q10, x7, x6, rfl, rfl, rfl, hE10, hi10, h⟩
 rcases q10 with _ | ⟨y10, q10⟩
 · have hz10 := yz hE10 hi10
   simp only [zT.l10] at h
   refine rg tok [1, 5, 18, 19, 20, 21] fun K hK => ?_
   simp only [go_sem, qb, qa, hz10]
   apply hK
   refine zd fun Z11 hZ11 => ?_
   refine zz rfl ?_
   refine zM ?_
   apply hZ5
   refine rg tok [4] fun K hK => ?_
   simp only [go_sem, qb, qa]
   apply hK
   refine zj ?_
   obtain rfl := Option.some.inj h
   exact yr
 obtain ⟨hz10, hw10, hx10, hE'10, hi'10⟩ := yg hE10 hi10 hb10
 simp only [zT.l10] at h
 refine rg tok [1, 5, 18, 19, 20, 21] fun K hK => ?_
 simp only [go_sem, qb, qa, hz10]
 apply hK
 refine zd fun Z12 hZ12 => ?_
 refine zB rfl ?_
 refine zh ?_
 apply hZ12
 refine zd fun Z13 hZ13 => ?_
 refine zk ?_
 have f14 := E40.idxS hx10
 have f15 := E40.loadS rfl rfl hx10
 refine rg tok [1, 5, 7, 18, 19, 20] fun K hK => ?_
 simp only [go_sem, qb, qe, qa, qd, cellsGEntry, yY, f14, f15]
 apply hK
 refine rg tok [1, 5, 18, 19, 20, 25, 26, 27] fun K hK => ?_
 simp only [go_sem, qb, qa, qd]
 apply hK
 refine zk ?_
 refine yW 25 fun hb20 => ?_
 replace hb20 : qc y10.fTrees ≤ 9223372036854775807 := hb20.1
 refine zF (fun m L τ => ∃ (p20 q20 : List GTree) (x17 : Int) (x16 : Int), m = qc q20 ∧ L = ([(1, .int .i64 a1), (5, .int .i64 x16), (18, .ds true (qg encGEntry a0.fEntries) (qc a0.fEntries) false), (19, .int .i64 (qc a0.fEntries : Int)), (20, .int .i64 x7), (25, .ds true (qg encGTree y10.fTrees) (qc y10.fTrees) false), (26, .int .i64 (qc y10.fTrees : Int)), (27, .int .i64 x17)] : List (Nat × AV)) ∧ τ = ([] : Store) ∧ y10.fTrees = p20 ++ q20 ∧ x17 = (qc p20 : Int) ∧ zT.l20 yK a1 x7 (zT.l10 yK a1 q10) q20 x17 x16 = some r) _ ⟨[], y10.fTrees, 0, x6, rfl, rfl, rfl, rfl, rfl, h⟩ (.t [] false) ?_
 rintro m L τ ⟨p20, q20, x17, x16, rfl, rfl, rfl, hE20, hi20, h⟩
 rcases q20 with _ | ⟨y20, q20⟩
 · have hz20 := yz hE20 hi20
   simp only [zT.l20] at h
   refine rg tok [1, 5, 18, 19, 20, 25, 26, 27, 28] fun K hK => ?_
   simp only [go_sem, qb, qa, hz20]
   apply hK
   refine zd fun Z21 hZ21 => ?_
   refine zz rfl ?_
   refine zM ?_
   apply hZ13
   refine rgE tok [1, 5, 18, 19, 20] fun K hK => ?_
   simp only [go_sem, qb, qa, hw10]
   apply hK
   exact ⟨_, _, _, qu q10.length, ⟨p10 ++ [y10], q10, x7 + 1, x16, rfl, rfl, rfl, hE'10, hi'10, h⟩, .s⟩
 obtain ⟨hz20, hw20, hx20, hE'20, hi'20⟩ := yg hE20 hi20 hb20
 simp only [zT.l20] at h
 refine rg tok [1, 5, 18, 19, 20, 25, 26, 27, 28] fun K hK => ?_
 simp only [go_sem, qb, qa, hz20]
 apply hK
 refine zd fun Z22 hZ22 => ?_
 refine zB rfl ?_
 refine zh ?_
 apply hZ22
 refine zd fun Z23 hZ23 => ?_
 refine zk ?_
 have f24 := E59.idxS hx20
 have f25 := E59.loadS rfl rfl hx20
 refine rg tok [1, 5, 9, 18, 19, 20, 25, 26, 27] fun K hK => ?_
 simp only [go_sem, qb, qe, qa, qd, cellsGTree, xB, f24, f25]
 apply hK
 refine rcE [1, 5, 18, 19, 20, 25, 26, 27] fun K hK => ?_
 obtain ⟨r26, hr26, h⟩ := bind_some h
 refine zb tok 4 ?_
 simp only [go_sem, qb, qe, qa, qd]
 refine zi rfl rfl rfl (ev_value_deep y20 (IntKind.i64.wrap (a1 - 1)) r26 hr26 _) ?_
 rintro _ _ ⟨rfl, rfl⟩
 refine zb tok 2 ?_
 simp only [go_sem, qb, qa, vbe, foldO, evMax2]
 refine za ?_
 simp only [ze, upd, qa, reduceIte, zl, zq]
 apply hK
 apply hZ23
 refine rgE tok [1, 5, 18, 19, 20, 25, 26, 27] fun K hK => ?_
 simp only [go_sem, qb, qa, hw20]
 apply hK
 exact ⟨_, _, _, qu q20.length, ⟨p20 ++ [y20], q20, x17 + 1, (if x16 < r26 then r26 else x16), rfl, rfl, rfl, hE'20, hi'20, h⟩, (.t [] false)⟩
def zT : Nat → GTree → Int → Option Int
 | 0, _, _ => none
 | k + 1, a0, a1 => zT.body (zT k) a0 a1
theorem zT.all (k : Nat) : (∀ (a0 : GTree) (a1 : Int) (r : Int), zT k a0 a1 = some r → ACalls qh 99 [.agg (cellsGTree a0), .int .i64 a1] [] (fun r' _ => r' = .int .i64 r)) := by
 induction k with
 | zero => exact (fun a0 a1 r h => by simp only [zT] at h; cases h)
 | succ k ih => exact (fun a0 a1 r h => zT.step _ ih a0 a1 r (by simpa only [zT] using h))
theorem zT.ev (k : Nat) (a0 : GTree) (a1 : Int) (r : Int) (h : zT k a0 a1 = some r) (σ : Store) : ACalls qh 99 [.agg (cellsGTree a0), .int .i64 a1] σ (fun r' σ' => r' = .int .i64 r ∧ σ' = σ) :=
 ((zT.all k) a0 a1 r h).c σ
def xW (a0 : GTree) : Option Int :=
 (zT rounds a0 101).bind fun r1 => some r1
theorem xW.ok (a0 : GTree) (r : Int) (h : xW a0 = some r) : ACalls qh 71 [.agg (cellsGTree a0)] [] (fun r' _ => r' = .int .i64 r) := by
 refine zn (rs := [.tmp 2]) tok Tryd.func71 rfl Tryd.ntmps71 rfl Tryd.call71 (by simp) ?_
 refine zt [(0, .agg (cellsGTree a0))] ⟨rfl, trivial⟩ ?_
 unfold xW at h
 refine rg tok [1] fun K hK => ?_
 simp only [go_sem, qb, qa, qd, reduceCtorEq, cellsGTree]
 apply hK
 refine rc [2] fun K hK => ?_
 obtain ⟨r1, hr1, h⟩ := bind_some h
 refine zb tok 1 ?_
 simp only [go_sem, qb, qe, qd]
 refine zi rfl rfl rfl (zT.ev rounds a0 101 r1 hr1 _) ?_
 rintro _ _ ⟨rfl, rfl⟩
 refine zb tok 1 ?_
 simp only [go_sem, qb, qa]
 refine za ?_
 simp only [ze, upd, qa, reduceIte, zl, zq]
 apply hK
 refine zj ?_
 obtain rfl := Option.some.inj h
 exact yr
theorem xW.ev (a0 : GTree) (r : Int) (h : xW a0 = some r) (σ : Store) : ACalls qh 71 [.agg (cellsGTree a0)] σ (fun r' σ' => r' = .int .i64 r ∧ σ' = σ) :=
 (xW.ok a0 r h).c σ
def yw (a0 : GRaw) : Bool :=
 (if ((decide (a0.fTag < 1)) || (decide (500 < a0.fTag))) = true then false else (if a0.fWire = 0 then decide (a0.fB = []) else (if a0.fWire = 1 then ((decide (a0.fN = 0)) && (decide ((qc a0.fB : Int) ≤ 4096))) else false)))
theorem yw.ok (a0 : GRaw) (r : Bool) (h : yw a0 = r) : ACalls qh 32 [.agg (encGRaw a0)] [] (fun r' _ => r' = .bool r) := by
 refine zn (rs := [.tmp 2]) tok Tryd.func32 rfl Tryd.ntmps32 rfl Tryd.call32 (by simp) ?_
 refine zt [(0, .agg (encGRaw a0))] ⟨rfl, trivial⟩ ?_
 unfold yw at h
 refine rg tok [1] fun K hK => ?_
 simp only [go_sem, qb, qa, qd, reduceCtorEq, encGRaw]
 apply hK
 refine zd fun Z1 hZ1 => ?_
 refine rc [1, 10] fun K hK => ?_
 refine zb tok 4 ?_
 simp only [go_sem, qb, qa, qd]
 refine zo 4 (fun L τ => L = ([(1, .op 0 0 0), (10, .bool ((decide (a0.fTag < 1)) || (decide (500 < a0.fTag))))] : List (Nat × AV)) ∧ τ = ([.cells 0 [.int .i64 a0.fTag, .int .i64 a0.fWire, .int .i64 a0.fN, .str a0.fB]] : Store)) ?_ ?_
 · refine yN 6 rfl (fun hg6 => ?_) (fun hg6 => ?_)
   · have t2 := eq_true hg6
     refine zb tok 4 ?_
     simp only [go_sem, qb, qa]
     refine za ⟨rfl, _, _, ⟨rfl, rfl⟩, .p t2⟩
   have t3 := eq_false hg6
   refine zb tok 4 ?_
   simp only [go_sem, qb, qa, qd]
   refine za ⟨rfl, _, _, ⟨rfl, rfl⟩, .p t3⟩
 rintro _ _ ⟨rfl, rfl⟩
 refine za ?_
 simp only [ze, qa, reduceIte, zl, zq]
 apply hK
 refine zv (b := ((decide (a0.fTag < 1)) || (decide (500 < a0.fTag)))) rfl (fun hc4 => ?_) (fun hc4 => ?_)
 · rw [if_pos hc4] at h
   refine rg tok [2] fun K hK => ?_
   simp only [go_sem, qb, qa]
   apply hK
   refine zj ?_
   obtain rfl := h
   exact yr
 rw [xD hc4] at h
 refine zh ?_
 apply hZ1
 refine zd fun Z5 hZ5 => ?_
 refine rg tok [1, 12] fun K hK => ?_
 simp only [go_sem, qb, qa, qd]
 apply hK
 refine zk ?_
 refine rg tok [1, 12, 13] fun K hK => ?_
 simp only [go_sem, qb, qa]
 apply hK
 refine zI rfl (fun hc6 => ?_) (fun hc6 => ?_)
 · rw [if_pos hc6] at h
   have t7 := eq_true hc6
   refine rg tok [2] fun K hK => ?_
   simp only [go_sem, qb, qa, qd, t7]
   apply hK
   refine zj ?_
   obtain rfl := h
   exact yr
 rw [if_neg hc6] at h
 have t8 := eq_false hc6
 refine rg tok [1, 18] fun K hK => ?_
 simp only [go_sem, qb, qa, t8]
 apply hK
 refine zI rfl (fun hc9 => ?_) (fun hc9 => ?_)
 · rw [if_pos hc9] at h
   have t10 := eq_true hc9
   refine rc [2] fun K hK => ?_
   refine zb tok 4 ?_
   simp only [go_sem, qb, qa, qd, t10]
   refine zo 5 (fun L τ => L = ([(28, .bool ((decide (a0.fN = 0)) && (decide ((qc a0.fB : Int) ≤ 4096))))] : List (Nat × AV)) ∧ τ = ([.cells 0 [.int .i64 a0.fTag, .int .i64 a0.fWire, .int .i64 a0.fN, .str a0.fB]] : Store)) ?_ ?_
   · refine yN 23 rfl (fun hg23 => ?_) (fun hg23 => ?_)
     · have t11 := eq_true hg23
       refine zb tok 5 ?_
       simp only [go_sem, qb, qa, qd]
       refine za ⟨rfl, _, _, ⟨rfl, rfl⟩, .p t11⟩
     have t12 := eq_false hg23
     refine zb tok 5 ?_
     simp only [go_sem, qb, qa]
     refine za ⟨rfl, _, _, ⟨rfl, rfl⟩, .p t12⟩
   rintro _ _ ⟨rfl, rfl⟩
   refine zb tok 1 ?_
   simp only [go_sem, qb]
   refine za ?_
   simp only [ze, upd, qa, reduceIte, zl, zq]
   apply hK
   refine zj ?_
   obtain rfl := h
   exact yr
 rw [if_neg hc9] at h
 have t13 := eq_false hc9
 refine zh ?_
 apply hZ5
 refine rg tok [2] fun K hK => ?_
 simp only [go_sem, qb, qa, t13]
 apply hK
 refine zj ?_
 obtain rfl := h
 exact yr
theorem yw.ev (a0 : GRaw) (r : Bool) (h : yw a0 = r) (σ : Store) : ACalls qh 32 [.agg (encGRaw a0)] σ (fun r' σ' => r' = .bool r ∧ σ' = σ) :=
 (yw.ok a0 r h).c σ
def y1.l4 (a0 : List GRaw) : Nat → Int → Option Bool
 | 0, _ => none
 | k4 + 1, x2 => (if x2 < (qc a0 : Int) then (Zj a0 x2).bind fun y9 => (Zj a0 (IntKind.i64.wrap (x2 - 1))).bind fun y12 => (if y9.fTag < y12.fTag then some false else ((y1.l4 a0 k4) (IntKind.i64.wrap (x2 + 1)))) else some true)
def y1 (a0 : List GRaw) : Option Bool :=
 (y1.l4 a0 rounds 1)
theorem y1.ok (a0 : List GRaw) (r : Bool) (h : y1 a0 = some r) : ACalls qh 121 [.ds true (qg encGRaw a0) (qc a0) false] [] (fun r' _ => r' = .bool r) := by
 refine zn (rs := [.tmp 2]) tok Tryd.func121 rfl Tryd.ntmps121 rfl Tryd.call121 (by simp) ?_
 refine zt [(0, .ds true (qg encGRaw a0) (qc a0) false)] ⟨rfl, trivial⟩ ?_
 unfold y1 at h
 refine rg tok [0] fun K hK => ?_
 simp only [go_sem, qb, reduceCtorEq]
 apply hK
 refine zd fun Z1 hZ1 => ?_
 refine rg tok [0, 3] fun K hK => ?_
 simp only [go_sem, qb, reduceCtorEq]
 apply hK
 refine zk ?_
 refine zF (fun m L τ => ∃ (k4 : Nat) (x2 : Int), m = 0 + k4 ∧ L = ([(0, .ds true (qg encGRaw a0) (qc a0) false), (3, .int .i64 x2)] : List (Nat × AV)) ∧ τ = ([] : Store) ∧ y1.l4 a0 k4 x2 = some r) _ ⟨rounds, 1, rfl, rfl, rfl, h⟩ .s ?_
 rintro m L τ ⟨k4, x2, rfl, rfl, rfl, h⟩
 rcases k4 with _ | k4
 · cases h
 simp only [y1.l4] at h
 refine zd fun Z5 hZ5 => ?_
 refine rg tok [0, 3, 7] fun K hK => ?_
 simp only [go_sem, qb, qa, reduceCtorEq]
 apply hK
 refine zI rfl (fun hc6 => ?_) (fun hc6 => ?_)
 · rw [if_pos hc6] at h
   have t7 := eq_true hc6
   refine zh ?_
   apply hZ5
   refine zd fun Z8 hZ8 => ?_
   refine zk ?_
   obtain ⟨y9, hy9, h⟩ := bind_some h
   have f10 := E22.idxS hy9
   have f11 := E22.fldS0 (f := 3) rfl rfl hy9
   obtain ⟨y12, hy12, h⟩ := bind_some h
   have f13 := E22.idxS hy12
   have f14 := E22.fldS0 (f := 3) rfl rfl hy12
   refine rd [0, 3, 21] fun K hK => ?_
   refine DW.start (T := tab) [.any, .any, .any, .any, .at [], .any, .any, .any, .any, .any, .at [], .any] [] ?_
   refine DW.runN tok 8 ?_
   simp only [go_sem, qb, qa, reduceCtorEq, encGRaw, t7, f10, f11]
   refine DW.runN tok 4 ?_
   simp only [go_sem, qb, qa, reduceCtorEq, encGRaw, f13, f14]
   refine DW.fin tok (by decide +kernel) rfl ?_
   simp only [ze, upd, qa, reduceIte, zl, zq]
   apply hK
   refine zI rfl (fun hc15 => ?_) (fun hc15 => ?_)
   · rw [if_pos hc15] at h
     have t16 := eq_true hc15
     refine rg tok [2] fun K hK => ?_
     simp only [go_sem, qb, qa, reduceCtorEq, t16]
     apply hK
     refine zj ?_
     obtain rfl := Option.some.inj h
     exact yr
   rw [if_neg hc15] at h
   have t17 := eq_false hc15
   refine zh ?_
   apply hZ8
   refine rgE tok [0, 3] fun K hK => ?_
   simp only [go_sem, qb, qa, reduceCtorEq, t17]
   apply hK
   exact ⟨_, _, _, qu (0 + k4), ⟨k4, IntKind.i64.wrap (x2 + 1), rfl, rfl, rfl, h⟩, .s⟩
 rw [if_neg hc6] at h
 have t18 := eq_false hc6
 refine zM ?_
 apply hZ1
 refine rg tok [2] fun K hK => ?_
 simp only [go_sem, qb, qa, reduceCtorEq, t18]
 apply hK
 refine zj ?_
 obtain rfl := Option.some.inj h
 exact yr
theorem y1.ev (a0 : List GRaw) (r : Bool) (h : y1 a0 = some r) (σ : Store) : ACalls qh 121 [.ds true (qg encGRaw a0) (qc a0) false] σ (fun r' σ' => r' = .bool r ∧ σ' = σ) :=
 (y1.ok a0 r h).c σ
def yv.l16 (x2 : Int) (rec4 : Int → Option Bool) (y4 : GRaw) : List GEntry → Int → Option Bool
 | [], x14 => (rec4 (x2 + 1))
 | y16 :: q16, x14 => (if y16.fTag = y4.fTag then some false else ((yv.l16 x2 rec4 y4 q16) (x14 + 1)))
def yv.l4 (a0 : GTree) : List GRaw → Int → Option Bool
 | [], x2 => (y1 a0.fRest).bind fun r6 => some r6
 | y4 :: q4, x2 => bnd (yw y4) fun r12 => (if (!r12) = true then some false else (yv.l16 x2 (yv.l4 a0 q4) y4 a0.fEntries 0))
def yv (a0 : GTree) : Option Bool :=
 (yv.l4 a0 a0.fRest 0)
theorem yv.ok (a0 : GTree) (r : Bool) (h : yv a0 = some r) : ACalls qh 101 [.agg (cellsGTree a0)] [] (fun r' _ => r' = .bool r) := by
 refine zn (rs := [.tmp 2]) tok Tryd.func101 rfl Tryd.ntmps101 rfl Tryd.call101 (by simp) ?_
 refine zt [(0, .agg (cellsGTree a0))] ⟨rfl, trivial⟩ ?_
 unfold yv at h
 refine rg tok [1] fun K hK => ?_
 simp only [go_sem, qb, qa, qd, reduceCtorEq, cellsGTree]
 apply hK
 refine zd fun Z1 hZ1 => ?_
 refine rg tok [1, 8, 9, 10] fun K hK => ?_
 simp only [go_sem, qb, qa, qd]
 apply hK
 refine zk ?_
 refine yW 8 fun hb4 => ?_
 replace hb4 : qc a0.fRest ≤ 9223372036854775807 := hb4.1
 refine zF (fun m L τ => ∃ (p4 q4 : List GRaw) (x2 : Int), m = qc q4 ∧ L = ([(1, .op 0 0 0), (8, .ds true (qg encGRaw a0.fRest) (qc a0.fRest) false), (9, .int .i64 (qc a0.fRest : Int)), (10, .int .i64 x2)] : List (Nat × AV)) ∧ τ = ([.cells 0 (cellsGTree a0)] : Store) ∧ a0.fRest = p4 ++ q4 ∧ x2 = (qc p4 : Int) ∧ yv.l4 a0 q4 x2 = some r) _ ⟨[], a0.fRest, 0, rfl, rfl, rfl, rfl, rfl, h⟩ .s ?_
 rintro m L τ ⟨p4, q4, x2, rfl, rfl, rfl, hE4, hi4, h⟩
 rcases q4 with _ | ⟨y4, q4⟩
 · have hz4 := yz hE4 hi4
   simp only [yv.l4] at h
   refine rg tok [1, 8, 9, 10, 11] fun K hK => ?_
   simp only [go_sem, qb, qa, hz4]
   apply hK
   refine zd fun Z5 hZ5 => ?_
   refine zz rfl ?_
   refine zM ?_
   apply hZ1
   refine rc [2] fun K hK => ?_
   obtain ⟨r6, hr6, h⟩ := bind_some h
   refine zb tok 2 ?_
   simp only [go_sem, qb, qa, qd]
   refine zi rfl rfl rfl (y1.ev a0.fRest r6 hr6 _) ?_
   rintro _ _ ⟨rfl, rfl⟩
   refine zb tok 1 ?_
   simp only [go_sem, qb, qa]
   refine za ?_
   simp only [ze, upd, qa, reduceIte, zl, zq]
   apply hK
   refine zj ?_
   obtain rfl := Option.some.inj h
   exact yr
 obtain ⟨hz4, hw4, hx4, hE'4, hi'4⟩ := yg hE4 hi4 hb4
 simp only [yv.l4] at h
 refine rg tok [1, 8, 9, 10, 11] fun K hK => ?_
 simp only [go_sem, qb, qa, hz4]
 apply hK
 refine zd fun Z7 hZ7 => ?_
 refine zB rfl ?_
 refine zh ?_
 apply hZ7
 refine zd fun Z8 hZ8 => ?_
 refine zk ?_
 have f9 := E22.idxS hx4
 have f10 := E22.loadS rfl rfl hx4
 refine rg tok [1, 4, 8, 9, 10] fun K hK => ?_
 simp only [go_sem, qb, qe, qa, qd, encGRaw, f9, f10]
 apply hK
 refine zd fun Z11 hZ11 => ?_
 refine rc [1, 4, 8, 9, 10, 16] fun K hK => ?_
 obtain ⟨r12, hr12, h⟩ := zS h
 refine zb tok 1 ?_
 simp only [go_sem, qb, qe, qa, qd]
 refine zi rfl rfl rfl (yw.ev y4 r12 hr12 _) ?_
 rintro _ _ ⟨rfl, rfl⟩
 refine zb tok 1 ?_
 simp only [go_sem, qb, qa]
 refine za ?_
 simp only [ze, upd, qa, reduceIte, zl, zq]
 apply hK
 refine zv (b := (!r12)) rfl (fun hc13 => ?_) (fun hc13 => ?_)
 · rw [if_pos hc13] at h
   refine rg tok [2] fun K hK => ?_
   simp only [go_sem, qb, qa]
   apply hK
   refine zj ?_
   obtain rfl := Option.some.inj h
   exact yr
 rw [xD hc13] at h
 refine zh ?_
 apply hZ11
 refine rg tok [1, 4, 8, 9, 10, 18, 19, 20] fun K hK => ?_
 simp only [go_sem, qb, qa, qd]
 apply hK
 refine zk ?_
 refine yW 18 fun hb16 => ?_
 replace hb16 : qc a0.fEntries ≤ 9223372036854775807 := hb16.1
 refine zF (fun m L τ => ∃ (p16 q16 : List GEntry) (x14 : Int), m = qc q16 ∧ L = ([(1, .op 0 0 0), (4, .op 1 0 0), (8, .ds true (qg encGRaw a0.fRest) (qc a0.fRest) false), (9, .int .i64 (qc a0.fRest : Int)), (10, .int .i64 x2), (18, .ds true (qg encGEntry a0.fEntries) (qc a0.fEntries) false), (19, .int .i64 (qc a0.fEntries : Int)), (20, .int .i64 x14)] : List (Nat × AV)) ∧ τ = ([.cells 0 (cellsGTree a0), .cells 0 [.int .i64 y4.fTag, .int .i64 y4.fWire, .int .i64 y4.fN, .str y4.fB]] : Store) ∧ a0.fEntries = p16 ++ q16 ∧ x14 = (qc p16 : Int) ∧ yv.l16 x2 (yv.l4 a0 q4) y4 q16 x14 = some r) _ ⟨[], a0.fEntries, 0, rfl, rfl, rfl, rfl, rfl, h⟩ .s ?_
 rintro m L τ ⟨p16, q16, x14, rfl, rfl, rfl, hE16, hi16, h⟩
 rcases q16 with _ | ⟨y16, q16⟩
 · have hz16 := yz hE16 hi16
   simp only [yv.l16] at h
   refine rg tok [1, 4, 8, 9, 10, 18, 19, 20, 21] fun K hK => ?_
   simp only [go_sem, qb, qa, hz16]
   apply hK
   refine zd fun Z17 hZ17 => ?_
   refine zz rfl ?_
   refine zM ?_
   apply hZ8
   refine rgE tok [1, 8, 9, 10] fun K hK => ?_
   simp only [go_sem, qb, qa, hw4]
   apply hK
   exact ⟨_, _, _, qu q4.length, ⟨p4 ++ [y4], q4, x2 + 1, rfl, rfl, rfl, hE'4, hi'4, h⟩, (.t [0] false)⟩
 obtain ⟨hz16, hw16, hx16, hE'16, hi'16⟩ := yg hE16 hi16 hb16
 simp only [yv.l16] at h
 refine rg tok [1, 4, 8, 9, 10, 18, 19, 20, 21] fun K hK => ?_
 simp only [go_sem, qb, qa, hz16]
 apply hK
 refine zd fun Z18 hZ18 => ?_
 refine zB rfl ?_
 refine zh ?_
 apply hZ18
 refine zd fun Z19 hZ19 => ?_
 refine zk ?_
 have f20 := E40.idxS hx16
 have f21 := E40.loadS rfl rfl hx16
 refine rg tok [1, 4, 6, 8, 9, 10, 18, 19, 20] fun K hK => ?_
 simp only [go_sem, qb, qe, qa, qd, cellsGEntry, yY, f20, f21]
 apply hK
 refine rg tok [1, 4, 8, 9, 10, 18, 19, 20, 28] fun K hK => ?_
 simp only [go_sem, qb, qa, qd]
 apply hK
 refine zI rfl (fun hc22 => ?_) (fun hc22 => ?_)
 · rw [if_pos hc22] at h
   have t23 := eq_true hc22
   refine rg tok [2] fun K hK => ?_
   simp only [go_sem, qb, qa, t23]
   apply hK
   refine zj ?_
   obtain rfl := Option.some.inj h
   exact yr
 rw [if_neg hc22] at h
 have t24 := eq_false hc22
 refine zh ?_
 apply hZ19
 refine rgE tok [1, 4, 8, 9, 10, 18, 19, 20] fun K hK => ?_
 simp only [go_sem, qb, qa, hw16, t24]
 apply hK
 exact ⟨_, _, _, qu q16.length, ⟨p16 ++ [y16], q16, x14 + 1, rfl, rfl, rfl, hE'16, hi'16, h⟩, (.t [0, 1] false)⟩
theorem yv.ev (a0 : GTree) (r : Bool) (h : yv a0 = some r) (σ : Store) : ACalls qh 101 [.agg (cellsGTree a0)] σ (fun r' σ' => r' = .bool r ∧ σ' = σ) :=
 (yv.ok a0 r h).c σ
def zw.j25 (x16 : Int) (rec18 : Int → Option Bool) (x24 : Bool) : Option Bool :=
 (if x24 = true then some false else (rec18 (x16 + 1)))
def zw.l18 (zX : GTree → Option Bool) (x3 : Int) (rec6 : Int → Int → Option Bool) (y6 : GEntry) : List GTree → Int → Option Bool
 | [], x16 => (rec6 (x3 + 1) y6.fTag)
 | y18 :: q18, x16 => (Zj y6.fTrees 0).bind fun y27 => (if y18.fKind = y27.fKind then (zX y18).bind fun r32 => (zw.j25 x16 (zw.l18 zX x3 rec6 y6 q18) (!r32)) else (zw.j25 x16 (zw.l18 zX x3 rec6 y6 q18) true))
def zw.l6 (zX : GTree → Option Bool) : List GEntry → Int → Int → Option Bool
 | [], x3, x2 => some true
 | y6 :: q6, x3, x2 => (if ((((decide (y6.fTag ≤ x2)) || (decide (500 < y6.fTag))) || (decide ((qc y6.fTrees : Int) < 1))) || (decide (64 < (qc y6.fTrees : Int)))) = true then some false else (zw.l18 zX x3 (zw.l6 zX q6) y6 y6.fTrees 0))
def zw.body (xf : GTree → Option Bool) (zX : GTree → Option Bool) (a0 : GTree) : Option Bool :=
 (zw.l6 zX a0.fEntries 0 0)
theorem zw.step (xf : GTree → Option Bool) (zX : GTree → Option Bool) (Zn : ∀ (a0 : GTree) (r : Bool), xf a0 = some r → ACalls qh 100 [.agg (cellsGTree a0)] [] (fun r' _ => r' = .bool r)) (ZM : ∀ (a0 : GTree) (r : Bool), zX a0 = some r → ACalls qh 72 [.agg (cellsGTree a0)] [] (fun r' _ => r' = .bool r)) (a0 : GTree) (r : Bool) (h : zw.body xf zX a0 = some r) : ACalls qh 100 [.agg (cellsGTree a0)] [] (fun r' _ => r' = .bool r) := by
 have ev_value_entries := fun a0 r h σ => (Zn a0 r h).c σ
 have ev_value_right := fun a0 r h σ => (ZM a0 r h).c σ
 refine zn (rs := [.tmp 2]) tok Tryd.func100 rfl Tryd.ntmps100 rfl Tryd.call100 (by simp) ?_
 refine zt [(0, .agg (cellsGTree a0))] ⟨rfl, trivial⟩ ?_
 unfold zw.body at h
 refine rg tok [1] fun K hK => ?_
 simp only [go_sem, qb, qa, qd, reduceCtorEq, cellsGTree]
 apply hK
 refine rg tok [1, 3] fun K hK => ?_
 simp only [go_sem, qb, qa]
 apply hK
 refine zd fun Z1 hZ1 => ?_
 refine rg tok [3, 9, 10, 11] fun K hK => ?_
 simp only [go_sem, qb, qa, qd]
 apply hK
 refine zk ?_
 refine yW 9 fun hb6 => ?_
 replace hb6 : qc a0.fEntries ≤ 9223372036854775807 := hb6.1
 refine zF (fun m L τ => ∃ (p6 q6 : List GEntry) (x3 : Int) (x2 : Int), m = qc q6 ∧ L = ([(3, .int .i64 x2), (9, .ds true (qg encGEntry a0.fEntries) (qc a0.fEntries) false), (10, .int .i64 (qc a0.fEntries : Int)), (11, .int .i64 x3)] : List (Nat × AV)) ∧ τ = ([] : Store) ∧ a0.fEntries = p6 ++ q6 ∧ x3 = (qc p6 : Int) ∧ zw.l6 zX q6 x3 x2 = some r) _ ⟨[], a0.fEntries, 0, 0, rfl, rfl, rfl, rfl, rfl, h⟩ (.t [] false) ?_
 rintro m L τ ⟨p6, q6, x3, x2, rfl, rfl, rfl, hE6, hi6, h⟩
 rcases q6 with _ | ⟨y6, q6⟩
 · have hz6 := yz hE6 hi6
   simp only [zw.l6] at h
   refine rg tok [3, 9, 10, 11, 12] fun K hK => ?_
   simp only [go_sem, qb, qa, hz6]
   apply hK
   refine zd fun Z7 hZ7 => ?_
   refine zz rfl ?_
   refine zM ?_
   apply hZ1
   refine rg tok [2] fun K hK => ?_
   simp only [go_sem, qb, qa]
   apply hK
   refine zj ?_
   obtain rfl := Option.some.inj h
   exact yr
 obtain ⟨hz6, hw6, hx6, hE'6, hi'6⟩ := yg hE6 hi6 hb6
 simp only [zw.l6] at h
 refine rg tok [3, 9, 10, 11, 12] fun K hK => ?_
 simp only [go_sem, qb, qa, hz6]
 apply hK
 refine zd fun Z8 hZ8 => ?_
 refine zB rfl ?_
 refine zh ?_
 apply hZ8
 refine zd fun Z9 hZ9 => ?_
 refine zk ?_
 have f10 := E40.idxS hx6
 have f11 := E40.loadS rfl rfl hx6
 refine rg tok [3, 5, 9, 10, 11] fun K hK => ?_
 simp only [go_sem, qb, qe, qa, qd, cellsGEntry, yY, f10, f11]
 apply hK
 refine zd fun Z12 hZ12 => ?_
 refine rc [5, 9, 10, 11, 35] fun K hK => ?_
 refine zb tok 5 ?_
 simp only [go_sem, qb, qa, qd]
 refine zo 4 (fun L τ => L = ([(5, .op 0 0 0), (9, .ds true (qg encGEntry a0.fEntries) (qc a0.fEntries) false), (10, .int .i64 (qc a0.fEntries : Int)), (11, .int .i64 x3), (23, .bool ((decide (y6.fTag ≤ x2)) || (decide (500 < y6.fTag))))] : List (Nat × AV)) ∧ τ = ([.cells 0 (cellsGEntry y6)] : Store)) ?_ ?_
 · refine yN 19 rfl (fun hg19 => ?_) (fun hg19 => ?_)
   · have t13 := eq_true hg19
     refine zb tok 4 ?_
     simp only [go_sem, qb, qa]
     refine za ⟨rfl, _, _, ⟨rfl, rfl⟩, .p t13⟩
   have t14 := eq_false hg19
   refine zb tok 4 ?_
   simp only [go_sem, qb, qa, qd]
   refine za ⟨rfl, _, _, ⟨rfl, rfl⟩, .p t14⟩
 rintro _ _ ⟨rfl, rfl⟩
 refine zb tok 1 ?_
 simp only [go_sem, qb, qa]
 refine zo 5 (fun L τ => L = ([(5, .op 0 0 0), (9, .ds true (qg encGEntry a0.fEntries) (qc a0.fEntries) false), (10, .int .i64 (qc a0.fEntries : Int)), (11, .int .i64 x3), (29, .bool (((decide (y6.fTag ≤ x2)) || (decide (500 < y6.fTag))) || (decide ((qc y6.fTrees : Int) < 1))))] : List (Nat × AV)) ∧ τ = ([.cells 0 (cellsGEntry y6)] : Store)) ?_ ?_
 · refine zQ (b := ((decide (y6.fTag ≤ x2)) || (decide (500 < y6.fTag)))) 24 rfl (fun hg24 => ?_) (fun hg24 => ?_)
   · refine zb tok 5 ?_
     simp only [go_sem, qb, qa]
     refine za ⟨rfl, _, _, ⟨rfl, rfl⟩, .b hg24⟩
   refine zb tok 5 ?_
   simp only [go_sem, qb, qa, qd]
   refine za ⟨rfl, _, _, ⟨rfl, rfl⟩, .b hg24⟩
 rintro _ _ ⟨rfl, rfl⟩
 refine zb tok 1 ?_
 simp only [go_sem, qb, qa]
 refine zo 5 (fun L τ => L = ([(5, .op 0 0 0), (9, .ds true (qg encGEntry a0.fEntries) (qc a0.fEntries) false), (10, .int .i64 (qc a0.fEntries : Int)), (11, .int .i64 x3), (35, .bool ((((decide (y6.fTag ≤ x2)) || (decide (500 < y6.fTag))) || (decide ((qc y6.fTrees : Int) < 1))) || (decide (64 < (qc y6.fTrees : Int)))))] : List (Nat × AV)) ∧ τ = ([.cells 0 (cellsGEntry y6)] : Store)) ?_ ?_
 · refine zQ (b := (((decide (y6.fTag ≤ x2)) || (decide (500 < y6.fTag))) || (decide ((qc y6.fTrees : Int) < 1)))) 30 rfl (fun hg30 => ?_) (fun hg30 => ?_)
   · refine zb tok 5 ?_
     simp only [go_sem, qb, qa]
     refine za ⟨rfl, _, _, ⟨rfl, rfl⟩, .b hg30⟩
   refine zb tok 5 ?_
   simp only [go_sem, qb, qa, qd]
   refine za ⟨rfl, _, _, ⟨rfl, rfl⟩, .b hg30⟩
 rintro _ _ ⟨rfl, rfl⟩
 refine za ?_
 simp only [ze, qa, reduceIte, zl, zq]
 apply hK
 refine zv (b := ((((decide (y6.fTag ≤ x2)) || (decide (500 < y6.fTag))) || (decide ((qc y6.fTrees : Int) < 1))) || (decide (64 < (qc y6.fTrees : Int))))) rfl (fun hc15 => ?_) (fun hc15 => ?_)
 · rw [if_pos hc15] at h
   refine rg tok [2] fun K hK => ?_
   simp only [go_sem, qb, qa]
   apply hK
   refine zj ?_
   obtain rfl := Option.some.inj h
   exact yr
 rw [xD hc15] at h
 refine zh ?_
 apply hZ12
 refine rg tok [3, 5, 9, 10, 11] fun K hK => ?_
 simp only [go_sem, qb, qa, qd]
 apply hK
 refine rg tok [3, 5, 9, 10, 11, 39, 40, 41] fun K hK => ?_
 simp only [go_sem, qb, qa, qd]
 apply hK
 refine zk ?_
 refine yW 39 fun hb18 => ?_
 replace hb18 : qc y6.fTrees ≤ 9223372036854775807 := hb18.1
 refine zF (fun m L τ => ∃ (p18 q18 : List GTree) (x16 : Int), m = qc q18 ∧ L = ([(3, .int .i64 y6.fTag), (5, .op 0 0 0), (9, .ds true (qg encGEntry a0.fEntries) (qc a0.fEntries) false), (10, .int .i64 (qc a0.fEntries : Int)), (11, .int .i64 x3), (39, .ds true (qg encGTree y6.fTrees) (qc y6.fTrees) false), (40, .int .i64 (qc y6.fTrees : Int)), (41, .int .i64 x16)] : List (Nat × AV)) ∧ τ = ([.cells 0 (cellsGEntry y6)] : Store) ∧ y6.fTrees = p18 ++ q18 ∧ x16 = (qc p18 : Int) ∧ zw.l18 zX x3 (zw.l6 zX q6) y6 q18 x16 = some r) _ ⟨[], y6.fTrees, 0, rfl, rfl, rfl, rfl, rfl, h⟩ .s ?_
 rintro m L τ ⟨p18, q18, x16, rfl, rfl, rfl, hE18, hi18, h⟩
 rcases q18 with _ | ⟨y18, q18⟩
 · have hz18 := yz hE18 hi18
   simp only [zw.l18] at h
   refine rg tok [3, 5, 9, 10, 11, 39, 40, 41, 42] fun K hK => ?_
   simp only [go_sem, qb, qa, hz18]
   apply hK
   refine zd fun Z19 hZ19 => ?_
   refine zz rfl ?_
   refine zM ?_
   apply hZ9
   refine rgE tok [3, 9, 10, 11] fun K hK => ?_
   simp only [go_sem, qb, qa, hw6]
   apply hK
   exact ⟨_, _, _, qu q6.length, ⟨p6 ++ [y6], q6, x3 + 1, y6.fTag, rfl, rfl, rfl, hE'6, hi'6, h⟩, (.t [] false)⟩
 obtain ⟨hz18, hw18, hx18, hE'18, hi'18⟩ := yg hE18 hi18 hb18
 simp only [zw.l18] at h
 refine rg tok [3, 5, 9, 10, 11, 39, 40, 41, 42] fun K hK => ?_
 simp only [go_sem, qb, qa, hz18]
 apply hK
 refine zd fun Z20 hZ20 => ?_
 refine zB rfl ?_
 refine zh ?_
 apply hZ20
 refine zd fun Z21 hZ21 => ?_
 refine zk ?_
 have f22 := E59.idxS hx18
 have f23 := E59.loadS rfl rfl hx18
 refine rg tok [3, 5, 7, 9, 10, 11, 39, 40, 41] fun K hK => ?_
 simp only [go_sem, qb, qe, qa, qd, cellsGTree, xB, f22, f23]
 apply hK
 refine xK (fun L τ => ∃ (x24 : Bool), L = ([(3, .int .i64 y6.fTag), (5, .op 0 0 0), (9, .ds true (qg encGEntry a0.fEntries) (qc a0.fEntries) false), (10, .int .i64 (qc a0.fEntries : Int)), (11, .int .i64 x3), (39, .ds true (qg encGTree y6.fTrees) (qc y6.fTrees) false), (40, .int .i64 (qc y6.fTrees : Int)), (41, .int .i64 x16), (57, .bool x24)] : List (Nat × AV)) ∧ τ = ([.cells 0 (cellsGEntry y6)] : Store) ∧ zw.j25 x16 (zw.l18 zX x3 (zw.l6 zX q6) y6 q18) x24 = some r) ?_ ?_
 · refine rdE [3, 5, 9, 10, 11, 39, 40, 41, 57] fun K hK => ?_
   refine DW.start (T := tab) [.any, .at [], .any, .at [], .any, .any, .at [], .any, .any, .at [], .eff, .any, .any] [] ?_
   obtain ⟨y27, hy27, h⟩ := bind_some h
   have f28 := E59.idxS hy27
   have f29 := E59.fldS0 (f := 3) rfl rfl hy27
   refine DW.runN tok 8 ?_
   simp only [go_sem, qb, qa, qd, cellsGTree, xB, f28, f29]
   refine DW.runN tok 1 ?_
   simp only [go_sem, qb, qa]
   refine DW.if 53 rfl (fun hg53 => ?_) (fun hg53 => ?_)
   · rw [if_neg hg53] at h
     have t30 := eq_false hg53
     refine DW.runN tok 4 ?_
     simp only [go_sem, qb, qa, t30]
     refine DW.fin tok (by decide +kernel) rfl ?_
     simp only [ze, upd, qa, reduceIte, zl, zq]
     apply hK
     exact ⟨_, _, ⟨true, rfl, rfl, h⟩, (.t [0] false)⟩
   rw [if_pos hg53] at h
   have t31 := eq_true hg53
   obtain ⟨r32, hr32, h⟩ := bind_some h
   refine DW.runN tok 1 ?_
   simp only [go_sem, qb, qe, qa, qd, t31]
   refine DW.call rfl rfl rfl (ev_value_right y18 r32 hr32 _) ?_
   refine DW.runN tok 2 ?_
   simp only [go_sem, qb, qa]
   refine DW.fin tok (by decide +kernel) rfl ?_
   simp only [ze, upd, qa, reduceIte, zl, zq]
   apply hK
   exact ⟨_, _, ⟨!r32, rfl, rfl, h⟩, (.t [0] false)⟩
 rintro _ _ ⟨x24, rfl, rfl, h⟩
 unfold zw.j25 at h
 refine zv (b := x24) rfl (fun hc26 => ?_) (fun hc26 => ?_)
 · rw [if_pos hc26] at h
   refine rg tok [2] fun K hK => ?_
   simp only [go_sem, qb, qa]
   apply hK
   refine zj ?_
   obtain rfl := Option.some.inj h
   exact yr
 rw [xD hc26] at h
 refine zh ?_
 apply hZ21
 refine rgE tok [3, 5, 9, 10, 11, 39, 40, 41] fun K hK => ?_
 simp only [go_sem, qb, qa, hw18]
 apply hK
 exact ⟨_, _, _, qu q18.length, ⟨p18 ++ [y18], q18, x16 + 1, rfl, rfl, rfl, hE'18, hi'18, h⟩, .s⟩
def yJ.body (xf : GTree → Option Bool) (zX : GTree → Option Bool) (a0 : GTree) : Option Bool :=
 (if a0.fKind = 1 then some (((decide (a0.fS = [])) && (decide ((qc a0.fEntries : Int) = 0))) && (decide ((qc a0.fRest : Int) = 0))) else (if a0.fKind = 2 then some (((decide (a0.fN = 0)) && (decide ((qc a0.fEntries : Int) = 0))) && (decide ((qc a0.fRest : Int) = 0))) else (if a0.fKind = 3 then (if ((decide (a0.fN = 0)) && (decide (a0.fS = []))) = true then (xf a0).bind fun r16 => some r16 else some false).bind fun c16 => (if c16 = true then (yv a0).bind fun r18 => some r18 else some false).bind fun c18 => some c18 else some false)))
theorem yJ.step (xf : GTree → Option Bool) (zX : GTree → Option Bool) (Zn : ∀ (a0 : GTree) (r : Bool), xf a0 = some r → ACalls qh 100 [.agg (cellsGTree a0)] [] (fun r' _ => r' = .bool r)) (ZM : ∀ (a0 : GTree) (r : Bool), zX a0 = some r → ACalls qh 72 [.agg (cellsGTree a0)] [] (fun r' _ => r' = .bool r)) (a0 : GTree) (r : Bool) (h : yJ.body xf zX a0 = some r) : ACalls qh 72 [.agg (cellsGTree a0)] [] (fun r' _ => r' = .bool r) := by
 have ev_value_entries := fun a0 r h σ => (Zn a0 r h).c σ
 have ev_value_right := fun a0 r h σ => (ZM a0 r h).c σ
 refine zn (rs := [.tmp 2]) tok Tryd.func72 rfl Tryd.ntmps72 rfl Tryd.call72 (by simp) ?_
 refine zt [(0, .agg (cellsGTree a0))] ⟨rfl, trivial⟩ ?_
 unfold yJ.body at h
 refine rg tok [1] fun K hK => ?_
 simp only [go_sem, qb, qa, qd, reduceCtorEq, cellsGTree]
 apply hK
 refine zd fun Z1 hZ1 => ?_
 refine rg tok [1, 4] fun K hK => ?_
 simp only [go_sem, qb, qa, qd]
 apply hK
 refine zk ?_
 refine rg tok [1, 4, 5] fun K hK => ?_
 simp only [go_sem, qb, qa]
 apply hK
 refine zI rfl (fun hc2 => ?_) (fun hc2 => ?_)
 · rw [if_pos hc2] at h
   have t3 := eq_true hc2
   refine rc [2] fun K hK => ?_
   refine zb tok 4 ?_
   simp only [go_sem, qb, qa, qd, t3]
   refine zo 5 (fun L τ => L = ([(1, .op 0 0 0), (15, .bool ((decide (a0.fS = [])) && (decide ((qc a0.fEntries : Int) = 0))))] : List (Nat × AV)) ∧ τ = ([.cells 0 (cellsGTree a0)] : Store)) ?_ ?_
   · refine yN 10 rfl (fun hg10 => ?_) (fun hg10 => ?_)
     · have t4 := eq_true hg10
       refine zb tok 5 ?_
       simp only [go_sem, qb, qa, qd]
       refine za ⟨rfl, _, _, ⟨rfl, rfl⟩, .p t4⟩
     have t5 := eq_false hg10
     refine zb tok 5 ?_
     simp only [go_sem, qb, qa]
     refine za ⟨rfl, _, _, ⟨rfl, rfl⟩, .p t5⟩
   rintro _ _ ⟨rfl, rfl⟩
   refine zb tok 1 ?_
   simp only [go_sem, qb, qa]
   refine zo 5 (fun L τ => L = ([(21, .bool (((decide (a0.fS = [])) && (decide ((qc a0.fEntries : Int) = 0))) && (decide ((qc a0.fRest : Int) = 0))))] : List (Nat × AV)) ∧ τ = ([.cells 0 (cellsGTree a0)] : Store)) ?_ ?_
   · refine zQ (b := ((decide (a0.fS = [])) && (decide ((qc a0.fEntries : Int) = 0)))) 16 rfl (fun hg16 => ?_) (fun hg16 => ?_)
     · refine zb tok 5 ?_
       simp only [go_sem, qb, qa, qd]
       refine za ⟨rfl, _, _, ⟨rfl, rfl⟩, .b hg16⟩
     refine zb tok 5 ?_
     simp only [go_sem, qb, qa]
     refine za ⟨rfl, _, _, ⟨rfl, rfl⟩, .b hg16⟩
   rintro _ _ ⟨rfl, rfl⟩
   refine zb tok 1 ?_
   simp only [go_sem, qb]
   refine za ?_
   simp only [ze, upd, qa, reduceIte, zl, zq]
   apply hK
   refine zj ?_
   obtain rfl := Option.some.inj h
   exact yr
 rw [if_neg hc2] at h
 have t6 := eq_false hc2
 refine rg tok [1, 4, 22] fun K hK => ?_
 simp only [go_sem, qb, qa, t6]
 apply hK
 refine zI rfl (fun hc7 => ?_) (fun hc7 => ?_)
 · rw [if_pos hc7] at h
   have t8 := eq_true hc7
   refine rc [2] fun K hK => ?_
   refine zb tok 4 ?_
   simp only [go_sem, qb, qa, qd, t8]
   refine zo 5 (fun L τ => L = ([(1, .op 0 0 0), (32, .bool ((decide (a0.fN = 0)) && (decide ((qc a0.fEntries : Int) = 0))))] : List (Nat × AV)) ∧ τ = ([.cells 0 (cellsGTree a0)] : Store)) ?_ ?_
   · refine yN 27 rfl (fun hg27 => ?_) (fun hg27 => ?_)
     · have t9 := eq_true hg27
       refine zb tok 5 ?_
       simp only [go_sem, qb, qa, qd]
       refine za ⟨rfl, _, _, ⟨rfl, rfl⟩, .p t9⟩
     have t10 := eq_false hg27
     refine zb tok 5 ?_
     simp only [go_sem, qb, qa]
     refine za ⟨rfl, _, _, ⟨rfl, rfl⟩, .p t10⟩
   rintro _ _ ⟨rfl, rfl⟩
   refine zb tok 1 ?_
   simp only [go_sem, qb, qa]
   refine zo 5 (fun L τ => L = ([(38, .bool (((decide (a0.fN = 0)) && (decide ((qc a0.fEntries : Int) = 0))) && (decide ((qc a0.fRest : Int) = 0))))] : List (Nat × AV)) ∧ τ = ([.cells 0 (cellsGTree a0)] : Store)) ?_ ?_
   · refine zQ (b := ((decide (a0.fN = 0)) && (decide ((qc a0.fEntries : Int) = 0)))) 33 rfl (fun hg33 => ?_) (fun hg33 => ?_)
     · refine zb tok 5 ?_
       simp only [go_sem, qb, qa, qd]
       refine za ⟨rfl, _, _, ⟨rfl, rfl⟩, .b hg33⟩
     refine zb tok 5 ?_
     simp only [go_sem, qb, qa]
     refine za ⟨rfl, _, _, ⟨rfl, rfl⟩, .b hg33⟩
   rintro _ _ ⟨rfl, rfl⟩
   refine zb tok 1 ?_
   simp only [go_sem, qb]
   refine za ?_
   simp only [ze, upd, qa, reduceIte, zl, zq]
   apply hK
   refine zj ?_
   obtain rfl := Option.some.inj h
   exact yr
 rw [if_neg hc7] at h
 have t11 := eq_false hc7
 refine rg tok [1, 39] fun K hK => ?_
 simp only [go_sem, qb, qa, t11]
 apply hK
 refine zI rfl (fun hc12 => ?_) (fun hc12 => ?_)
 · rw [if_pos hc12] at h
   have t13 := eq_true hc12
   refine rc [2] fun K hK => ?_
   refine zb tok 4 ?_
   simp only [go_sem, qb, qa, qd, t13]
   refine zo 4 (fun L τ => L = ([(1, .op 0 0 0), (48, .bool ((decide (a0.fN = 0)) && (decide (a0.fS = []))))] : List (Nat × AV)) ∧ τ = ([.cells 0 (cellsGTree a0)] : Store)) ?_ ?_
   · refine yN 44 rfl (fun hg44 => ?_) (fun hg44 => ?_)
     · have t14 := eq_true hg44
       refine zb tok 4 ?_
       simp only [go_sem, qb, qa, qd]
       refine za ⟨rfl, _, _, ⟨rfl, rfl⟩, .p t14⟩
     have t15 := eq_false hg44
     refine zb tok 4 ?_
     simp only [go_sem, qb, qa]
     refine za ⟨rfl, _, _, ⟨rfl, rfl⟩, .p t15⟩
   rintro _ _ ⟨rfl, rfl⟩
   refine zb tok 1 ?_
   simp only [go_sem, qb, qa]
   obtain ⟨c16, hc16, h⟩ := bind_some h
   refine zo 3 (fun L τ => L = ([(1, .op 0 0 0), (52, .bool c16)] : List (Nat × AV)) ∧ τ = ([.cells 0 (cellsGTree a0)] : Store)) ?_ ?_
   · refine zQ (b := ((decide (a0.fN = 0)) && (decide (a0.fS = [])))) 49 rfl (fun hg49 => ?_) (fun hg49 => ?_)
     · rw [if_pos hg49] at hc16
       obtain ⟨r17, hr17, hc16⟩ := bind_some hc16
       refine zb tok 1 ?_
       simp only [go_sem, qb, qe, qa, qd]
       refine zi rfl rfl rfl (ev_value_entries a0 r17 hr17 _) ?_
       rintro _ _ ⟨rfl, rfl⟩
       refine zb tok 1 ?_
       simp only [go_sem, qb, qa]
       obtain rfl := Option.some.inj hc16
       refine za ⟨rfl, _, _, ⟨rfl, rfl⟩, .b hg49⟩
     rw [xD hg49] at hc16
     refine zb tok 3 ?_
     simp only [go_sem, qb, qa]
     obtain rfl := Option.some.inj hc16
     refine za ⟨rfl, _, _, ⟨rfl, rfl⟩, .b hg49⟩
   rintro _ _ ⟨rfl, rfl⟩
   refine zb tok 1 ?_
   simp only [go_sem, qb, qa]
   obtain ⟨c18, hc18, h⟩ := bind_some h
   refine zo 3 (fun L τ => L = ([(56, .bool c18)] : List (Nat × AV)) ∧ τ = ([.cells 0 (cellsGTree a0)] : Store)) ?_ ?_
   · refine zQ (b := c16) 53 rfl (fun hg53 => ?_) (fun hg53 => ?_)
     · rw [if_pos hg53] at hc18
       obtain ⟨r19, hr19, hc18⟩ := bind_some hc18
       refine zb tok 1 ?_
       simp only [go_sem, qb, qe, qa, qd]
       refine zi rfl rfl rfl (yv.ev a0 r19 hr19 _) ?_
       rintro _ _ ⟨rfl, rfl⟩
       refine zb tok 1 ?_
       simp only [go_sem, qb, qa]
       obtain rfl := Option.some.inj hc18
       refine za ⟨rfl, _, _, ⟨rfl, rfl⟩, .b hg53⟩
     rw [xD hg53] at hc18
     refine zb tok 3 ?_
     simp only [go_sem, qb, qa]
     obtain rfl := Option.some.inj hc18
     refine za ⟨rfl, _, _, ⟨rfl, rfl⟩, .b hg53⟩
   rintro _ _ ⟨rfl, rfl⟩
   refine zb tok 1 ?_
   simp only [go_sem, qb]
   refine za ?_
   simp only [ze, upd, qa, reduceIte, zl, zq]
   apply hK
   refine zj ?_
   obtain rfl := Option.some.inj h
   exact yr
 rw [if_neg hc12] at h
 have t20 := eq_false hc12
 refine zh ?_
 apply hZ1
 refine rg tok [2] fun K hK => ?_
 simp only [go_sem, qb, qa, t20]
 apply hK
 refine zj ?_
 obtain rfl := Option.some.inj h
 exact yr
mutual
def zw : Nat → GTree → Option Bool
 | 0, _ => none
 | k + 1, a0 => zw.body (zw k) (yJ k) a0
def yJ : Nat → GTree → Option Bool
 | 0, _ => none
 | k + 1, a0 => yJ.body (zw k) (yJ k) a0
end
theorem zw.all (k : Nat) : (∀ (a0 : GTree) (r : Bool), zw k a0 = some r → ACalls qh 100 [.agg (cellsGTree a0)] [] (fun r' _ => r' = .bool r)) ∧ (∀ (a0 : GTree) (r : Bool), yJ k a0 = some r → ACalls qh 72 [.agg (cellsGTree a0)] [] (fun r' _ => r' = .bool r)) := by
 induction k with
 | zero => exact ⟨(fun a0 r h => by simp only [zw] at h; cases h), (fun a0 r h => by simp only [yJ] at h; cases h)⟩
 | succ k ih => exact ⟨(fun a0 r h => zw.step _ _ ih.1 ih.2 a0 r (by simpa only [zw] using h)), (fun a0 r h => yJ.step _ _ ih.1 ih.2 a0 r (by simpa only [yJ] using h))⟩
theorem yJ.ev (k : Nat) (a0 : GTree) (r : Bool) (h : yJ k a0 = some r) (σ : Store) : ACalls qh 72 [.agg (cellsGTree a0)] σ (fun r' σ' => r' = .bool r ∧ σ' = σ) :=
 ((zw.all k).2 a0 r h).c σ
def xX (a0 : GTree) : Option Bool :=
 (xW a0).bind fun r1 => (if r1 ≤ 10 then (yJ rounds a0).bind fun r2 => some r2 else some false).bind fun c2 => some c2
theorem xX.ok (a0 : GTree) (r : Bool) (h : xX a0 = some r) : ACalls qh 48 [.agg (cellsGTree a0)] [] (fun r' _ => r' = .bool r) := by
 refine zn (rs := [.tmp 2]) tok Tryd.func48 rfl Tryd.ntmps48 rfl Tryd.call48 (by simp) ?_
 refine zt [(0, .agg (cellsGTree a0))] ⟨rfl, trivial⟩ ?_
 unfold xX at h
 refine rg tok [1] fun K hK => ?_
 simp only [go_sem, qb, qa, qd, reduceCtorEq, cellsGTree]
 apply hK
 refine rc [2] fun K hK => ?_
 obtain ⟨r1, hr1, h⟩ := bind_some h
 refine zb tok 1 ?_
 simp only [go_sem, qb, qe, qd]
 refine zi rfl rfl rfl (xW.ev a0 r1 hr1 _) ?_
 rintro _ _ ⟨rfl, rfl⟩
 refine zb tok 2 ?_
 simp only [go_sem, qb, qa]
 obtain ⟨c2, hc2, h⟩ := bind_some h
 refine zo 3 (fun L τ => L = ([(9, .bool c2)] : List (Nat × AV)) ∧ τ = ([.cells 0 (cellsGTree a0)] : Store)) ?_ ?_
 · refine yN 6 rfl (fun hg6 => ?_) (fun hg6 => ?_)
   · have t3 := eq_true hg6
     rw [if_pos hg6] at hc2
     obtain ⟨r4, hr4, hc2⟩ := bind_some hc2
     refine zb tok 1 ?_
     simp only [go_sem, qb, qe, qa, qd]
     refine zi rfl rfl rfl (yJ.ev rounds a0 r4 hr4 _) ?_
     rintro _ _ ⟨rfl, rfl⟩
     refine zb tok 1 ?_
     simp only [go_sem, qb, qa]
     obtain rfl := Option.some.inj hc2
     refine za ⟨rfl, _, _, ⟨rfl, rfl⟩, .p t3⟩
   have t5 := eq_false hg6
   rw [if_neg hg6] at hc2
   refine zb tok 3 ?_
   simp only [go_sem, qb, qa]
   obtain rfl := Option.some.inj hc2
   refine za ⟨rfl, _, _, ⟨rfl, rfl⟩, .p t5⟩
 rintro _ _ ⟨rfl, rfl⟩
 refine zb tok 1 ?_
 simp only [go_sem, qb]
 refine za ?_
 simp only [ze, upd, qa, reduceIte, zl, zq]
 apply hK
 refine zj ?_
 obtain rfl := Option.some.inj h
 exact yr
theorem xX.ev (a0 : GTree) (r : Bool) (h : xX a0 = some r) (σ : Store) : ACalls qh 48 [.agg (cellsGTree a0)] σ (fun r' σ' => r' = .bool r ∧ σ' = σ) :=
 (xX.ok a0 r h).c σ
def Zl (a0 : Int) : GValueValue :=
 (GValueValue.num a0)
theorem Zl.ok (a0 : Int) (r : GValueValue) (h : Zl a0 = r) : ACalls qh 122 [.int .i64 a0] [] (fun r' _ => r' = .agg (encGValueValue r)) := by
 refine zn (rs := [.cell 2 127]) tok Tryd.func122 rfl Tryd.ntmps122 rfl Tryd.call122 (by simp) ?_
 refine zt [(0, .int .i64 a0)] ⟨rfl, trivial⟩ ?_
 unfold Zl at h
 refine rg tok [0, 2] fun K hK => ?_
 simp only [go_sem, qb, reduceCtorEq]
 apply hK
 refine rg tok [2] fun K hK => ?_
 simp only [go_sem, qb, qe, qa, reduceCtorEq]
 apply hK
 refine zj ?_
 obtain rfl := h
 exact yr
end
end Go.Proofs.YtaddlmlpeghonaaDoor
