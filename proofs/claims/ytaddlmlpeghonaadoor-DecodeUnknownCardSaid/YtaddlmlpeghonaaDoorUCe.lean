import Derived.Test.YtaddlmlpeghonaaDoorUCd
set_option maxRecDepth 8000
set_option maxHeartbeats 1000000
set_option linter.unusedSimpArgs false
set_option linter.unusedVariables false
namespace Go.Proofs.YtaddlmlpeghonaaDoor
open Nat renaming reduceLT → rL, reduceLeDiff → rD, reduceEqDiff → rE, reduceAdd → rA, reduceMul → rM, reduceSub → rS
open Go.RowKit AM
def decode_message.l (self_decode_one : GSchema → GType → GRaw → Int → Option (GTree × Int)) (a0 : GSchema) (a1 : GMessage) (a3 : Int) : List GRaw → List GEntry → List GRaw → Option (GTree × Int)
 | [], es, rest => (room es.length 32).bind fun _ => (decode_del a1 es).bind fun es' => (wire_Sorted rest).bind fun r => some ((⟨3, 0, [], es', r⟩ : GTree), 0)
 | r :: q, es, rest => bnd (check_Field a1 r.fTag) fun f => (if f.2 = true then (self_decode_one a0 f.1.fType r a3).bind fun x => (if x.2 = 0 then (decode_put es f.1 x.1).bind fun p => (if p.2 = true then decode_message.l self_decode_one a0 a1 a3 q p.1 rest else some ((⟨0, 0, [], [], []⟩ : GTree), 4)) else some ((⟨0, 0, [], [], []⟩ : GTree), x.2))
  else (room (rest.length + 1) 40).bind fun _ => decode_message.l self_decode_one a0 a1 a3 q es (rest ++ [r]))
def decode_message.body (self_decode_message : GSchema → GMessage → List UInt8 → Int → Option (GTree × Int)) (self_decode_one : GSchema → GType → GRaw → Int → Option (GTree × Int)) (a0 : GSchema) (a1 : GMessage) (a2 : List UInt8) (a3 : Int) : Option (GTree × Int) :=
 if 10 < a3 then some ((⟨0, 0, [], [], []⟩ : GTree), 10) else (wire_Get a2).bind fun g => if g.2 = 0 then decode_message.l self_decode_one a0 a1 a3 g.1 [] [] else some ((⟨0, 0, [], [], []⟩ : GTree), g.2)
structure Loop (τ : Store) (a0 : GSchema) (a1 : GMessage) (ever rver : Nat) (L : List Ent) (rest : List GRaw) : Prop where
 h0 : Store.at τ 0 0 = some (encGSchema a0)
 h1 : Store.at τ 1 0 = some (encGMessage a1)
 h2 : Store.at τ 2 0 = some [.int .i64 0, .int .i64 0, .str [], .ds true [] 0 true, .ds true [] 0 true]
 rep : Rep τ 3 4 ever L
 h5 : Store.at τ 5 rver = some (rest.flatMap encGRaw)
 ids : ∀ y ∈ L, 6 ≤ y.id
theorem Loop.app {τ : Store} {a0 : GSchema} {a1 : GMessage} {ever rver : Nat} {L : List Ent} {rest : List GRaw} (h : Loop τ a0 a1 ever rver L rest) (l : Store) : Loop (τ ++ l) a0 a1 ever rver L rest :=
 ⟨at_app h.h0 l, at_app h.h1 l, at_app h.h2 l, h.rep.app l, at_app h.h5 l, h.ids⟩
theorem tell_zero {σ : Store} {keep : List Nat} {e : Int} : tell σ keep true 12 (.tup [.agg [.int .i64 0, .int .i64 0, .str [], .ds true [] 0 true, .ds true [] 0 true], .int .i64 e]) = .tup [.agg (cellsGTree ⟨0, 0, [], [], []⟩), .int .i64 e] := by
 simp only [tell_tup, List.map_cons, List.map_nil, tell_agg, tell_int, tell_str, tell_ds]
 rfl
theorem decode_message.step (self_decode_message : GSchema → GMessage → List UInt8 → Int → Option (GTree × Int)) (self_decode_one : GSchema → GType → GRaw → Int → Option (GTree × Int))
 (ih_decode_one : ∀ (a0 : GSchema) (a1 : GType) (a2 : GRaw) (a3 : Int) (r : GTree × Int), self_decode_one a0 a1 a2 a3 = some r → ACalls Tryd.prog 57 [.agg (encGSchema a0), .agg (encGType a1), .agg (encGRaw a2), .int .i64 a3] [] (fun r' _ => r' = .tup [.agg (cellsGTree r.1), .int .i64 r.2]))
 (a0 : GSchema) (a1 : GMessage) (a2 : List UInt8) (a3 : Int) (r : GTree × Int) (h : decode_message.body self_decode_message self_decode_one a0 a1 a2 a3 = some r) :
 ACalls Tryd.prog 35 [.agg (encGSchema a0), .agg (encGMessage a1), .ds true (List.flatMap encB a2) (List.length a2) false, .int .i64 a3] [] (fun r' _ => r' = .tup [.agg (cellsGTree r.1), .int .i64 r.2]) := by
 have ev_one := fun a0 a1 a2 a3 r h σ => (ih_decode_one a0 a1 a2 a3 r h).pureAt (by simp only [AV.canon, canonL, canon_all, Bool.and_self, Bool.not_false, Bool.or_true, encGRaw, encGSchema, encGType]) (by simp only [AV.canon, canonL, canon_all, Bool.and_self, Bool.not_false, Bool.or_true, cellsGTree]) σ
 refine zl (rs := [.cell 8 42, .tmp 9]) tok Tryd.func35 rfl Tryd.ntmps35 rfl Tryd.call35 (by simp) ?_
 refine zm [(0, .agg (encGSchema a0)), (1, .agg (encGMessage a1)), (2, .ds true (List.flatMap encB a2) (List.length a2) false), (3, .int .i64 a3)] ⟨rfl, rfl, rfl, rfl, trivial⟩ ?_
 unfold decode_message.body at h
 refine rg tok [2, 3, 4, 5, 8, 9] fun K hK => ?_
 simp only [go_sem, rL, rE, rA, reduceCtorEq, encGSchema, encGMessage]
 refine hK _ _ ?_
 clear hK K
 refine ze fun Z hZ => ?_
 refine rg tok [2, 3, 4, 5, 8, 9, 21] fun K hK => ?_
 simp only [go_sem, rL, rE]
 refine hK _ _ ?_
 clear hK K
 refine awp_if rfl (fun hc => ?_) (fun hc => ?_)
 · rw [if_pos hc] at h
   obtain rfl := Option.some.inj h
   refine rg tok [8, 9] fun K hK => ?_
   simp only [go_sem, rL, rD, rE, rA]
   refine hK _ _ ?_
   clear hK K
   refine zi ?_
   simp only [retQ, resAll, resOne, resAV, exists_eq_left', go_sem, rD, rE, rA]
   exact tell_zero
 · rw [if_neg hc] at h
   obtain ⟨g, hg, h⟩ := bind_some h
   refine zh ?_
   refine hZ _ _ ?_
   clear hZ Z
   refine rc [3, 4, 5, 8, 9, 10, 11] fun K hK => ?_
   refine za tok 1 ?_
   simp only [go_sem, rL, rE]
   refine zf rfl rfl rfl (wire_Get.ev a2 g hg _) ?_
   rintro _ _ ⟨rfl, hσ⟩
   rw [hσ]; clear hσ
   refine za tok 5 ?_
   simp only [go_sem, rL, rE, rA]
   refine zb ?_
   simp only [zd, upd, rE, reduceIte, zk, fs_nil]
   refine hK _ _ ?_
   clear hK K
   refine ze fun Z hZ => ?_
   refine rg tok [3, 4, 5, 8, 9, 10, 11, 29] fun K hK => ?_
   simp only [go_sem, rL, rE]
   refine hK _ _ ?_
   clear hK K
   refine awp_if rfl (fun hc2 => ?_) (fun hc2 => ?_)
   · rw [if_neg hc2] at h
     obtain rfl := Option.some.inj h
     refine rg tok [8, 9] fun K hK => ?_
     simp only [go_sem, rL, rD, rE, rA]
     refine hK _ _ ?_
     clear hK K
     refine zi ?_
     simp only [retQ, resAll, resOne, resAV, exists_eq_left', go_sem, rD, rE, rA]
     exact tell_zero
   · rw [if_pos hc2] at h
     refine zh ?_
     refine hZ _ _ ?_
     clear hZ Z
     refine rg tok [3, 4, 5, 8, 9, 10, 12] fun K hK => ?_
     simp only [go_sem, rL, rD, rE, rA]
     refine hK _ _ ?_
     clear hK K
     refine awp_virtInS 3 3 2 rfl (by simp) rfl (L := [(3, .int .i64 a3), (4, .op 0 0 0), (5, .op 1 0 0), (8, .op 2 0 0), (9, .int .i64 0), (10, .ds true (List.flatMap encGRaw g.1) (List.length g.1) false), (12, .op 3 0 0)]) (.same ⟨rfl, rfl, rfl, rfl, rfl, rfl, rfl, trivial⟩ rfl) ?_
     refine rg tok [3, 4, 5, 8, 9, 10, 12, 13] fun K hK => ?_
     simp only [go_sem, rL, rE, rA]
     refine hK _ _ ?_
     clear hK K
     refine awp_virtS 13 4 rfl ?_
     refine awp_tellS (L := [(3, .int .i64 a3), (4, .op 0 0 0), (5, .op 1 0 0), (8, .op 2 0 0), (9, .int .i64 0), (10, .ds true (List.flatMap encGRaw g.1) (List.length g.1) false), (12, .op 3 0 0), (13, .os true 4 5 0 0 0 false)]) (.same ⟨rfl, rfl, rfl, rfl, rfl, rfl, rfl, rfl, trivial⟩ rfl) ?_
     refine ze fun Z hZ => ?_
     refine awp_deep 10 fun hb => ?_
     replace hb : List.length g.1 ≤ 9223372036854775807 := hb.1
     refine rg tok [3, 4, 5, 8, 9, 12, 13, 33, 34, 35] fun K hK => ?_
     simp only [go_sem, rL, rE]
     refine hK _ _ ?_
     clear hK K
     refine zj ?_
     refine zt (fun k F τ => ∃ (p q : List GRaw) (i : Int) (L : List Ent) (rest : List GRaw) (ever rver : Nat), k = q.length ∧ F = [(3, AV.int .i64 a3), (4, .op 0 0 0), (5, .op 1 0 0), (8, .op 2 0 0), (9, .int .i64 0), (12, .op 3 0 0), (13, .os true 4 5 rver 0 rest.length false), (33, .ds true (List.flatMap encGRaw g.1) (List.length g.1) false), (34, .int .i64 (List.length g.1 : Int)), (35, .int .i64 i)] ∧ Loop τ a0 a1 ever rver L rest ∧ g.1 = p ++ q ∧ i = (p.length : Int) ∧ decode_message.l self_decode_one a0 a1 a3 q (L.map Ent.val) rest = some r) g.1.length
      ⟨[], g.1, 0, [], [], 0, 0, rfl, rfl, ⟨rfl, rfl, rfl, ⟨rfl, rfl, fun _ h => (by cases h), by simp⟩, rfl, fun _ h => (by cases h)⟩, rfl, rfl, h⟩ (.same ⟨rfl, rfl, rfl, rfl, rfl, rfl, rfl, rfl, rfl, rfl, trivial⟩ rfl) ?_
     clear h
     rintro k _ τ ⟨p, q, i, L, rest, ever, rver, rfl, rfl, hL, hE, hi, h⟩
     refine rg tok [3, 4, 5, 8, 9, 12, 13, 33, 34, 35, 36] fun K hK => ?_
     simp only [go_sem, rL, rE]
     refine hK _ _ ?_
     clear hK K
     refine ze fun Y hY => ?_
     rcases q with _ | ⟨y, q⟩
     · have hz := zip_nil hE hi
       refine awp_if rfl (fun hc => absurd hc (by rw [hz]; exact id)) (fun _ => ?_)
       refine zx ?_
       simp only [zd, go_sem]
       simp only [decode_message.l] at h
       obtain ⟨u, hu, h⟩ := bind_some h
       have hrm := of_eq_true (room_some hu)
       obtain ⟨es', hes, h⟩ := bind_some h
       obtain ⟨rr, hrr, h⟩ := bind_some h
       obtain rfl := Option.some.inj h
       have hid : ∀ y ∈ L, idxOf [2, 3, 4] y.id 0 = none := by
        intro y hy
        have := hL.ids y hy
        simp only [idxOf_cons, idxOf_nil]
        rw [if_neg (by omega), if_neg (by omega), if_neg (by omega)]
       have hget : ∀ {j v : Nat} {cs : List AV}, Store.at τ j v = some cs → τ.getD j .dead = .cells v cs := by
        intro j v cs hj
        rw [List.getD_eq_getElem?_getD, Store.at_some hj]; rfl
       have hl4 : (rest.flatMap encGRaw).length = rest.length * 4 := zo E22.len rest
       have hcells := hL.rep.toldC [2, 3, 4] false 10 hid
       have htS : tellS τ [2, 3, 4] false 12 = [.cells 0 [.int .i64 0, .int .i64 0, .str [], .ds true [] 0 true, .ds true [] 0 true], .cells 0 [.int .i64 3, .int .i64 0, .str [], .os true 2 2 ever 0 (L.map Ent.val).length false, .ds true [] 0 true], .cells ever ((L.map Ent.val).flatMap encGEntry)] := by
        simp only [tellS, List.map_cons, List.map_nil, hget hL.h2, hget hL.rep.t, hget hL.rep.e, tellObj, tell_int, tell_str, tell_ds, tell_os, idxOf_cons, idxOf_nil, rE, if_true, if_false, hcells, List.length_map, Bool.or_false, Bool.not_false, Bool.and_true, rA]
       have hrest : tell τ [2, 3, 4] false 12 (.os true 4 5 rver 0 rest.length false) = .ds true (rest.flatMap encGRaw) rest.length false := by
        simp only [tell_os, idxOf_cons, idxOf_nil, rE, if_false, hL.h5]
        rw [if_pos (by rw [hl4]; omega), List.drop_zero, ← hl4, List.take_length, zv]
       have hmsg : tell τ [2, 3, 4] false 12 (.op 1 0 0) = .dp (encGMessage a1) 0 := by
        simp only [tell_op, idxOf_cons, idxOf_nil, rE, if_false, hL.h1, encGMessage, List.map_cons, List.map_nil, tell_str, tell_ds, zv, Bool.or_false, Bool.not_false, Bool.and_true]
       have hk3 : [2, 3, 4].Nodup := by decide
       have hlt5 := Store.at_lt hL.h5
       refine hZ _ _ ?_
       refine awp_tellS (L := [(5, .dp (encGMessage a1) 0), (8, .op 0 0 0), (12, .op 1 0 0), (13, .ds true (rest.flatMap encGRaw) rest.length false)]) (.told [2, 3, 4] false hk3 (by intro id hid'; simp at hid'; omega) rfl htS ⟨hmsg, rfl, rfl, hrest, trivial⟩) ?_
       refine rc [8, 12, 13] fun K hK => ?_
       refine za tok 3 ?_
       simp only [go_sem, rL, rE, rA, List.length_map]
       have hdel := DeleteFunc_at (σ := [.cells 0 [.int .i64 0, .int .i64 0, .str [], .ds true [] 0 true, .ds true [] 0 true], .cells 0 [.int .i64 3, .int .i64 0, .str [], .os true 2 2 ever 0 L.length false, .ds true [] 0 true], .cells ever ((L.map Ent.val).flatMap encGEntry)]) (id := 2) (ver := ever) (nl := true) a1 (by simp only [Store.at_hd, Store.at_tl, if_true]) hes (by omega)
       rw [List.length_map] at hdel
       refine zf rfl rfl rfl hdel ?_
       rintro _ _ ⟨cs, g', rfl, rfl⟩
       refine za tok 2 ?_
       simp only [go_sem, rL, rD, rE, rA, List.cons_append, List.nil_append, List.set_cons_succ, List.set_cons_zero]
       refine zb ?_
       simp only [zd, upd, rE, reduceIte, zk, fs_nil]
       refine hK _ _ ?_
       clear hK K
       refine rc [8, 12] fun K hK => ?_
       refine za tok 1 ?_
       simp only [go_sem, rL, rE]
       refine zf rfl rfl rfl (wire_Sorted.ev rest rr hrr _) ?_
       rintro _ _ ⟨rfl, hσ⟩
       rw [hσ]; clear hσ
       refine za tok 2 ?_
       simp only [go_sem, rL, rD, rE, rA, List.set_cons_succ, List.set_cons_zero]
       refine zb ?_
       simp only [zd, upd, rE, reduceIte, zk, fs_nil]
       refine hK _ _ ?_
       clear hK K
       refine rg tok [8, 9] fun K hK => ?_
       simp only [go_sem, rL, rD, rE, rA, List.set_cons_succ, List.set_cons_zero]
       refine hK _ _ ?_
       clear hK K
       refine zi ?_
       simp only [retQ, resAll, resOne, resAV, exists_eq_left', go_sem, rD, rE, rA]
       have hle : (es'.flatMap encGEntry).length = es'.length * 2 := zo E40.len es'
       simp only [tell_tup, List.map_cons, List.map_nil, tell_agg, tell_int, tell_str, tell_ds, tell_os, idxOf_nil, Store.at_hd, Store.at_tl, if_true, zv, cellsGTree, GTree.fKind, GTree.fN, GTree.fS, GTree.fEntries, GTree.fRest]
       rw [if_pos (by rw [List.length_append, hle]; omega), List.drop_zero, ← hle, List.take_left, zv]
       rfl
     · obtain ⟨hz, hw, hx, hE', hi'⟩ := zip_cons hE hi hb
       refine awp_if rfl (fun _ => ?_) (fun hc => absurd (of_eq_true hz) hc)
       refine zh ?_
       refine hY _ _ ?_
       clear hY Y
       refine ze fun X hX => ?_
       have fin : ∀ (F : Fr) (τ' : Store) (L' : List Ent) (rest' : List GRaw) (ever' rver' : Nat), Fits F [(3, AV.int .i64 a3), (4, .op 0 0 0), (5, .op 1 0 0), (8, .op 2 0 0), (9, .int .i64 0), (12, .op 3 0 0), (13, .os true 4 5 rver' 0 rest'.length false), (33, .ds true (List.flatMap encGRaw g.1) (List.length g.1) false), (34, .int .i64 (List.length g.1 : Int)), (35, .int .i64 i)] → Loop τ' a0 a1 ever' rver' L' rest' → decode_message.l self_decode_one a0 a1 a3 q (L'.map Ent.val) rest' = some r → X F τ' := by
        intro F τ' L' rest' ever' rver' hF hL' h'
        refine hX _ _ (awp_tellS (.same hF rfl) ?_)
        refine rgE tok [3, 4, 5, 8, 9, 12, 13, 33, 34, 35] fun K hK => ?_
        simp only [go_sem, rL, rE, hw]
        refine hK _ _ ?_
        clear hK K
        simp only [zd]
        exact ⟨q.length, _, _, by simp, ⟨p ++ [y], q, i + 1, L', rest', ever', rver', rfl, rfl, hL', hE', hi', h'⟩, .same ⟨rfl, rfl, rfl, rfl, rfl, rfl, rfl, rfl, rfl, rfl, trivial⟩ rfl⟩
       clear hX
       refine zj ?_
       have hix := E22.idxS hx
       have hld := E22.loadS rfl rfl hx
       have hae : ∀ (τ : Store) cs, Store.at (τ ++ [.cells 0 cs]) τ.length 0 = some cs := fun τ cs => at_end τ cs []
       have hse : ∀ (τ : Store) cs cs', (τ ++ [AObj.cells 0 cs]).set τ.length (.cells 0 cs') = τ ++ [.cells 0 cs'] := fun τ cs cs' => set_mid τ _ _ []
       refine rg tok [3, 4, 5, 8, 9, 12, 13, 15, 33, 34, 35] fun K hK => ?_
       simp only [go_sem, rL, rD, rE, rA, hix, hld, encGRaw, hae, hse, List.length_cons, List.length_nil, List.set_cons_zero, List.set_cons_succ]
       refine hK _ _ ?_
       clear hK K
       simp only [decode_message.l] at h
       obtain ⟨f, hf, h⟩ := bnd_elim h
       have hL1 := hL.app [.cells 0 [.int .i64 y.fTag, .int .i64 y.fWire, .int .i64 y.fN, .str y.fB]]
       have hr1 := at_end τ [.int .i64 y.fTag, .int .i64 y.fWire, .int .i64 y.fN, .str y.fB] []
       generalize τ.length = k1 at *
       generalize τ ++ [.cells 0 [.int .i64 y.fTag, .int .i64 y.fWire, .int .i64 y.fN, .str y.fB]] = τ1 at *
       have hm1 := hL1.h1
       have hs1 := hL1.h0
       simp only [encGMessage] at hm1
       simp only [encGSchema] at hs1
       refine rc [3, 4, 5, 8, 9, 12, 13, 15, 16, 17, 33, 34, 35] fun K hK => ?_
       refine za tok 3 ?_
       simp only [go_sem, rL, rD, rE, rA, hm1, hr1, List.length_cons, List.length_nil]
       refine zf rfl rfl rfl (check_Field.ev a1 y.fTag f hf _) ?_
       rintro _ _ ⟨rfl, hσ⟩
       rw [hσ]; clear hσ
       refine za tok 6 ?_
       simp only [go_sem, rL, rD, rE, rA, encGField, hae, hse, List.length_cons, List.length_nil, List.set_cons_zero, List.set_cons_succ]
       refine zb ?_
       simp only [zd, upd, rE, reduceIte, zk, fs_nil]
       refine hK _ _ ?_
       clear hK K
       have hL2 := hL1.app [.cells 0 [.str f.1.fName, .int .i64 f.1.fTag, .int .i64 f.1.fLabel, .int .i64 f.1.fType.fKind, .str f.1.fType.fName]]
       have hr2 := at_app hr1 [.cells 0 [.str f.1.fName, .int .i64 f.1.fTag, .int .i64 f.1.fLabel, .int .i64 f.1.fType.fKind, .str f.1.fType.fName]]
       have hm2 := at_app hs1 [.cells 0 [.str f.1.fName, .int .i64 f.1.fTag, .int .i64 f.1.fLabel, .int .i64 f.1.fType.fKind, .str f.1.fType.fName]]
       have hf2 := at_end τ1 [.str f.1.fName, .int .i64 f.1.fTag, .int .i64 f.1.fLabel, .int .i64 f.1.fType.fKind, .str f.1.fType.fName] []
       clear hm1 hs1 hr1
       generalize τ1.length = k2 at *
       generalize τ1 ++ [.cells 0 [.str f.1.fName, .int .i64 f.1.fTag, .int .i64 f.1.fLabel, .int .i64 f.1.fType.fKind, .str f.1.fType.fName]] = τ2 at *
       refine ze fun Y hY => ?_
       refine rg tok [3, 4, 5, 8, 9, 12, 13, 15, 16, 17, 33, 34, 35, 47] fun K hK => ?_
       simp only [go_sem, rL, rE]
       refine hK _ _ ?_
       clear hK K
       have hb2 : ∀ (b : Bool), (!b) = true → b = false := by decide
       refine zw (b := !f.2) rfl (fun hc3 => ?_) (fun hc3 => ?_)
       · have hc4 : f.2 = false := by simpa using hc3
         rw [if_F hc4] at h
         obtain ⟨u, hu, h⟩ := bind_some h
         have hrm := room_some hu
         have hL5 := hL2.h5
         have hl4 : (rest.flatMap encGRaw).length = rest.length * 4 := zo E22.len rest
         refine rg tok [3, 4, 5, 8, 9, 12, 13, 33, 34, 35] fun K hK => ?_
         have hlit := at_end τ2 [.int .i64 y.fTag, .int .i64 y.fWire, .int .i64 y.fN, .str y.fB] []
         have hat5 := at_app hL5 [.cells 0 [.int .i64 y.fTag, .int .i64 y.fWire, .int .i64 y.fN, .str y.fB]]
         have hap : evAppend tab 22 22 (.os true 4 5 rver 0 rest.length false) (.os true 4 τ2.length 0 0 1 true) (τ2 ++ [.cells 0 [.int .i64 y.fTag, .int .i64 y.fWire, .int .i64 y.fN, .str y.fB]]) =
          some (.os true 4 5 (rver + 1) 0 (rest.length + 1) false, List.set (τ2 ++ [.cells 0 [.int .i64 y.fTag, .int .i64 y.fWire, .int .i64 y.fN, .str y.fB]]) 5 (.cells (rver + 1) (rest.flatMap encGRaw ++ [.int .i64 y.fTag, .int .i64 y.fWire, .int .i64 y.fN, .str y.fB]))) := by
          have e1 : srcCells (τ2 ++ [.cells 0 [.int .i64 y.fTag, .int .i64 y.fWire, .int .i64 y.fN, .str y.fB]]) 4 (.os true 4 τ2.length 0 0 1 true) = some (1, [.int .i64 y.fTag, .int .i64 y.fWire, .int .i64 y.fN, .str y.fB]) := by
           simp only [srcCells, hlit]; simp
          simp only [evAppend, tab_22, tab_33, e1, lenOfAV, evAppendTo, hat5, hl4, hrm]
          simp [AV.one]
         simp only [go_sem, rL, rD, rE, rA, rM, hr2, evBuildSlice, zeroRun, List.range_succ, List.range_zero, true_and, Nat.reduceMod, List.length_cons, List.length_nil, hap]
         refine hK _ _ ?_
         clear hK K
         refine zx ?_
         simp only [go_sem, reduceCtorEq]
         have hLs : Loop (List.set (τ2 ++ [.cells 0 [.int .i64 y.fTag, .int .i64 y.fWire, .int .i64 y.fN, .str y.fB]]) 5 (.cells (rver + 1) (rest.flatMap encGRaw ++ [.int .i64 y.fTag, .int .i64 y.fWire, .int .i64 y.fN, .str y.fB]))) a0 a1 ever (rver + 1) L (rest ++ [y]) := by
          have hL3 := hL2.app [.cells 0 [.int .i64 y.fTag, .int .i64 y.fWire, .int .i64 y.fN, .str y.fB]]
          refine ⟨at_set_ne hL3.h0 (by decide) _, at_set_ne hL3.h1 (by decide) _, at_set_ne hL3.h2 (by decide) _, hL3.rep.set_ne (fun hm => ?_) _, ?_, hL3.ids⟩
          · simp only [List.mem_cons, List.mem_map] at hm
            rcases hm with h | h | ⟨z, hz, h⟩
            · cases h
            · cases h
            · have := hL3.ids z hz; omega
          · rw [Store.at_set hL3.h5, List.flatMap_append]
            simp [encGRaw]
         exact fin _ _ L (rest ++ [y]) ever (rver + 1) ⟨rfl, rfl, rfl, rfl, rfl, rfl, by rw [List.length_append]; rfl, rfl, rfl, rfl, trivial⟩ hLs h
       · have hc4 : f.2 = true := by simpa using hc3
         rw [if_pos hc4] at h
         refine zh ?_
         refine hY _ _ ?_
         clear hY Y
         obtain ⟨x, hx1, h⟩ := bind_some h
         have hty : AV.agg (encGType f.1.fType) = .agg [.int .i64 f.1.fType.fKind, .str f.1.fType.fName] := rfl
         refine rc [3, 4, 5, 8, 9, 12, 13, 16, 18, 19, 33, 34, 35] fun K hK => ?_
         refine za tok 5 ?_
         simp only [go_sem, rL, rD, rE, rA, hm2, hr2, hf2, List.length_cons, List.length_nil, List.drop_succ_cons, List.drop_zero, List.take_succ_cons, List.take_zero]
         refine zf rfl rfl rfl (ev_one a0 f.1.fType y a3 x hx1 _) ?_
         rintro _ _ ⟨rfl, hσ⟩
         rw [hσ]; clear hσ
         refine za tok 6 ?_
         simp only [go_sem, rL, rD, rE, rA, cellsGTree, hae, hse, List.length_cons, List.length_nil, List.set_cons_zero, List.set_cons_succ]
         refine zb ?_
         simp only [zd, upd, rE, reduceIte, zk, fs_nil]
         refine hK _ _ ?_
         clear hK K hr2 hm2
         obtain ⟨xc, hxc⟩ : ∃ xc, xc = [AV.int .i64 x.1.fKind, .int .i64 x.1.fN, .str x.1.fS, .ds true (List.flatMap encGEntry x.1.fEntries) x.1.fEntries.length false, .ds true (List.flatMap encGRaw x.1.fRest) x.1.fRest.length false] := ⟨_, rfl⟩
         rw [← hxc]
         have hL3 := hL2.app [.cells 0 xc]
         have hf3 := at_app hf2 [.cells 0 xc]
         have hx3 := at_end τ2 xc []
         clear hf2 hL2
         generalize τ2.length = k3 at *
         generalize τ2 ++ [.cells 0 xc] = τ3 at *
         subst hxc
         refine ze fun Y hY => ?_
         refine rg tok [3, 4, 5, 8, 9, 12, 13, 16, 18, 19, 33, 34, 35, 62] fun K hK => ?_
         simp only [go_sem, rL, rE]
         refine hK _ _ ?_
         clear hK K
         have h23 := hL3.h2
         have h24 := Store.at_set (ver' := 0) (cs' := [.int .i64 0, .int .i64 0, .str [], .ds true [] 0 true, .ds true [] 0 true]) h23
         refine awp_if rfl (fun hc5 => ?_) (fun hc5 => ?_)
         · rw [if_neg hc5] at h
           obtain rfl := Option.some.inj h
           refine rg tok [8, 9] fun K hK => ?_
           simp only [go_sem, rL, rD, rE, rA, h23, List.length_cons, List.length_nil, List.set_cons_zero, List.set_cons_succ]
           refine hK _ _ ?_
           clear hK K
           refine zi ?_
           simp only [blockQ, retQ, resAll, resOne, resAV, exists_eq_left', go_sem, rD, rE, rA, h24, List.length_cons, List.length_nil]
           exact tell_zero
         · rw [if_pos hc5] at h
           obtain ⟨pp, hp, h⟩ := bind_some h
           refine zh ?_
           refine hY _ _ ?_
           clear hY Y
           refine rc [3, 4, 5, 8, 9, 12, 13, 33, 34, 35, 68] fun K hK => ?_
           refine za tok 2 ?_
           simp only [go_sem, rL, rD, rE, rA, hf3, hx3, List.length_cons, List.length_nil]
           refine zf rfl rfl rfl (put_at hL3.rep f.1 x.1 (es' := pp.1) (b := pp.2) hp) ?_
           rintro _ τ4 ⟨ever', L', rfl, hR4, he4, hid4, hle4, hfr4⟩
           refine za tok 1 ?_
           simp only [go_sem, rL, rE]
           refine zb ?_
           simp only [zd, upd, rE, reduceIte, zk, fs_nil]
           refine hK _ _ ?_
           clear hK K
           have hkeep : ∀ {j v : Nat} {cs : List AV}, Store.at τ3 j v = some cs → j < 6 → j ≠ 3 → j ≠ 4 → Store.at τ4 j v = some cs := by
            intro j v cs hj h6 h3 h4
            have hlt := Store.at_lt hj
            unfold Store.at at hj ⊢
            rw [hfr4 j hlt (fun hm => ?_)]
            · exact hj
            · simp only [List.mem_cons, List.mem_map] at hm
              rcases hm with h | h | ⟨z, hz, h⟩
              · exact h3 h
              · exact h4 h
              · have := hL3.ids z hz; omega
           have h45 : 6 ≤ τ3.length := by
            have := Store.at_lt hL3.h5; omega
           have hL4 : Loop τ4 a0 a1 ever' rver L' rest := by
            refine ⟨hkeep hL3.h0 (by decide) (by decide) (by decide), hkeep hL3.h1 (by decide) (by decide) (by decide), hkeep hL3.h2 (by decide) (by decide) (by decide), hR4, hkeep hL3.h5 (by decide) (by decide) (by decide), fun z hz => ?_⟩
            rcases hid4 z hz with h | h
            · obtain ⟨w, hw, h'⟩ := List.mem_map.1 h
              have := hL3.ids w hw; omega
            · omega
           have h43 := hL4.h2
           have h44 := Store.at_set (ver' := 0) (cs' := [.int .i64 0, .int .i64 0, .str [], .ds true [] 0 true, .ds true [] 0 true]) h43
           refine zw (b := !pp.2) rfl (fun hc6 => ?_) (fun hc6 => ?_)
           · have hc7 : pp.2 = false := by simpa using hc6
             rw [if_F hc7] at h
             obtain rfl := Option.some.inj h
             refine rg tok [8, 9] fun K hK => ?_
             simp only [go_sem, rL, rD, rE, rA, h43, List.length_cons, List.length_nil, List.set_cons_zero, List.set_cons_succ]
             refine hK _ _ ?_
             clear hK K
             refine zi ?_
             simp only [blockQ, retQ, resAll, resOne, resAV, exists_eq_left', go_sem, rD, rE, rA, h44, List.length_cons, List.length_nil]
             exact tell_zero
           · have hc7 : pp.2 = true := by simpa using hc6
             rw [if_pos hc7] at h
             refine zh ?_
             simp only [blockQ_normal, zd]
             exact fin _ _ L' rest ever' rver ⟨rfl, rfl, rfl, rfl, rfl, rfl, rfl, rfl, rfl, rfl, trivial⟩ hL4 (by rw [he4]; exact h)
end Go.Proofs.YtaddlmlpeghonaaDoor
