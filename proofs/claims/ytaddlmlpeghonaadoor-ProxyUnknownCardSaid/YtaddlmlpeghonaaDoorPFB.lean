/- Parts of the proof, cut down to what it needs. -/
import Derived.Test.YtaddlmlpeghonaaDoorPCc
set_option linter.constructorNameAsVariable false
set_option linter.unusedSimpArgs false
set_option linter.unusedVariables false
open List renaming length → lN, flatMap → fM, length_append → lP, length_cons → lC, length_nil → lZ, mem_cons_of_mem → mO, mem_cons_self → mS, append_assoc → aA, getD_eq_getElem?_getD → gG, append_nil → aN, map_nil → mN, map_cons → mC, nil_append → nA, flatMap_append → fA, flatMap_nil → fZ, flatMap_cons → fC, mem_append → mA, cons_append → cA, pairwise_cons → pC, length_map → lM, drop_zero → dZ, getElem?_append_right → gR, getElem?_append_left → gL, map_append → mP, length_eq_zero_iff → lI, mem_cons → mI
open Option renaming bind_some → bS, some.injEq → sI
open Nat renaming reduceLT → rL, reduceLeDiff → rD, reduceEqDiff → rE, reduceAdd → rA, reduceMul → rM, reduceSub → rS, zero_add → nZ, le_refl → nR, lt_succ_self → nS
section
set_option maxRecDepth 8000
set_option maxHeartbeats 1000000
namespace Go.Proofs.YtaddlmlpeghonaaDoor
open Go.RowKit AM
def zu1 (m : GMessage) : List GEntry → Option (List GEntry)
 | [] => some []
 | e :: l => (decode_message_1 e m).bind fun b => (zu1 m l).bind fun l' => some (if b = true then l' else e :: l')
theorem idx_del (m : GMessage) : ∀ (es : List GEntry) (x : Int) (es' : List GEntry), zu1 m es = some es' →
 ∃ r, slices_IndexFunc_Entry_decode_message_1.l4 m es x = some r ∧ ((r = -1 ∧ es' = es) ∨ ∃ pre e post post', es = pre ++ e :: post ∧ r = x + pre.length ∧ zu1 m post = some post' ∧ es' = pre ++ post') := by
 intro es
 induction es with
 | nil => intro x es' h; cases h; exact ⟨-1, rfl, .inl ⟨rfl, rfl⟩⟩
 | cons e l ih =>
  intro x es' h
  simp only [zu1] at h
  obtain ⟨b, hb, h⟩ := bind_some h
  obtain ⟨l', hl, h⟩ := bind_some h
  obtain rfl := Option.some.inj h
  simp only [slices_IndexFunc_Entry_decode_message_1.l4, hb, bS]
  cases b with
  | true => exact ⟨x, rfl, .inr ⟨[], e, l, l', rfl, by simp, hl, rfl⟩⟩
  | false =>
   obtain ⟨r, h1, h2⟩ := ih (x + 1) l' hl
   refine ⟨r, h1, ?_⟩
   rcases h2 with ⟨rfl, rfl⟩ | ⟨pre, e2, post, post', rfl, rfl, h3, rfl⟩
   · exact .inl ⟨rfl, rfl⟩
   · exact .inr ⟨e :: pre, e2, post, post', rfl, by simp; omega, h3, rfl⟩
theorem tell_fn {σ : Store} {keep : List Nat} {ls : Bool} {f : Nat} {g : Fn} {a b : List AV} : tell σ keep ls (f + 1) (.fn g a b) = .fn g (a.map (tell σ keep ls f)) (b.map (tell σ keep ls f)) := rfl
theorem tell_msg {σ : Store} {keep : List Nat} {f : Nat} {g : Fn} {m : GMessage} : tell σ keep true (f + 1 + 1 + 1) (.fn g [] [.dp (encGMessage m) 0]) = .fn g [] [.dp (encGMessage m) 0] := by
 simp only [tell_fn, mN, mC, tell_dp, encGMessage, zA3, zU2, zy, Bool.or_true, Bool.not_true, Bool.and_false]
theorem zeroRun_one (n : Nat) : (zG [AV.int .i64 0, .ds true [] 0 true] n).all AV.one = true := by
 rw [List.all_eq_true]
 intro x hx
 obtain ⟨k, _, rfl⟩ := List.mem_map.1 hx
 have : k % 2 = 0 ∨ k % 2 = 1 := by omega
 rcases this with h | h <;> simp [h, AV.one, gc]
theorem DeleteFunc_at {σ : Store} {id ver : Nat} {nl : Bool} {es es' : List GEntry} (m : GMessage) (hcs : Store.at σ id ver = some (es.flatMap encGEntry)) (h : zu1 m es = some es') (hB : es.length ≤ 1000000000000000) :
 ACalls Tryd.prog 59 [.os nl 2 id ver 0 es.length false, .fn (.func 60) [] [.dp (encGMessage m) 0]] σ (fun r σ' => ∃ cs g, r = .os nl 2 id ver 0 es'.length false ∧ σ' = List.set σ id (.cells ver (es'.flatMap encGEntry ++ cs)) ++ g) := by
 obtain ⟨r, hr, hcase⟩ := idx_del m es 0 es' h
 refine zQ1 (rs := [.tmp 4]) tok Tryd.func59 rfl Tryd.ntmps59 rfl Tryd.call59 (by simp) ?_
 refine zo [(0, .os nl 2 id ver 0 es.length false), (1, .fn (.func 60) [] [.dp (encGMessage m) 0])] ⟨rfl, rfl, trivial⟩ ?_
 refine rg tok [0, 1] fun K hK => ?_
 simp only [go_sem, rL, rE, reduceCtorEq]
 refine hK _ _ ?_
 clear hK K
 have htold : tell σ [] true 12 (.os nl 2 id ver 0 es.length false) = .ds true (es.flatMap encGEntry) es.length false := by
  have hl : (es.flatMap encGEntry).length = es.length * 2 := zr E40.len es
  simp only [zT1, zC1, hcs]
  rw [if_pos (by rw [hl]; omega), dZ, ← hl, List.take_length, zy]
 refine rc [0, 1, 5] fun K hK => ?_
 refine za tok 2 ?_
 simp only [go_sem, rL, rE, reduceCtorEq]
 refine zh rfl rfl rfl ((slices_IndexFunc_Entry_decode_message_1.ok es m r hr).lend rfl true 12 (by simp only [mC, mN, go_sem, rE, reduceCtorEq, htold, tell_msg])) ?_
 rintro _ _ ⟨rfl, hσ⟩
 rw [hσ]; clear hσ
 refine za tok 1 ?_
 simp only [go_sem, rL, rE, reduceCtorEq]
 refine zb ?_
 simp only [zd, upd, rE, reduceIte, zl, zn]
 refine hK _ _ ?_
 clear hK K
 refine ze fun Z hZ => ?_
 refine rg tok [0, 1, 5, 12] fun K hK => ?_
 simp only [go_sem, rL, rE, reduceCtorEq]
 refine hK _ _ ?_
 clear hK K
 refine zA rfl (fun hc => ?_) (fun hc => ?_)
 · have he : es' = es := by
    rcases hcase with ⟨_, h⟩ | ⟨pre, e, post, post', _, h2, _⟩
    · exact h
    · omega
   subst he
   refine rg tok [4] fun K hK => ?_
   simp only [go_sem, rL, rE, reduceCtorEq]
   refine hK _ _ ?_
   clear hK K
   refine zj ?_
   simp only [retQ, zS, zT, zi1, exists_eq_left', go_sem]
   exact ⟨[], [], by rw [aN, aN, Store.set_at hcs]⟩
 · obtain ⟨pre, e, post, post', he, h2, h3, h4⟩ : ∃ pre e post post', es = pre ++ e :: post ∧ r = 0 + (pre.length : Int) ∧ zu1 m post = some post' ∧ es' = pre ++ post' := by
    rcases hcase with ⟨h, _⟩ | h
    · exact absurd h hc
    · exact h
   rw [Int.zero_add] at h2
   subst h2
   have hl0 : es.length = pre.length + (post.length + 1) := by rw [he]; simp
   refine zi ?_
   refine hZ _ _ ?_
   clear hZ Z
   have hw1 : IntKind.i64.wrap ((pre.length : Int) + 1) = (pre.length : Int) + 1 := by rw [IntKind.wrap_i64]; omega
   refine ze fun Z hZ => ?_
   refine rg tok [0, 1, 5, 6] fun K hK => ?_
   simp only [go_sem, rL, rE, reduceCtorEq, hw1]
   refine hK _ _ ?_
   clear hK K
   refine zk ?_
   refine zw (fun k F τ => ∃ (cur kept rest rest' : List GEntry) (j : Nat) (g : Store), k = rest.length ∧ F = [(0, AV.os nl 2 id ver 0 es.length false), (1, .fn (.func 60) [] [.dp (encGMessage m) 0]), (5, .int .i64 (kept.length : Int)), (6, .int .i64 (j : Int))] ∧
    τ = List.set σ id (.cells ver (cur.flatMap encGEntry)) ++ g ∧ cur.length = es.length ∧ cur.take kept.length = kept ∧ cur.drop j = rest ∧ j + rest.length = es.length ∧ kept.length < j ∧ zu1 m rest = some rest' ∧ es' = kept ++ rest') post.length
    ⟨es, pre, post, post', pre.length + 1, [], rfl, rfl, by rw [Store.set_at hcs, aN], rfl, by rw [he, List.take_left], by rw [he, ← List.drop_drop, List.drop_left]; rfl, by omega, by omega, h3, h4⟩ (.same ⟨rfl, rfl, rfl, rfl, trivial⟩ rfl) ?_
   rintro k _ _ ⟨cur, kept, rest, rest', j, g, rfl, rfl, rfl, c1, c2, c3, c4, c5, c6, c7⟩
   have hat : Store.at (List.set σ id (.cells ver (cur.flatMap encGEntry)) ++ g) id ver = some (cur.flatMap encGEntry) := zy1 (Store.at_set hcs) _
   obtain ⟨τ, hτ⟩ : ∃ τ, τ = List.set σ id (.cells ver (cur.flatMap encGEntry)) ++ g := ⟨_, rfl⟩
   rw [← hτ] at hat ⊢
   refine ze fun Y hY => ?_
   refine rg tok [0, 1, 5, 6, 19] fun K hK => ?_
   simp only [go_sem, rL, rE, reduceCtorEq]
   refine hK _ _ ?_
   clear hK K
   refine zA rfl (fun hc => ?_) (fun hc => ?_)
   · refine zi ?_
     refine hY _ _ ?_
     clear hY Y
     rcases rest with _ | ⟨e2, rest⟩
     · simp only [lZ] at c4; omega
     simp only [zu1] at c6
     obtain ⟨b, hb, c6⟩ := bind_some c6
     obtain ⟨l', hl', c6⟩ := bind_some c6
     obtain rfl := Option.some.inj c6
     simp only [lC] at c4
     have hx : idxL cur (j : Int) = some e2 := by
      unfold idxL
      rw [if_pos (by omega), Int.toNat_natCast]
      have : (cur.drop j)[0]? = some e2 := by rw [c3]; rfl
      rwa [List.getElem?_drop, Nat.add_zero] at this
     have hcd : cur.drop (j + 1) = rest := by rw [← List.drop_drop, c3]; rfl
     have hw6 : IntKind.i64.wrap ((j : Int) + 1) = ((j + 1 : Nat) : Int) := by rw [IntKind.wrap_i64]; omega
     have hix := E40.idxO hx nl false .i64 2 id ver
     rw [c1] at hix
     have hrd := E40.rdO hx
     refine ze fun X hX => ?_
     have fin : ∀ (cur' kept' : List GEntry) (F : Fr) (τ' : Store), Fits F [(0, AV.os nl 2 id ver 0 es.length false), (1, .fn (.func 60) [] [.dp (encGMessage m) 0]), (5, .int .i64 (kept'.length : Int)), (6, .int .i64 (j : Int))] → (∃ g', τ' = List.set σ id (.cells ver (cur'.flatMap encGEntry)) ++ g') → cur'.length = es.length → cur'.take kept'.length = kept' → cur'.drop (j + 1) = rest → kept'.length < j + 1 → es' = kept' ++ l' →
      X F τ' := by
      rintro cur' kept' F _ hF ⟨g', rfl⟩ d1 d2 d3 d4 d5
      refine hX _ _ (zH (.same hF rfl) ?_)
      refine rgE tok [0, 1, 5, 6] fun K hK => ?_
      simp only [go_sem, rL, rE, reduceCtorEq, hw6]
      refine hK _ _ ?_
      clear hK K
      simp only [zd]
      exact ⟨rest.length, _, _, by simp, ⟨cur', kept', rest, l', j + 1, g', rfl, rfl, rfl, d1, d2, d3, by omega, by omega, hl', d5⟩, .same ⟨rfl, rfl, rfl, rfl, trivial⟩ rfl⟩
     clear hX
     have hae : ∀ cs, Store.at (τ ++ [.cells 0 cs]) τ.length 0 = some cs := fun cs => zp4 τ cs []
     have hse : ∀ cs cs', (τ ++ [AObj.cells 0 cs]).set τ.length (.cells 0 cs') = τ ++ [.cells 0 cs'] := fun cs cs' => set_mid τ _ _ []
     have hw5 : IntKind.i64.wrap ((kept.length : Int) + 1) = ((kept.length + 1 : Nat) : Int) := by rw [IntKind.wrap_i64]; omega
     refine zk ?_
     refine rg tok [0, 1, 5, 6, 7] fun K hK => ?_
     simp only [go_sem, rL, rD, rE, rA, reduceCtorEq, hat, hix, hrd, zB, cellsGEntry, hae, hse, lC, lZ, List.set_cons_zero, List.set_cons_succ]
     refine hK _ _ ?_
     clear hK K
     refine rc [0, 5, 6, 7, 1, 29] fun K hK => ?_
     refine za tok 2 ?_
     simp only [go_sem, rL, rD, rE, rA, reduceCtorEq, hae, lC, lZ]
     refine zh rfl rfl rfl (decode_message_1.ev e2 m b hb _) ?_
     rintro _ _ ⟨rfl, hσ⟩
     rw [hσ]; clear hσ
     refine za tok 1 ?_
     simp only [go_sem, rL, rE, reduceCtorEq]
     refine zb ?_
     simp only [zd, upd, rE, reduceIte, zl, zn]
     refine hK _ _ ?_
     clear hK K
     cases b with
     | true =>
      refine zq rfl ?_
      refine zi ?_
      simp only [zn2, zd]
      exact fin cur kept _ _ ⟨rfl, rfl, rfl, rfl, trivial⟩ ⟨g ++ [.cells 0 [.int .i64 e2.fTag, .ds true (fM encGTree e2.fTrees) e2.fTrees.length false]], by rw [hτ, aA]⟩ c1 c2 hcd (by omega) c7
     | false =>
      refine zt rfl ?_
      have hkl : kept.length < cur.length := by omega
      have hx2 : idxL cur (kept.length : Int) = some cur[kept.length] := by
       unfold idxL
       rw [if_pos (by omega), Int.toNat_natCast, List.getElem?_eq_getElem hkl]
      have hix2 := E40.idxO hx2 nl false .i64 2 id ver
      rw [c1] at hix2
      have hsc := E40.stOc hx2
      have hsr := E40.stOr hx2 (y := e2) (cs := [.int .i64 e2.fTag, .ds true (fM encGTree e2.fTrees) e2.fTrees.length false]) (by rw [zB] <;> rfl)
      simp only [zP] at hsr
      have hat1 : Store.at (τ ++ [.cells 0 [.int .i64 e2.fTag, .ds true (fM encGTree e2.fTrees) e2.fTrees.length false]]) id ver = some (cur.flatMap encGEntry) := zy1 hat _
      refine rg tok [0, 1, 5, 6] fun K hK => ?_
      simp only [go_sem, rL, rD, rE, rA, reduceCtorEq, hae, hix2, hsc, hsr, hat1, lC, lZ]
      refine hK _ _ ?_
      clear hK K
      refine rgE tok [0, 1, 5, 6] fun K hK => ?_
      simp only [go_sem, rL, rE, reduceCtorEq, hw5]
      refine hK _ _ ?_
      clear hK K
      simp only [zn2, zd]
      have hlen : (kept ++ [e2]).length = kept.length + 1 := by simp
      refine fin (setI cur (kept.length : Int) e2) (kept ++ [e2]) _ _ ⟨rfl, rfl, by rw [hlen]; rfl, rfl, trivial⟩ ⟨g ++ [.cells 0 [.int .i64 e2.fTag, .ds true (fM encGTree e2.fTrees) e2.fTrees.length false]], ?_⟩ ?_ ?_ ?_ (by rw [hlen]; omega) (by rw [c7]; simp)
      · rw [hτ, aA, List.set_append_left _ _ (by simpa using Store.at_lt hcs), List.set_set]
      · rw [zM1]; exact c1
      · rw [hlen]
        unfold setI
        rw [Int.toNat_natCast, List.take_set, List.take_add_one, c2, List.getElem?_eq_getElem hkl]
        simp
      · unfold setI
        rw [Int.toNat_natCast, List.drop_set_of_lt (by omega)]
        exact hcd
   · refine zz ?_
     simp only [go_sem]
     have hr0 : rest = [] := lI.1 (by omega)
     subst hr0
     cases c6
     rw [aN] at c7
     subst c7
     simp only [lZ, Nat.add_zero] at c4
     have hkn : es'.length < es.length := by omega
     have hsl1 : zD1 tab 40 (.os nl 2 id ver 0 es.length false) (some (.int .i64 (es'.length : Int))) none none = some (.os nl 2 id ver (es'.length * 2) (es.length - es'.length) false) := by
      simp only [zD1, zg3, zf3, optI]
      simp
      omega
     have hsl2 : zD1 tab 40 (.os nl 2 id ver 0 es.length false) none (some (.int .i64 (es'.length : Int))) none = some (.os nl 2 id ver 0 es'.length false) := by
      simp only [zD1, zg3, zf3, optI]
      simp
      omega
     have hcl : (cur.flatMap encGEntry).length = es.length * 2 := by rw [← c1]; exact zr E40.len cur
     have hzl : ∀ n, (zG [AV.int .i64 0, .ds true [] 0 true] n).length = n := fun n => by simp [zG]
     have hsr : zP (cur.flatMap encGEntry) (es'.length * 2) (zG [AV.int .i64 0, .ds true [] 0 true] ((es.length - es'.length) * 2)) = es'.flatMap encGEntry ++ zG [AV.int .i64 0, .ds true [] 0 true] ((es.length - es'.length) * 2) := by
      have e0 : cur.flatMap encGEntry = es'.flatMap encGEntry ++ ((cur.drop es'.length).flatMap encGEntry ++ []) := by
       rw [aN, ← fA]
       congr 1
       conv => lhs; rw [← List.take_append_drop es'.length cur, c2]
      have l1 : (es'.flatMap encGEntry).length = es'.length * 2 := zr E40.len _
      rw [e0, ← l1, za2 _ _ _ _ (by rw [hzl, zr E40.len, List.length_drop, c1]), aN]
     have hclr : zD5 tab 40 (.os nl 2 id ver (es'.length * 2) (es.length - es'.length) false) τ = some (.tup [], τ.set id (.cells ver (es'.flatMap encGEntry ++ zG [AV.int .i64 0, .ds true [] 0 true] ((es.length - es'.length) * 2)))) := by
      have hp : zB1 τ (.os nl 2 id ver (es'.length * 2) (es.length - es'.length) false) (es.length - es'.length) 2 (zG [AV.int .i64 0, .ds true [] 0 true] ((es.length - es'.length) * 2)) = some (τ.set id (.cells ver (es'.flatMap encGEntry ++ zG [AV.int .i64 0, .ds true [] 0 true] ((es.length - es'.length) * 2)))) := by
       unfold zB1
       rw [if_neg (by omega)]
       simp only [hat]
       rw [if_pos ⟨trivial, by rw [hzl, hcl, ← Nat.add_mul]; exact Nat.mul_le_mul_right _ (by omega), zeroRun_one _⟩, hsr]
      simp only [zD5, zg3, zf3, AV.cells, hp]
      simp [AV.okc, AV.one]
     refine hZ _ _ ?_
     refine rg tok [0, 5] fun K hK => ?_
     simp only [go_sem, rL, rE, reduceCtorEq, hsl1, hclr]
     refine hK _ _ ?_
     clear hK K
     refine rg tok [4] fun K hK => ?_
     simp only [go_sem, rL, rE, reduceCtorEq, hsl2]
     refine hK _ _ ?_
     clear hK K
     refine zj ?_
     simp only [retQ, zS, zT, zi1, exists_eq_left', go_sem]
     refine ⟨zG [AV.int .i64 0, .ds true [] 0 true] ((es.length - es'.length) * 2), g, ?_⟩
     rw [hτ, List.set_append_left _ _ (by simpa using Store.at_lt hcs), List.set_set]
end Go.Proofs.YtaddlmlpeghonaaDoor
end
section
set_option maxRecDepth 8000
set_option maxHeartbeats 1000000
namespace Go.Proofs.YtaddlmlpeghonaaDoor
open Go.RowKit AM
def decode_message.l (self_decode_one : GSchema → GType → GRaw → Int → Option (GTree × Int)) (a0 : GSchema) (a1 : GMessage) (a3 : Int) : List GRaw → List GEntry → List GRaw → Option (GTree × Int)
 | [], es, rest => (room es.length 32).bind fun _ => (zu1 a1 es).bind fun es' => (wire_Sorted rest).bind fun r => some ((⟨3, 0, [], es', r⟩ : GTree), 0)
 | r :: q, es, rest => bnd (check_Field a1 r.fTag) fun f => (if f.2 = true then (self_decode_one a0 f.1.fType r a3).bind fun x => (if x.2 = 0 then (zQ2 es f.1 x.1).bind fun p => (if p.2 = true then decode_message.l self_decode_one a0 a1 a3 q p.1 rest else some ((⟨0, 0, [], [], []⟩ : GTree), 4)) else some ((⟨0, 0, [], [], []⟩ : GTree), x.2))
  else (room (rest.length + 1) 40).bind fun _ => decode_message.l self_decode_one a0 a1 a3 q es (rest ++ [r]))
def decode_message.body (self_decode_message : GSchema → GMessage → List UInt8 → Int → Option (GTree × Int)) (self_decode_one : GSchema → GType → GRaw → Int → Option (GTree × Int)) (a0 : GSchema) (a1 : GMessage) (a2 : List UInt8) (a3 : Int) : Option (GTree × Int) :=
 if 10 < a3 then some ((⟨0, 0, [], [], []⟩ : GTree), 10) else (wire_Get a2).bind fun g => if g.2 = 0 then decode_message.l self_decode_one a0 a1 a3 g.1 [] [] else some ((⟨0, 0, [], [], []⟩ : GTree), g.2)
structure Loop (τ : Store) (a0 : GSchema) (a1 : GMessage) (ever rver : Nat) (L : List Ent) (rest : List GRaw) : Prop where
 h0 : Store.at τ 0 0 = some (encGSchema a0)
 h1 : Store.at τ 1 0 = some (encGMessage a1)
 h2 : Store.at τ 2 0 = some [.int .i64 0, .int .i64 0, .str [], .ds true [] 0 true, .ds true [] 0 true]
 rep : Rep τ 3 4 ever L
 h5 : Store.at τ 5 rver = some (rest.flatMap encGRaw)
 ids : ∀ y ∈ L, 6 ≤ y.id
theorem Loop.app {τ : Store} {a0 : GSchema} {a1 : GMessage} {ever rver : Nat} {L : List Ent} {rest : List GRaw} (h : Loop τ a0 a1 ever rver L rest) (l : Store) : Loop (τ ++ l) a0 a1 ever rver L rest :=
 ⟨zy1 h.h0 l, zy1 h.h1 l, zy1 h.h2 l, h.rep.app l, zy1 h.h5 l, h.ids⟩
theorem zX3 {σ : Store} {keep : List Nat} {e : Int} : tell σ keep true 12 (.tup [.agg [.int .i64 0, .int .i64 0, .str [], .ds true [] 0 true, .ds true [] 0 true], .int .i64 e]) = .tup [.agg (cellsGTree ⟨0, 0, [], [], []⟩), .int .i64 e] := by
 simp only [tell_tup, mC, mN, tell_agg, zB3, zA3, zU2]
 rfl
theorem decode_message.step (self_decode_message : GSchema → GMessage → List UInt8 → Int → Option (GTree × Int)) (self_decode_one : GSchema → GType → GRaw → Int → Option (GTree × Int))
 (ih_decode_one : ∀ (a0 : GSchema) (a1 : GType) (a2 : GRaw) (a3 : Int) (r : GTree × Int), self_decode_one a0 a1 a2 a3 = some r → ACalls Tryd.prog 57 [.agg (encGSchema a0), .agg (encGType a1), .agg (encGRaw a2), .int .i64 a3] [] (fun r' _ => r' = .tup [.agg (cellsGTree r.1), .int .i64 r.2]))
 (a0 : GSchema) (a1 : GMessage) (a2 : List UInt8) (a3 : Int) (r : GTree × Int) (h : decode_message.body self_decode_message self_decode_one a0 a1 a2 a3 = some r) :
 ACalls Tryd.prog 35 [.agg (encGSchema a0), .agg (encGMessage a1), .ds true (fM encB a2) (lN a2) false, .int .i64 a3] [] (fun r' _ => r' = .tup [.agg (cellsGTree r.1), .int .i64 r.2]) := by
 have ev_one := fun a0 a1 a2 a3 r h σ => (ih_decode_one a0 a1 a2 a3 r h).pureAt (by simp only [AV.canon, canonL, canon_all, Bool.and_self, Bool.not_false, Bool.or_true, encGRaw, encGSchema, encGType]) (by simp only [AV.canon, canonL, canon_all, Bool.and_self, Bool.not_false, Bool.or_true, cellsGTree]) σ
 refine zm (rs := [.cell 8 42, .tmp 9]) tok Tryd.func35 rfl Tryd.ntmps35 rfl Tryd.call35 (by simp) ?_
 refine zo [(0, .agg (encGSchema a0)), (1, .agg (encGMessage a1)), (2, .ds true (fM encB a2) (lN a2) false), (3, .int .i64 a3)] ⟨rfl, rfl, rfl, rfl, trivial⟩ ?_
 unfold decode_message.body at h
 refine rg tok [2, 3, 4, 5, 8, 9] fun K hK => ?_
 simp only [go_sem, rL, rE, rA, reduceCtorEq, encGSchema, encGMessage]
 refine hK _ _ ?_
 clear hK K
 refine ze fun Z hZ => ?_
 refine rg tok [2, 3, 4, 5, 8, 9, 21] fun K hK => ?_
 simp only [go_sem, rL, rE]
 refine hK _ _ ?_
 clear hK K
 refine zA rfl (fun hc => ?_) (fun hc => ?_)
 · rw [if_pos hc] at h
   obtain rfl := Option.some.inj h
   refine rg tok [8, 9] fun K hK => ?_
   simp only [go_sem, rL, rD, rE, rA]
   refine hK _ _ ?_
   clear hK K
   refine zj ?_
   simp only [retQ, zS, zT, zi1, exists_eq_left', go_sem, rD, rE, rA]
   exact zX3
 · rw [if_neg hc] at h
   obtain ⟨g, hg, h⟩ := bind_some h
   refine zi ?_
   refine hZ _ _ ?_
   clear hZ Z
   refine rc [3, 4, 5, 8, 9, 10, 11] fun K hK => ?_
   refine za tok 1 ?_
   simp only [go_sem, rL, rE]
   refine zh rfl rfl rfl (wire_Get.ev a2 g hg _) ?_
   rintro _ _ ⟨rfl, hσ⟩
   rw [hσ]; clear hσ
   refine za tok 5 ?_
   simp only [go_sem, rL, rE, rA]
   refine zb ?_
   simp only [zd, upd, rE, reduceIte, zl, zn]
   refine hK _ _ ?_
   clear hK K
   refine ze fun Z hZ => ?_
   refine rg tok [3, 4, 5, 8, 9, 10, 11, 29] fun K hK => ?_
   simp only [go_sem, rL, rE]
   refine hK _ _ ?_
   clear hK K
   refine zA rfl (fun hc2 => ?_) (fun hc2 => ?_)
   · rw [if_neg hc2] at h
     obtain rfl := Option.some.inj h
     refine rg tok [8, 9] fun K hK => ?_
     simp only [go_sem, rL, rD, rE, rA]
     refine hK _ _ ?_
     clear hK K
     refine zj ?_
     simp only [retQ, zS, zT, zi1, exists_eq_left', go_sem, rD, rE, rA]
     exact zX3
   · rw [if_pos hc2] at h
     refine zi ?_
     refine hZ _ _ ?_
     clear hZ Z
     refine rg tok [3, 4, 5, 8, 9, 10, 12] fun K hK => ?_
     simp only [go_sem, rL, rD, rE, rA]
     refine hK _ _ ?_
     clear hK K
     refine zW3 3 3 2 rfl (by simp) rfl (L := [(3, .int .i64 a3), (4, .op 0 0 0), (5, .op 1 0 0), (8, .op 2 0 0), (9, .int .i64 0), (10, .ds true (fM encGRaw g.1) (lN g.1) false), (12, .op 3 0 0)]) (.same ⟨rfl, rfl, rfl, rfl, rfl, rfl, rfl, trivial⟩ rfl) ?_
     refine rg tok [3, 4, 5, 8, 9, 10, 12, 13] fun K hK => ?_
     simp only [go_sem, rL, rE, rA]
     refine hK _ _ ?_
     clear hK K
     refine zw2 13 4 rfl ?_
     refine zH (L := [(3, .int .i64 a3), (4, .op 0 0 0), (5, .op 1 0 0), (8, .op 2 0 0), (9, .int .i64 0), (10, .ds true (fM encGRaw g.1) (lN g.1) false), (12, .op 3 0 0), (13, .os true 4 5 0 0 0 false)]) (.same ⟨rfl, rfl, rfl, rfl, rfl, rfl, rfl, rfl, trivial⟩ rfl) ?_
     refine ze fun Z hZ => ?_
     refine zO 10 fun hb => ?_
     replace hb : lN g.1 ≤ 9223372036854775807 := hb.1
     refine rg tok [3, 4, 5, 8, 9, 12, 13, 33, 34, 35] fun K hK => ?_
     simp only [go_sem, rL, rE]
     refine hK _ _ ?_
     clear hK K
     refine zk ?_
     refine zw (fun k F τ => ∃ (p q : List GRaw) (i : Int) (L : List Ent) (rest : List GRaw) (ever rver : Nat), k = q.length ∧ F = [(3, AV.int .i64 a3), (4, .op 0 0 0), (5, .op 1 0 0), (8, .op 2 0 0), (9, .int .i64 0), (12, .op 3 0 0), (13, .os true 4 5 rver 0 rest.length false), (33, .ds true (fM encGRaw g.1) (lN g.1) false), (34, .int .i64 (lN g.1 : Int)), (35, .int .i64 i)] ∧ Loop τ a0 a1 ever rver L rest ∧ g.1 = p ++ q ∧ i = (p.length : Int) ∧ decode_message.l self_decode_one a0 a1 a3 q (L.map Ent.val) rest = some r) g.1.length
      ⟨[], g.1, 0, [], [], 0, 0, rfl, rfl, ⟨rfl, rfl, rfl, ⟨rfl, rfl, fun _ h => (by cases h), by simp⟩, rfl, fun _ h => (by cases h)⟩, rfl, rfl, h⟩ (.same ⟨rfl, rfl, rfl, rfl, rfl, rfl, rfl, rfl, rfl, rfl, trivial⟩ rfl) ?_
     clear h
     rintro k _ τ ⟨p, q, i, L, rest, ever, rver, rfl, rfl, hL, hE, hi, h⟩
     refine rg tok [3, 4, 5, 8, 9, 12, 13, 33, 34, 35, 36] fun K hK => ?_
     simp only [go_sem, rL, rE]
     refine hK _ _ ?_
     clear hK K
     refine ze fun Y hY => ?_
     rcases q with _ | ⟨y, q⟩
     · have hz := zN hE hi
       refine zA rfl (fun hc => absurd hc (by rw [hz]; exact id)) (fun _ => ?_)
       refine zz ?_
       simp only [zd, go_sem]
       simp only [decode_message.l] at h
       obtain ⟨u, hu, h⟩ := bind_some h
       have hrm := of_eq_true (zQ hu)
       obtain ⟨es', hes, h⟩ := bind_some h
       obtain ⟨rr, hrr, h⟩ := bind_some h
       obtain rfl := Option.some.inj h
       have hid : ∀ y ∈ L, zY1 [2, 3, 4] y.id 0 = none := by
        intro y hy
        have := hL.ids y hy
        simp only [zH1, zC1]
        rw [if_neg (by omega), if_neg (by omega), if_neg (by omega)]
       have hget : ∀ {j v : Nat} {cs : List AV}, Store.at τ j v = some cs → τ.getD j .dead = .cells v cs := by
        intro j v cs hj
        rw [gG, Store.at_some hj]; rfl
       have hl4 : (rest.flatMap encGRaw).length = rest.length * 4 := zr E22.len rest
       have hcells := hL.rep.toldC [2, 3, 4] false 10 hid
       have htS : tellS τ [2, 3, 4] false 12 = [.cells 0 [.int .i64 0, .int .i64 0, .str [], .ds true [] 0 true, .ds true [] 0 true], .cells 0 [.int .i64 3, .int .i64 0, .str [], .os true 2 2 ever 0 (L.map Ent.val).length false, .ds true [] 0 true], .cells ever ((L.map Ent.val).flatMap encGEntry)] := by
        simp only [tellS, mC, mN, hget hL.h2, hget hL.rep.t, hget hL.rep.e, zl3, zB3, zA3, zU2, zT1, zH1, zC1, rE, if_true, if_false, hcells, lM, Bool.or_false, Bool.not_false, Bool.and_true, rA]
       have hrest : tell τ [2, 3, 4] false 12 (.os true 4 5 rver 0 rest.length false) = .ds true (rest.flatMap encGRaw) rest.length false := by
        simp only [zT1, zH1, zC1, rE, if_false, hL.h5]
        rw [if_pos (by rw [hl4]; omega), dZ, ← hl4, List.take_length, zy]
       have hmsg : tell τ [2, 3, 4] false 12 (.op 1 0 0) = .dp (encGMessage a1) 0 := by
        simp only [tell_op, zH1, zC1, rE, if_false, hL.h1, encGMessage, mC, mN, zA3, zU2, zy, Bool.or_false, Bool.not_false, Bool.and_true]
       have hk3 : [2, 3, 4].Nodup := by decide
       have hlt5 := Store.at_lt hL.h5
       refine hZ _ _ ?_
       refine zH (L := [(5, .dp (encGMessage a1) 0), (8, .op 0 0 0), (12, .op 1 0 0), (13, .ds true (rest.flatMap encGRaw) rest.length false)]) (.told [2, 3, 4] false hk3 (by intro id hid'; simp at hid'; omega) rfl htS ⟨hmsg, rfl, rfl, hrest, trivial⟩) ?_
       refine rc [8, 12, 13] fun K hK => ?_
       refine za tok 3 ?_
       simp only [go_sem, rL, rE, rA, lM]
       have hdel := DeleteFunc_at (σ := [.cells 0 [.int .i64 0, .int .i64 0, .str [], .ds true [] 0 true, .ds true [] 0 true], .cells 0 [.int .i64 3, .int .i64 0, .str [], .os true 2 2 ever 0 L.length false, .ds true [] 0 true], .cells ever ((L.map Ent.val).flatMap encGEntry)]) (id := 2) (ver := ever) (nl := true) a1 (by simp only [Store.at_hd, Store.at_tl, if_true]) hes (by omega)
       rw [lM] at hdel
       refine zh rfl rfl rfl hdel ?_
       rintro _ _ ⟨cs, g', rfl, rfl⟩
       refine za tok 2 ?_
       simp only [go_sem, rL, rD, rE, rA, cA, nA, List.set_cons_succ, List.set_cons_zero]
       refine zb ?_
       simp only [zd, upd, rE, reduceIte, zl, zn]
       refine hK _ _ ?_
       clear hK K
       refine rc [8, 12] fun K hK => ?_
       refine za tok 1 ?_
       simp only [go_sem, rL, rE]
       refine zh rfl rfl rfl (wire_Sorted.ev rest rr hrr _) ?_
       rintro _ _ ⟨rfl, hσ⟩
       rw [hσ]; clear hσ
       refine za tok 2 ?_
       simp only [go_sem, rL, rD, rE, rA, List.set_cons_succ, List.set_cons_zero]
       refine zb ?_
       simp only [zd, upd, rE, reduceIte, zl, zn]
       refine hK _ _ ?_
       clear hK K
       refine rg tok [8, 9] fun K hK => ?_
       simp only [go_sem, rL, rD, rE, rA, List.set_cons_succ, List.set_cons_zero]
       refine hK _ _ ?_
       clear hK K
       refine zj ?_
       simp only [retQ, zS, zT, zi1, exists_eq_left', go_sem, rD, rE, rA]
       have hle : (es'.flatMap encGEntry).length = es'.length * 2 := zr E40.len es'
       simp only [tell_tup, mC, mN, tell_agg, zB3, zA3, zU2, zT1, zC1, Store.at_hd, Store.at_tl, if_true, zy, cellsGTree, GTree.fKind, GTree.fN, GTree.fS, GTree.fEntries, GTree.fRest]
       rw [if_pos (by rw [lP, hle]; omega), dZ, ← hle, List.take_left, zy]
       rfl
     · obtain ⟨hz, hw, hx, hE', hi'⟩ := zK hE hi hb
       refine zA rfl (fun _ => ?_) (fun hc => absurd (of_eq_true hz) hc)
       refine zi ?_
       refine hY _ _ ?_
       clear hY Y
       refine ze fun X hX => ?_
       have fin : ∀ (F : Fr) (τ' : Store) (L' : List Ent) (rest' : List GRaw) (ever' rver' : Nat), Fits F [(3, AV.int .i64 a3), (4, .op 0 0 0), (5, .op 1 0 0), (8, .op 2 0 0), (9, .int .i64 0), (12, .op 3 0 0), (13, .os true 4 5 rver' 0 rest'.length false), (33, .ds true (fM encGRaw g.1) (lN g.1) false), (34, .int .i64 (lN g.1 : Int)), (35, .int .i64 i)] → Loop τ' a0 a1 ever' rver' L' rest' → decode_message.l self_decode_one a0 a1 a3 q (L'.map Ent.val) rest' = some r → X F τ' := by
        intro F τ' L' rest' ever' rver' hF hL' h'
        refine hX _ _ (zH (.same hF rfl) ?_)
        refine rgE tok [3, 4, 5, 8, 9, 12, 13, 33, 34, 35] fun K hK => ?_
        simp only [go_sem, rL, rE, hw]
        refine hK _ _ ?_
        clear hK K
        simp only [zd]
        exact ⟨q.length, _, _, by simp, ⟨p ++ [y], q, i + 1, L', rest', ever', rver', rfl, rfl, hL', hE', hi', h'⟩, .same ⟨rfl, rfl, rfl, rfl, rfl, rfl, rfl, rfl, rfl, rfl, trivial⟩ rfl⟩
       clear hX
       refine zk ?_
       have hix := E22.idxS hx
       have hld := E22.loadS rfl rfl hx
       have hae : ∀ (τ : Store) cs, Store.at (τ ++ [.cells 0 cs]) τ.length 0 = some cs := fun τ cs => zp4 τ cs []
       have hse : ∀ (τ : Store) cs cs', (τ ++ [AObj.cells 0 cs]).set τ.length (.cells 0 cs') = τ ++ [.cells 0 cs'] := fun τ cs cs' => set_mid τ _ _ []
       refine rg tok [3, 4, 5, 8, 9, 12, 13, 15, 33, 34, 35] fun K hK => ?_
       simp only [go_sem, rL, rD, rE, rA, hix, hld, encGRaw, hae, hse, lC, lZ, List.set_cons_zero, List.set_cons_succ]
       refine hK _ _ ?_
       clear hK K
       simp only [decode_message.l] at h
       obtain ⟨f, hf, h⟩ := zJ h
       have hL1 := hL.app [.cells 0 [.int .i64 y.fTag, .int .i64 y.fWire, .int .i64 y.fN, .str y.fB]]
       have hr1 := zp4 τ [.int .i64 y.fTag, .int .i64 y.fWire, .int .i64 y.fN, .str y.fB] []
       generalize τ.length = k1 at *
       generalize τ ++ [.cells 0 [.int .i64 y.fTag, .int .i64 y.fWire, .int .i64 y.fN, .str y.fB]] = τ1 at *
       have hm1 := hL1.h1
       have hs1 := hL1.h0
       simp only [encGMessage] at hm1
       simp only [encGSchema] at hs1
       refine rc [3, 4, 5, 8, 9, 12, 13, 15, 16, 17, 33, 34, 35] fun K hK => ?_
       refine za tok 3 ?_
       simp only [go_sem, rL, rD, rE, rA, hm1, hr1, lC, lZ]
       refine zh rfl rfl rfl (check_Field.ev a1 y.fTag f hf _) ?_
       rintro _ _ ⟨rfl, hσ⟩
       rw [hσ]; clear hσ
       refine za tok 6 ?_
       simp only [go_sem, rL, rD, rE, rA, encGField, hae, hse, lC, lZ, List.set_cons_zero, List.set_cons_succ]
       refine zb ?_
       simp only [zd, upd, rE, reduceIte, zl, zn]
       refine hK _ _ ?_
       clear hK K
       have hL2 := hL1.app [.cells 0 [.str f.1.fName, .int .i64 f.1.fTag, .int .i64 f.1.fLabel, .int .i64 f.1.fType.fKind, .str f.1.fType.fName]]
       have hr2 := zy1 hr1 [.cells 0 [.str f.1.fName, .int .i64 f.1.fTag, .int .i64 f.1.fLabel, .int .i64 f.1.fType.fKind, .str f.1.fType.fName]]
       have hm2 := zy1 hs1 [.cells 0 [.str f.1.fName, .int .i64 f.1.fTag, .int .i64 f.1.fLabel, .int .i64 f.1.fType.fKind, .str f.1.fType.fName]]
       have hf2 := zp4 τ1 [.str f.1.fName, .int .i64 f.1.fTag, .int .i64 f.1.fLabel, .int .i64 f.1.fType.fKind, .str f.1.fType.fName] []
       clear hm1 hs1 hr1
       generalize τ1.length = k2 at *
       generalize τ1 ++ [.cells 0 [.str f.1.fName, .int .i64 f.1.fTag, .int .i64 f.1.fLabel, .int .i64 f.1.fType.fKind, .str f.1.fType.fName]] = τ2 at *
       refine ze fun Y hY => ?_
       refine rg tok [3, 4, 5, 8, 9, 12, 13, 15, 16, 17, 33, 34, 35, 47] fun K hK => ?_
       simp only [go_sem, rL, rE]
       refine hK _ _ ?_
       clear hK K
       have hb2 : ∀ (b : Bool), (!b) = true → b = false := by decide
       refine zx (b := !f.2) rfl (fun hc3 => ?_) (fun hc3 => ?_)
       · have hc4 : f.2 = false := by simpa using hc3
         rw [if_F hc4] at h
         obtain ⟨u, hu, h⟩ := bind_some h
         have hrm := zQ hu
         have hL5 := hL2.h5
         have hl4 : (rest.flatMap encGRaw).length = rest.length * 4 := zr E22.len rest
         refine rg tok [3, 4, 5, 8, 9, 12, 13, 33, 34, 35] fun K hK => ?_
         have hlit := zp4 τ2 [.int .i64 y.fTag, .int .i64 y.fWire, .int .i64 y.fN, .str y.fB] []
         have hat5 := zy1 hL5 [.cells 0 [.int .i64 y.fTag, .int .i64 y.fWire, .int .i64 y.fN, .str y.fB]]
         have hap : zL tab 22 22 (.os true 4 5 rver 0 rest.length false) (.os true 4 τ2.length 0 0 1 true) (τ2 ++ [.cells 0 [.int .i64 y.fTag, .int .i64 y.fWire, .int .i64 y.fN, .str y.fB]]) =
          some (.os true 4 5 (rver + 1) 0 (rest.length + 1) false, List.set (τ2 ++ [.cells 0 [.int .i64 y.fTag, .int .i64 y.fWire, .int .i64 y.fN, .str y.fB]]) 5 (.cells (rver + 1) (rest.flatMap encGRaw ++ [.int .i64 y.fTag, .int .i64 y.fWire, .int .i64 y.fN, .str y.fB]))) := by
          have e1 : zF (τ2 ++ [.cells 0 [.int .i64 y.fTag, .int .i64 y.fWire, .int .i64 y.fN, .str y.fB]]) 4 (.os true 4 τ2.length 0 0 1 true) = some (1, [.int .i64 y.fTag, .int .i64 y.fWire, .int .i64 y.fN, .str y.fB]) := by
           simp only [zF, hlit]; simp
          simp only [zL, tab_22, tab_33, e1, zM, zD, hat5, hl4, hrm]
          simp [AV.one]
         simp only [go_sem, rL, rD, rE, rA, rM, hr2, zC, zG, List.range_succ, List.range_zero, true_and, Nat.reduceMod, lC, lZ, hap]
         refine hK _ _ ?_
         clear hK K
         refine zz ?_
         simp only [go_sem, reduceCtorEq]
         have hLs : Loop (List.set (τ2 ++ [.cells 0 [.int .i64 y.fTag, .int .i64 y.fWire, .int .i64 y.fN, .str y.fB]]) 5 (.cells (rver + 1) (rest.flatMap encGRaw ++ [.int .i64 y.fTag, .int .i64 y.fWire, .int .i64 y.fN, .str y.fB]))) a0 a1 ever (rver + 1) L (rest ++ [y]) := by
          have hL3 := hL2.app [.cells 0 [.int .i64 y.fTag, .int .i64 y.fWire, .int .i64 y.fN, .str y.fB]]
          refine ⟨zc1 hL3.h0 (by decide) _, zc1 hL3.h1 (by decide) _, zc1 hL3.h2 (by decide) _, hL3.rep.set_ne (fun hm => ?_) _, ?_, hL3.ids⟩
          · simp only [mI, List.mem_map] at hm
            rcases hm with h | h | ⟨z, hz, h⟩
            · cases h
            · cases h
            · have := hL3.ids z hz; omega
          · rw [Store.at_set hL3.h5, fA]
            simp [encGRaw]
         exact fin _ _ L (rest ++ [y]) ever (rver + 1) ⟨rfl, rfl, rfl, rfl, rfl, rfl, by rw [lP]; rfl, rfl, rfl, rfl, trivial⟩ hLs h
       · have hc4 : f.2 = true := by simpa using hc3
         rw [if_pos hc4] at h
         refine zi ?_
         refine hY _ _ ?_
         clear hY Y
         obtain ⟨x, hx1, h⟩ := bind_some h
         have hty : AV.agg (encGType f.1.fType) = .agg [.int .i64 f.1.fType.fKind, .str f.1.fType.fName] := rfl
         refine rc [3, 4, 5, 8, 9, 12, 13, 16, 18, 19, 33, 34, 35] fun K hK => ?_
         refine za tok 5 ?_
         simp only [go_sem, rL, rD, rE, rA, hm2, hr2, hf2, lC, lZ, List.drop_succ_cons, dZ, List.take_succ_cons, List.take_zero]
         refine zh rfl rfl rfl (ev_one a0 f.1.fType y a3 x hx1 _) ?_
         rintro _ _ ⟨rfl, hσ⟩
         rw [hσ]; clear hσ
         refine za tok 6 ?_
         simp only [go_sem, rL, rD, rE, rA, cellsGTree, hae, hse, lC, lZ, List.set_cons_zero, List.set_cons_succ]
         refine zb ?_
         simp only [zd, upd, rE, reduceIte, zl, zn]
         refine hK _ _ ?_
         clear hK K hr2 hm2
         obtain ⟨xc, hxc⟩ : ∃ xc, xc = [AV.int .i64 x.1.fKind, .int .i64 x.1.fN, .str x.1.fS, .ds true (fM encGEntry x.1.fEntries) x.1.fEntries.length false, .ds true (fM encGRaw x.1.fRest) x.1.fRest.length false] := ⟨_, rfl⟩
         rw [← hxc]
         have hL3 := hL2.app [.cells 0 xc]
         have hf3 := zy1 hf2 [.cells 0 xc]
         have hx3 := zp4 τ2 xc []
         clear hf2 hL2
         generalize τ2.length = k3 at *
         generalize τ2 ++ [.cells 0 xc] = τ3 at *
         subst hxc
         refine ze fun Y hY => ?_
         refine rg tok [3, 4, 5, 8, 9, 12, 13, 16, 18, 19, 33, 34, 35, 62] fun K hK => ?_
         simp only [go_sem, rL, rE]
         refine hK _ _ ?_
         clear hK K
         have h23 := hL3.h2
         have h24 := Store.at_set (ver' := 0) (cs' := [.int .i64 0, .int .i64 0, .str [], .ds true [] 0 true, .ds true [] 0 true]) h23
         refine zA rfl (fun hc5 => ?_) (fun hc5 => ?_)
         · rw [if_neg hc5] at h
           obtain rfl := Option.some.inj h
           refine rg tok [8, 9] fun K hK => ?_
           simp only [go_sem, rL, rD, rE, rA, h23, lC, lZ, List.set_cons_zero, List.set_cons_succ]
           refine hK _ _ ?_
           clear hK K
           refine zj ?_
           simp only [zI5, retQ, zS, zT, zi1, exists_eq_left', go_sem, rD, rE, rA, h24, lC, lZ]
           exact zX3
         · rw [if_pos hc5] at h
           obtain ⟨pp, hp, h⟩ := bind_some h
           refine zi ?_
           refine hY _ _ ?_
           clear hY Y
           refine rc [3, 4, 5, 8, 9, 12, 13, 33, 34, 35, 68] fun K hK => ?_
           refine za tok 2 ?_
           simp only [go_sem, rL, rD, rE, rA, hf3, hx3, lC, lZ]
           refine zh rfl rfl rfl (put_at hL3.rep f.1 x.1 (es' := pp.1) (b := pp.2) hp) ?_
           rintro _ τ4 ⟨ever', L', rfl, hR4, he4, hid4, hle4, hfr4⟩
           refine za tok 1 ?_
           simp only [go_sem, rL, rE]
           refine zb ?_
           simp only [zd, upd, rE, reduceIte, zl, zn]
           refine hK _ _ ?_
           clear hK K
           have hkeep : ∀ {j v : Nat} {cs : List AV}, Store.at τ3 j v = some cs → j < 6 → j ≠ 3 → j ≠ 4 → Store.at τ4 j v = some cs := by
            intro j v cs hj h6 h3 h4
            have hlt := Store.at_lt hj
            unfold Store.at at hj ⊢
            rw [hfr4 j hlt (fun hm => ?_)]
            · exact hj
            · simp only [mI, List.mem_map] at hm
              rcases hm with h | h | ⟨z, hz, h⟩
              · exact h3 h
              · exact h4 h
              · have := hL3.ids z hz; omega
           have h45 : 6 ≤ τ3.length := by
            have := Store.at_lt hL3.h5; omega
           have hL4 : Loop τ4 a0 a1 ever' rver L' rest := by
            refine ⟨hkeep hL3.h0 (by decide) (by decide) (by decide), hkeep hL3.h1 (by decide) (by decide) (by decide), hkeep hL3.h2 (by decide) (by decide) (by decide), hR4, hkeep hL3.h5 (by decide) (by decide) (by decide), fun z hz => ?_⟩
            rcases hid4 z hz with h | h
            · obtain ⟨w, hw, h'⟩ := List.mem_map.1 h
              have := hL3.ids w hw; omega
            · omega
           have h43 := hL4.h2
           have h44 := Store.at_set (ver' := 0) (cs' := [.int .i64 0, .int .i64 0, .str [], .ds true [] 0 true, .ds true [] 0 true]) h43
           refine zx (b := !pp.2) rfl (fun hc6 => ?_) (fun hc6 => ?_)
           · have hc7 : pp.2 = false := by simpa using hc6
             rw [if_F hc7] at h
             obtain rfl := Option.some.inj h
             refine rg tok [8, 9] fun K hK => ?_
             simp only [go_sem, rL, rD, rE, rA, h43, lC, lZ, List.set_cons_zero, List.set_cons_succ]
             refine hK _ _ ?_
             clear hK K
             refine zj ?_
             simp only [zI5, retQ, zS, zT, zi1, exists_eq_left', go_sem, rD, rE, rA, h44, lC, lZ]
             exact zX3
           · have hc7 : pp.2 = true := by simpa using hc6
             rw [if_pos hc7] at h
             refine zi ?_
             simp only [zn2, zd]
             exact fin _ _ L' rest ever' rver ⟨rfl, rfl, rfl, rfl, rfl, rfl, rfl, rfl, rfl, rfl, trivial⟩ hL4 (by rw [he4]; exact h)
end Go.Proofs.YtaddlmlpeghonaaDoor
end
section
set_option maxRecDepth 8000
namespace Go.Proofs.YtaddlmlpeghonaaDoor
open Go.RowKit AM
mutual
def decode_message : Nat → GSchema → GMessage → List UInt8 → Int → Option (GTree × Int)
 | 0, _, _, _, _ => none
 | k + 1, a0, a1, a2, a3 => decode_message.body (decode_message k) (decode_one k) a0 a1 a2 a3
def decode_one : Nat → GSchema → GType → GRaw → Int → Option (GTree × Int)
 | 0, _, _, _, _ => none
 | k + 1, a0, a1, a2, a3 => decode_one.body (decode_message k) (decode_one k) a0 a1 a2 a3
end
theorem decode_message.all (k : Nat) :
 (∀ (a0 : GSchema) (a1 : GMessage) (a2 : List UInt8) (a3 : Int) (r : GTree × Int), decode_message k a0 a1 a2 a3 = some r → ACalls Tryd.prog 35 [.agg (encGSchema a0), .agg (encGMessage a1), .ds true (fM encB a2) (lN a2) false, .int .i64 a3] [] (fun r' _ => r' = .tup [.agg (cellsGTree r.1), .int .i64 r.2])) ∧
 (∀ (a0 : GSchema) (a1 : GType) (a2 : GRaw) (a3 : Int) (r : GTree × Int), decode_one k a0 a1 a2 a3 = some r → ACalls Tryd.prog 57 [.agg (encGSchema a0), .agg (encGType a1), .agg (encGRaw a2), .int .i64 a3] [] (fun r' _ => r' = .tup [.agg (cellsGTree r.1), .int .i64 r.2])) := by
 induction k with
 | zero => exact ⟨fun a0 a1 a2 a3 r h => (by simp only [decode_message] at h; cases h), fun a0 a1 a2 a3 r h => (by simp only [decode_one] at h; cases h)⟩
 | succ k ih =>
  exact ⟨fun a0 a1 a2 a3 r h => decode_message.step (decode_message k) (decode_one k) ih.2 a0 a1 a2 a3 r (by simpa only [decode_message] using h),
   fun a0 a1 a2 a3 r h => decode_one.step (decode_message k) (decode_one k) ih.1 ih.2 a0 a1 a2 a3 r (by simpa only [decode_one] using h)⟩
theorem decode_message.ok (k : Nat) (a0 : GSchema) (a1 : GMessage) (a2 : List UInt8) (a3 : Int) (r : GTree × Int) (h : decode_message k a0 a1 a2 a3 = some r) : ACalls Tryd.prog 35 [.agg (encGSchema a0), .agg (encGMessage a1), .ds true (fM encB a2) (lN a2) false, .int .i64 a3] [] (fun r' _ => r' = .tup [.agg (cellsGTree r.1), .int .i64 r.2]) :=
 (decode_message.all k).1 a0 a1 a2 a3 r h
theorem decode_message.ev (k : Nat) (a0 : GSchema) (a1 : GMessage) (a2 : List UInt8) (a3 : Int) (r : GTree × Int) (h : decode_message k a0 a1 a2 a3 = some r) (σ : Store) : ACalls Tryd.prog 35 [.agg (encGSchema a0), .agg (encGMessage a1), .ds true (fM encB a2) (lN a2) false, .int .i64 a3] σ (fun r' σ' => r' = .tup [.agg (cellsGTree r.1), .int .i64 r.2] ∧ σ' = σ) :=
 (decode_message.ok k a0 a1 a2 a3 r h).pureAt (by simp only [AV.canon, canonL, canon_all, Bool.and_self, Bool.not_false, Bool.or_true, encGMessage, encGSchema]) (by simp only [AV.canon, canonL, canon_all, Bool.and_self, Bool.not_false, Bool.or_true, cellsGTree]) σ
end Go.Proofs.YtaddlmlpeghonaaDoor
end
section
set_option maxRecDepth 4000
set_option maxHeartbeats 1000000
namespace Go.Proofs.YtaddlmlpeghonaaDoor
open AM
def runes_Count.l9 (a0 : List UInt8) : Nat → Nat → Int → Option Int
 | 0, _, _ => none
 | k9 + 1, p5, x6 => (if p5 < lN a0 then ((runes_Count.l9 a0 k9) (p5 + (decU a0 p5).2) (IntKind.i64.wrap (x6 + 1))) else some x6)
def runes_Count (a0 : List UInt8) : Option Int :=
 (runes_Valid a0).bind fun r2 => (if (!r2) = true then some 0 else (runes_Count.l9 a0 rounds 0 0))
theorem runes_Count.ok (a0 : List UInt8) (r : Int) (h : runes_Count a0 = some r) : ACalls Tryd.prog 77 [.str a0] [] (fun r' _ => r' = .int .i64 r) := by
 refine zm (rs := [.tmp 2]) tok Tryd.func77 rfl Tryd.ntmps77 rfl Tryd.call77 (by simp) ?_
 refine zo [(0, .str a0)] ⟨rfl, trivial⟩ ?_
 unfold runes_Count at h
 refine rg tok [0] fun K hK => ?_
 simp only [go_sem, rL, reduceCtorEq]
 refine hK _ _ ?_
 refine ze fun Z1 hZ1 => ?_
 refine rc [0, 6] fun K hK => ?_
 obtain ⟨r2, hr2, h⟩ := bind_some h
 refine za tok 1 ?_
 simp only [go_sem, rL]
 refine zh rfl rfl rfl (runes_Valid.ev a0 r2 hr2 _) ?_
 rintro _ _ ⟨rfl, rfl⟩
 refine za tok 1 ?_
 simp only [go_sem, rL, rE, reduceCtorEq]
 refine zb ?_
 simp only [zd, upd, rE, reduceIte, zl, zn]
 refine hK _ _ ?_
 refine zx (b := (!r2)) rfl (fun hc3 => ?_) (fun hc3 => ?_)
 · rw [if_pos hc3] at h
   refine rg tok [2] fun K hK => ?_
   simp only [go_sem, rL, rE, reduceCtorEq]
   refine hK _ _ ?_
   refine zj ?_
   obtain rfl := Option.some.inj h
   exact retA
 · rw [if_F hc3] at h
   refine zi ?_
   refine hZ1 _ _ ?_
   refine rg tok [0, 3] fun K hK => ?_
   simp only [go_sem, rL, rE, reduceCtorEq]
   refine hK _ _ ?_
   refine ze fun Z4 hZ4 => ?_
   refine rg tok [3, 8] fun K hK => ?_
   simp only [go_sem, rL, rE, reduceCtorEq]
   refine hK _ _ ?_
   refine zk ?_
   refine zw (fun m L τ => ∃ (k9 : Nat) (p5 : Nat) (x6 : Int), m = 0 + k9 ∧ L = ([(3, .int .i64 x6), (8, .it 0)] : List (Nat × AV)) ∧ τ = ([.iter a0 p5] : Store) ∧ runes_Count.l9 a0 k9 p5 x6 = some r) _ ⟨rounds, 0, 0, rfl, rfl, rfl, h⟩ .s ?_
   rintro m L τ ⟨k9, p5, x6, rfl, rfl, rfl, h⟩
   rcases k9 with _ | k9
   · cases h
   · simp only [runes_Count.l9] at h
     by_cases hn10 : p5 < lN a0
     · rw [if_pos hn10] at h
       have t11 := eq_true hn10
       refine rg tok [3, 8, 10] fun K hK => ?_
       simp only [go_sem, rL, rE, rA, ze4, if_true, if_false, t11]
       refine hK _ _ ?_
       refine ze fun Z12 hZ12 => ?_
       refine zt rfl ?_
       refine zi ?_
       refine hZ12 _ _ ?_
       refine zk ?_
       refine rgE tok [3, 8] fun K hK => ?_
       simp only [go_sem, rL, rE]
       refine hK _ _ ?_
       exact ⟨_, _, _, nS (0 + k9), ⟨k9, p5 + (decU a0 p5).2, IntKind.i64.wrap (x6 + 1), rfl, rfl, rfl, h⟩, .s⟩
     · rw [if_neg hn10] at h
       have t13 := eq_false hn10
       refine rg tok [3, 8, 10] fun K hK => ?_
       simp only [go_sem, rL, rE, ze4, if_true, if_false, t13]
       refine hK _ _ ?_
       refine ze fun Z14 hZ14 => ?_
       refine zq rfl ?_
       refine zz ?_
       refine hZ4 _ _ ?_
       refine rg tok [2] fun K hK => ?_
       simp only [go_sem, rL, rE]
       refine hK _ _ ?_
       refine zj ?_
       obtain rfl := Option.some.inj h
       exact retA
theorem runes_Count.ev (a0 : List UInt8) (r : Int) (h : runes_Count a0 = some r) (σ : Store) : ACalls Tryd.prog 77 [.str a0] σ (fun r' σ' => r' = .int .i64 r ∧ σ' = σ) :=
 (runes_Count.ok a0 r h).c σ
def runes_Key.j3 (x2 : Bool) : Bool :=
 (if x2 = true then true else false)
def runes_Key (a0 : List UInt8) : Bool :=
 (if a0 = [115, 99, 104, 101, 109, 97] then (runes_Key.j3 (decide (a0 = [115, 99, 104, 101, 109, 97]))) else (if a0 = [109, 101, 115, 115, 97, 103, 101] then (runes_Key.j3 (decide (a0 = [109, 101, 115, 115, 97, 103, 101]))) else (if a0 = [101, 110, 117, 109] then (runes_Key.j3 (decide (a0 = [101, 110, 117, 109]))) else (if a0 = [99, 97, 108, 108] then (runes_Key.j3 (decide (a0 = [99, 97, 108, 108]))) else (if a0 = [114, 101, 116, 117, 114, 110, 115] then (runes_Key.j3 (decide (a0 = [114, 101, 116, 117, 114, 110, 115]))) else (if a0 = [114, 101, 115, 101, 114, 118, 101, 100] then (runes_Key.j3 (decide (a0 = [114, 101, 115, 101, 114, 118, 101, 100]))) else (if a0 = [111, 112, 116, 105, 111, 110, 97, 108] then (runes_Key.j3 (decide (a0 = [111, 112, 116, 105, 111, 110, 97, 108]))) else (if a0 = [114, 101, 112, 101, 97, 116, 101, 100] then (runes_Key.j3 (decide (a0 = [114, 101, 112, 101, 97, 116, 101, 100]))) else (if a0 = [105, 110, 116, 51, 50] then (runes_Key.j3 (decide (a0 = [105, 110, 116, 51, 50]))) else (if a0 = [105, 110, 116, 54, 52] then (runes_Key.j3 (decide (a0 = [105, 110, 116, 54, 52]))) else (if a0 = [98, 111, 111, 108] then (runes_Key.j3 (decide (a0 = [98, 111, 111, 108]))) else (if a0 = [116, 101, 120, 116] then (runes_Key.j3 (decide (a0 = [116, 101, 120, 116]))) else (runes_Key.j3 (decide (a0 = [98, 121, 116, 101, 115])))))))))))))))
theorem runes_Key.ok (a0 : List UInt8) (r : Bool) (h : runes_Key a0 = r) : ACalls Tryd.prog 78 [.str a0] [] (fun r' _ => r' = .bool r) := by
 refine zm (rs := [.tmp 2]) tok Tryd.func78 rfl Tryd.ntmps78 rfl Tryd.call78 (by simp) ?_
 refine zo [(0, .str a0)] ⟨rfl, trivial⟩ ?_
 unfold runes_Key at h
 refine rg tok [0] fun K hK => ?_
 simp only [go_sem, rL, reduceCtorEq]
 refine hK _ _ ?_
 refine ze fun Z1 hZ1 => ?_
 refine rg tok [3] fun K hK => ?_
 simp only [go_sem, rL, reduceCtorEq]
 refine hK _ _ ?_
 refine zk ?_
 refine zk1 (fun L τ => ∃ (x2 : Bool), L = ([(4, .bool x2)] : List (Nat × AV)) ∧ τ = ([] : Store) ∧ runes_Key.j3 x2 = r) ?_ ?_
 · refine rg tok [3, 4] fun K hK => ?_
   simp only [go_sem, rL, rE]
   refine hK _ _ ?_
   refine zA rfl (fun hc5 => ?_) (fun hc5 => ?_)
   · rw [if_pos hc5] at h
     have t6 := eq_true hc5
     refine zi ?_
     exact ⟨_, _, ⟨decide (a0 = [115, 99, 104, 101, 109, 97]), rfl, rfl, h⟩, .s⟩
   · rw [if_neg hc5] at h
     have t7 := eq_false hc5
     refine rg tok [3, 4] fun K hK => ?_
     simp only [go_sem, rL, rE, t7]
     refine hK _ _ ?_
     refine zA rfl (fun hc8 => ?_) (fun hc8 => ?_)
     · rw [if_pos hc8] at h
       have t9 := eq_true hc8
       refine zi ?_
       exact ⟨_, _, ⟨decide (a0 = [109, 101, 115, 115, 97, 103, 101]), rfl, rfl, h⟩, .s⟩
     · rw [if_neg hc8] at h
       have t10 := eq_false hc8
       refine rg tok [3, 4] fun K hK => ?_
       simp only [go_sem, rL, rE, t10]
       refine hK _ _ ?_
       refine zA rfl (fun hc11 => ?_) (fun hc11 => ?_)
       · rw [if_pos hc11] at h
         have t12 := eq_true hc11
         refine zi ?_
         exact ⟨_, _, ⟨decide (a0 = [101, 110, 117, 109]), rfl, rfl, h⟩, .s⟩
       · rw [if_neg hc11] at h
         have t13 := eq_false hc11
         refine rg tok [3, 4] fun K hK => ?_
         simp only [go_sem, rL, rE, t13]
         refine hK _ _ ?_
         refine zA rfl (fun hc14 => ?_) (fun hc14 => ?_)
         · rw [if_pos hc14] at h
           have t15 := eq_true hc14
           refine zi ?_
           exact ⟨_, _, ⟨decide (a0 = [99, 97, 108, 108]), rfl, rfl, h⟩, .s⟩
         · rw [if_neg hc14] at h
           have t16 := eq_false hc14
           refine rg tok [3, 4] fun K hK => ?_
           simp only [go_sem, rL, rE, t16]
           refine hK _ _ ?_
           refine zA rfl (fun hc17 => ?_) (fun hc17 => ?_)
           · rw [if_pos hc17] at h
             have t18 := eq_true hc17
             refine zi ?_
             exact ⟨_, _, ⟨decide (a0 = [114, 101, 116, 117, 114, 110, 115]), rfl, rfl, h⟩, .s⟩
           · rw [if_neg hc17] at h
             have t19 := eq_false hc17
             refine rg tok [3, 4] fun K hK => ?_
             simp only [go_sem, rL, rE, t19]
             refine hK _ _ ?_
             refine zA rfl (fun hc20 => ?_) (fun hc20 => ?_)
             · rw [if_pos hc20] at h
               have t21 := eq_true hc20
               refine zi ?_
               exact ⟨_, _, ⟨decide (a0 = [114, 101, 115, 101, 114, 118, 101, 100]), rfl, rfl, h⟩, .s⟩
             · rw [if_neg hc20] at h
               have t22 := eq_false hc20
               refine rg tok [3, 4] fun K hK => ?_
               simp only [go_sem, rL, rE, t22]
               refine hK _ _ ?_
               refine zA rfl (fun hc23 => ?_) (fun hc23 => ?_)
               · rw [if_pos hc23] at h
                 have t24 := eq_true hc23
                 refine zi ?_
                 exact ⟨_, _, ⟨decide (a0 = [111, 112, 116, 105, 111, 110, 97, 108]), rfl, rfl, h⟩, .s⟩
               · rw [if_neg hc23] at h
                 have t25 := eq_false hc23
                 refine rg tok [3, 4] fun K hK => ?_
                 simp only [go_sem, rL, rE, t25]
                 refine hK _ _ ?_
                 refine zA rfl (fun hc26 => ?_) (fun hc26 => ?_)
                 · rw [if_pos hc26] at h
                   have t27 := eq_true hc26
                   refine zi ?_
                   exact ⟨_, _, ⟨decide (a0 = [114, 101, 112, 101, 97, 116, 101, 100]), rfl, rfl, h⟩, .s⟩
                 · rw [if_neg hc26] at h
                   have t28 := eq_false hc26
                   refine rg tok [3, 4] fun K hK => ?_
                   simp only [go_sem, rL, rE, t28]
                   refine hK _ _ ?_
                   refine zA rfl (fun hc29 => ?_) (fun hc29 => ?_)
                   · rw [if_pos hc29] at h
                     have t30 := eq_true hc29
                     refine zi ?_
                     exact ⟨_, _, ⟨decide (a0 = [105, 110, 116, 51, 50]), rfl, rfl, h⟩, .s⟩
                   · rw [if_neg hc29] at h
                     have t31 := eq_false hc29
                     refine rg tok [3, 4] fun K hK => ?_
                     simp only [go_sem, rL, rE, t31]
                     refine hK _ _ ?_
                     refine zA rfl (fun hc32 => ?_) (fun hc32 => ?_)
                     · rw [if_pos hc32] at h
                       have t33 := eq_true hc32
                       refine zi ?_
                       exact ⟨_, _, ⟨decide (a0 = [105, 110, 116, 54, 52]), rfl, rfl, h⟩, .s⟩
                     · rw [if_neg hc32] at h
                       have t34 := eq_false hc32
                       refine rg tok [3, 4] fun K hK => ?_
                       simp only [go_sem, rL, rE, t34]
                       refine hK _ _ ?_
                       refine zA rfl (fun hc35 => ?_) (fun hc35 => ?_)
                       · rw [if_pos hc35] at h
                         have t36 := eq_true hc35
                         refine zi ?_
                         exact ⟨_, _, ⟨decide (a0 = [98, 111, 111, 108]), rfl, rfl, h⟩, .s⟩
                       · rw [if_neg hc35] at h
                         have t37 := eq_false hc35
                         refine rg tok [3, 4] fun K hK => ?_
                         simp only [go_sem, rL, rE, t37]
                         refine hK _ _ ?_
                         refine zA rfl (fun hc38 => ?_) (fun hc38 => ?_)
                         · rw [if_pos hc38] at h
                           have t39 := eq_true hc38
                           refine zi ?_
                           exact ⟨_, _, ⟨decide (a0 = [116, 101, 120, 116]), rfl, rfl, h⟩, .s⟩
                         · rw [if_neg hc38] at h
                           have t40 := eq_false hc38
                           refine rgE tok [4] fun K hK => ?_
                           simp only [go_sem, rL, rE, t40]
                           refine hK _ _ ?_
                           exact ⟨_, _, ⟨decide (a0 = [98, 121, 116, 101, 115]), rfl, rfl, h⟩, .s⟩
 rintro _ _ ⟨x2, rfl, rfl, h⟩
 unfold runes_Key.j3 at h
 refine zx (b := x2) rfl (fun hc4 => ?_) (fun hc4 => ?_)
 · rw [if_pos hc4] at h
   refine rg tok [2] fun K hK => ?_
   simp only [go_sem, rL, rE]
   refine hK _ _ ?_
   refine zj ?_
   obtain rfl := h
   exact retA
 · rw [if_F hc4] at h
   refine zi ?_
   refine hZ1 _ _ ?_
   refine rg tok [2] fun K hK => ?_
   simp only [go_sem, rL, rE]
   refine hK _ _ ?_
   refine zj ?_
   obtain rfl := h
   exact retA
theorem runes_Key.ev (a0 : List UInt8) (r : Bool) (h : runes_Key a0 = r) (σ : Store) : ACalls Tryd.prog 78 [.str a0] σ (fun r' σ' => r' = .bool r ∧ σ' = σ) :=
 (runes_Key.ok a0 r h).c σ
def runes_in (a0 : Int) (a1 : Int) (a2 : Int) : Bool :=
 ((decide (a1 ≤ a0)) && (decide (a0 ≤ a2)))
theorem runes_in.ok (a0 : Int) (a1 : Int) (a2 : Int) (r : Bool) (h : runes_in a0 a1 a2 = r) : ACalls Tryd.prog 108 [.int .i32 a0, .int .i32 a1, .int .i32 a2] [] (fun r' _ => r' = .bool r) := by
 refine zm (rs := [.tmp 6]) tok Tryd.func108 rfl Tryd.ntmps108 rfl Tryd.call108 (by simp) ?_
 refine zo [(0, .int .i32 a0), (1, .int .i32 a1), (2, .int .i32 a2)] ⟨rfl, rfl, rfl, trivial⟩ ?_
 unfold runes_in at h
 refine rg tok [0, 1, 2] fun K hK => ?_
 simp only [go_sem, rL, rE, reduceCtorEq]
 refine hK _ _ ?_
 refine rc [6] fun K hK => ?_
 refine za tok 4 ?_
 simp only [go_sem, rL, rE, reduceCtorEq]
 refine zp 4 (fun L τ => L = ([(14, .bool ((decide (a1 ≤ a0)) && (decide (a0 ≤ a2))))] : List (Nat × AV)) ∧ τ = ([] : Store)) ?_ ?_
 · refine za1 10 rfl (fun hg10 => ?_) (fun hg10 => ?_)
   · have t1 := eq_true hg10
     refine za tok 4 ?_
     simp only [go_sem, rL, rE, reduceCtorEq]
     refine zb ⟨rfl, _, _, ⟨rfl, rfl⟩, .p t1⟩
   · have t2 := eq_false hg10
     refine za tok 4 ?_
     simp only [go_sem, rL, rE, reduceCtorEq]
     refine zb ⟨rfl, _, _, ⟨rfl, rfl⟩, .p t2⟩
 rintro _ _ ⟨rfl, rfl⟩
 refine za tok 1 ?_
 simp only [go_sem, rL]
 refine zb ?_
 simp only [zd, upd, rE, reduceIte, zl, zn]
 refine hK _ _ ?_
 refine zj ?_
 obtain rfl := h
 exact retA
theorem runes_in.ev (a0 : Int) (a1 : Int) (a2 : Int) (r : Bool) (h : runes_in a0 a1 a2 = r) (σ : Store) : ACalls Tryd.prog 108 [.int .i32 a0, .int .i32 a1, .int .i32 a2] σ (fun r' σ' => r' = .bool r ∧ σ' = σ) :=
 (runes_in.ok a0 a1 a2 r h).c σ
def runes_Letter.j6 (a0 : Int) (x5 : Bool) : Bool :=
 (if x5 = true then false else bnd (runes_in a0 97 122) fun r8 => bnd (if r8 = true then true else bnd (runes_in a0 65 90) fun r9 => r9) fun c9 => bnd (if c9 = true then true else bnd (runes_in a0 192 591) fun r11 => r11) fun c11 => bnd (if c11 = true then true else bnd (runes_in a0 913 969) fun r13 => r13) fun c13 => c13)
def runes_Letter (a0 : Int) : Bool :=
 (if a0 = 95 then true else (if a0 = 215 then (runes_Letter.j6 a0 (decide (a0 = 215))) else (if a0 = 247 then (runes_Letter.j6 a0 (decide (a0 = 247))) else (runes_Letter.j6 a0 (decide (a0 = 930))))))
theorem runes_Letter.ok (a0 : Int) (r : Bool) (h : runes_Letter a0 = r) : ACalls Tryd.prog 79 [.int .i32 a0] [] (fun r' _ => r' = .bool r) := by
 refine zm (rs := [.tmp 2]) tok Tryd.func79 rfl Tryd.ntmps79 rfl Tryd.call79 (by simp) ?_
 refine zo [(0, .int .i32 a0)] ⟨rfl, trivial⟩ ?_
 unfold runes_Letter at h
 refine rg tok [0] fun K hK => ?_
 simp only [go_sem, rL, reduceCtorEq]
 refine hK _ _ ?_
 refine ze fun Z1 hZ1 => ?_
 refine rg tok [0, 3] fun K hK => ?_
 simp only [go_sem, rL, reduceCtorEq]
 refine hK _ _ ?_
 refine zk ?_
 refine rg tok [0, 3, 4] fun K hK => ?_
 simp only [go_sem, rL, rE, reduceCtorEq]
 refine hK _ _ ?_
 refine zA rfl (fun hc2 => ?_) (fun hc2 => ?_)
 · rw [if_pos hc2] at h
   have t3 := eq_true hc2
   refine rg tok [2] fun K hK => ?_
   simp only [go_sem, rL, rE, reduceCtorEq, t3]
   refine hK _ _ ?_
   refine zj ?_
   obtain rfl := h
   exact retA
 · rw [if_neg hc2] at h
   have t4 := eq_false hc2
   refine zk1 (fun L τ => ∃ (x5 : Bool), L = ([(0, .int .i32 a0), (6, .bool x5)] : List (Nat × AV)) ∧ τ = ([] : Store) ∧ runes_Letter.j6 a0 x5 = r) ?_ ?_
   · refine rg tok [0, 3, 6] fun K hK => ?_
     simp only [go_sem, rL, rE, reduceCtorEq, t4]
     refine hK _ _ ?_
     refine zA rfl (fun hc15 => ?_) (fun hc15 => ?_)
     · rw [if_pos hc15] at h
       have t16 := eq_true hc15
       refine zi ?_
       exact ⟨_, _, ⟨decide (a0 = 215), rfl, rfl, h⟩, .s⟩
     · rw [if_neg hc15] at h
       have t17 := eq_false hc15
       refine rg tok [0, 3, 6] fun K hK => ?_
       simp only [go_sem, rL, rE, reduceCtorEq, t17]
       refine hK _ _ ?_
       refine zA rfl (fun hc18 => ?_) (fun hc18 => ?_)
       · rw [if_pos hc18] at h
         have t19 := eq_true hc18
         refine zi ?_
         exact ⟨_, _, ⟨decide (a0 = 247), rfl, rfl, h⟩, .s⟩
       · rw [if_neg hc18] at h
         have t20 := eq_false hc18
         refine rgE tok [0, 6] fun K hK => ?_
         simp only [go_sem, rL, rE, reduceCtorEq, t20]
         refine hK _ _ ?_
         exact ⟨_, _, ⟨decide (a0 = 930), rfl, rfl, h⟩, .s⟩
   rintro _ _ ⟨x5, rfl, rfl, h⟩
   unfold runes_Letter.j6 at h
   refine zx (b := x5) rfl (fun hc7 => ?_) (fun hc7 => ?_)
   · rw [if_pos hc7] at h
     refine rg tok [2] fun K hK => ?_
     simp only [go_sem, rL, rE, reduceCtorEq]
     refine hK _ _ ?_
     refine zj ?_
     obtain rfl := h
     exact retA
   · rw [if_F hc7] at h
     refine zi ?_
     refine hZ1 _ _ ?_
     refine rc [2] fun K hK => ?_
     obtain ⟨r8, hr8, h⟩ := zJ h
     refine za tok 1 ?_
     simp only [go_sem, rL, reduceCtorEq]
     refine zh rfl rfl rfl (runes_in.ev a0 97 122 r8 hr8 _) ?_
     rintro _ _ ⟨rfl, rfl⟩
     refine za tok 1 ?_
     simp only [go_sem, rL, rE, reduceCtorEq]
     obtain ⟨c9, hc9, h⟩ := zJ h
     refine zp 3 (fun L τ => L = ([(0, .int .i32 a0), (15, .bool c9)] : List (Nat × AV)) ∧ τ = ([] : Store)) ?_ ?_
     · refine zI (b := r8) 12 rfl (fun hg12 => ?_) (fun hg12 => ?_)
       · rw [if_pos hg12] at hc9
         refine za tok 3 ?_
         simp only [go_sem, rL, rE, reduceCtorEq]
         subst hc9
         refine zb ⟨rfl, _, _, ⟨rfl, rfl⟩, .b hg12⟩
       · rw [if_F hg12] at hc9
         obtain ⟨r10, hr10, hc9⟩ := zJ hc9
         refine za tok 1 ?_
         simp only [go_sem, rL, rE, reduceCtorEq]
         refine zh rfl rfl rfl (runes_in.ev a0 65 90 r10 hr10 _) ?_
         rintro _ _ ⟨rfl, rfl⟩
         refine za tok 1 ?_
         simp only [go_sem, rL, rE, reduceCtorEq]
         subst hc9
         refine zb ⟨rfl, _, _, ⟨rfl, rfl⟩, .b hg12⟩
     rintro _ _ ⟨rfl, rfl⟩
     refine za tok 1 ?_
     simp only [go_sem, rL, reduceCtorEq]
     obtain ⟨c11, hc11, h⟩ := zJ h
     refine zp 3 (fun L τ => L = ([(0, .int .i32 a0), (19, .bool c11)] : List (Nat × AV)) ∧ τ = ([] : Store)) ?_ ?_
     · refine zI (b := c9) 16 rfl (fun hg16 => ?_) (fun hg16 => ?_)
       · rw [if_pos hg16] at hc11
         refine za tok 3 ?_
         simp only [go_sem, rL, rE, reduceCtorEq]
         subst hc11
         refine zb ⟨rfl, _, _, ⟨rfl, rfl⟩, .b hg16⟩
       · rw [if_F hg16] at hc11
         obtain ⟨r12, hr12, hc11⟩ := zJ hc11
         refine za tok 1 ?_
         simp only [go_sem, rL, rE, reduceCtorEq]
         refine zh rfl rfl rfl (runes_in.ev a0 192 591 r12 hr12 _) ?_
         rintro _ _ ⟨rfl, rfl⟩
         refine za tok 1 ?_
         simp only [go_sem, rL, rE, reduceCtorEq]
         subst hc11
         refine zb ⟨rfl, _, _, ⟨rfl, rfl⟩, .b hg16⟩
     rintro _ _ ⟨rfl, rfl⟩
     refine za tok 1 ?_
     simp only [go_sem, rL, reduceCtorEq]
     obtain ⟨c13, hc13, h⟩ := zJ h
     refine zp 3 (fun L τ => L = ([(23, .bool c13)] : List (Nat × AV)) ∧ τ = ([] : Store)) ?_ ?_
     · refine zI (b := c11) 20 rfl (fun hg20 => ?_) (fun hg20 => ?_)
       · rw [if_pos hg20] at hc13
         refine za tok 3 ?_
         simp only [go_sem, rL, rE, reduceCtorEq]
         subst hc13
         refine zb ⟨rfl, _, _, ⟨rfl, rfl⟩, .b hg20⟩
       · rw [if_F hg20] at hc13
         obtain ⟨r14, hr14, hc13⟩ := zJ hc13
         refine za tok 1 ?_
         simp only [go_sem, rL, rE, reduceCtorEq]
         refine zh rfl rfl rfl (runes_in.ev a0 913 969 r14 hr14 _) ?_
         rintro _ _ ⟨rfl, rfl⟩
         refine za tok 1 ?_
         simp only [go_sem, rL, rE, reduceCtorEq]
         subst hc13
         refine zb ⟨rfl, _, _, ⟨rfl, rfl⟩, .b hg20⟩
     rintro _ _ ⟨rfl, rfl⟩
     refine za tok 1 ?_
     simp only [go_sem, rL]
     refine zb ?_
     simp only [zd, upd, rE, reduceIte, zl, zn]
     refine hK _ _ ?_
     refine zj ?_
     obtain rfl := h
     exact retA
theorem runes_Letter.ev (a0 : Int) (r : Bool) (h : runes_Letter a0 = r) (σ : Store) : ACalls Tryd.prog 79 [.int .i32 a0] σ (fun r' σ' => r' = .bool r ∧ σ' = σ) :=
 (runes_Letter.ok a0 r h).c σ
def runes_Digit (a0 : Int) : Bool :=
 bnd (runes_in a0 48 57) fun r1 => r1
theorem runes_Digit.ok (a0 : Int) (r : Bool) (h : runes_Digit a0 = r) : ACalls Tryd.prog 80 [.int .i32 a0] [] (fun r' _ => r' = .bool r) := by
 refine zm (rs := [.tmp 2]) tok Tryd.func80 rfl Tryd.ntmps80 rfl Tryd.call80 (by simp) ?_
 refine zo [(0, .int .i32 a0)] ⟨rfl, trivial⟩ ?_
 unfold runes_Digit at h
 refine rg tok [0] fun K hK => ?_
 simp only [go_sem, rL, reduceCtorEq]
 refine hK _ _ ?_
 refine rc [2] fun K hK => ?_
 obtain ⟨r1, hr1, h⟩ := zJ h
 refine za tok 1 ?_
 simp only [go_sem, rL]
 refine zh rfl rfl rfl (runes_in.ev a0 48 57 r1 hr1 _) ?_
 rintro _ _ ⟨rfl, rfl⟩
 refine za tok 1 ?_
 simp only [go_sem, rL, rE, reduceCtorEq]
 refine zb ?_
 simp only [zd, upd, rE, reduceIte, zl, zn]
 refine hK _ _ ?_
 refine zj ?_
 obtain rfl := h
 exact retA
theorem runes_Digit.ev (a0 : Int) (r : Bool) (h : runes_Digit a0 = r) (σ : Store) : ACalls Tryd.prog 80 [.int .i32 a0] σ (fun r' σ' => r' = .bool r ∧ σ' = σ) :=
 (runes_Digit.ok a0 r h).c σ
def runes_Name.l11 (a0 : List UInt8) : Nat → Nat → Option Bool
 | 0, _ => none
 | k11 + 1, p9 => (if p9 < lN a0 then bnd (runes_Letter ((decU a0 p9).1 : Int)) fun r15 => bnd (if (!r15) = true then bnd (if ((p9 : Nat) : Int) = 0 then true else bnd (runes_Digit ((decU a0 p9).1 : Int)) fun r16 => !r16) fun c16 => c16 else false) fun c16 => (if c16 = true then some false else ((runes_Name.l11 a0 k11) (p9 + (decU a0 p9).2))) else some true)
def runes_Name (a0 : List UInt8) : Option Bool :=
 (runes_Count a0).bind fun r1 => bnd (if ((decide (r1 < 1)) || (decide (20 < r1))) = true then true else bnd (runes_Key a0) fun r5 => r5) fun c5 => (if c5 = true then some false else (runes_Name.l11 a0 rounds 0))
theorem runes_Name.ok (a0 : List UInt8) (r : Bool) (h : runes_Name a0 = some r) : ACalls Tryd.prog 51 [.str a0] [] (fun r' _ => r' = .bool r) := by
 refine zm (rs := [.tmp 2]) tok Tryd.func51 rfl Tryd.ntmps51 rfl Tryd.call51 (by simp) ?_
 refine zo [(0, .str a0)] ⟨rfl, trivial⟩ ?_
 unfold runes_Name at h
 refine rg tok [0] fun K hK => ?_
 simp only [go_sem, rL, reduceCtorEq]
 refine hK _ _ ?_
 refine rc [0, 3] fun K hK => ?_
 obtain ⟨r1, hr1, h⟩ := bind_some h
 refine za tok 1 ?_
 simp only [go_sem, rL]
 refine zh rfl rfl rfl (runes_Count.ev a0 r1 hr1 _) ?_
 rintro _ _ ⟨rfl, rfl⟩
 refine za tok 1 ?_
 simp only [go_sem, rL, rE, reduceCtorEq]
 refine zb ?_
 simp only [zd, upd, rE, reduceIte, zl, zn]
 refine hK _ _ ?_
 refine ze fun Z2 hZ2 => ?_
 refine rc [0, 17] fun K hK => ?_
 refine za tok 3 ?_
 simp only [go_sem, rL, rE, reduceCtorEq]
 refine zp 3 (fun L τ => L = ([(0, .str a0), (13, .bool ((decide (r1 < 1)) || (decide (20 < r1))))] : List (Nat × AV)) ∧ τ = ([] : Store)) ?_ ?_
 · refine za1 10 rfl (fun hg10 => ?_) (fun hg10 => ?_)
   · have t3 := eq_true hg10
     refine za tok 3 ?_
     simp only [go_sem, rL, rE, reduceCtorEq]
     refine zb ⟨rfl, _, _, ⟨rfl, rfl⟩, .p t3⟩
   · have t4 := eq_false hg10
     refine za tok 3 ?_
     simp only [go_sem, rL, rE, reduceCtorEq]
     refine zb ⟨rfl, _, _, ⟨rfl, rfl⟩, .p t4⟩
 rintro _ _ ⟨rfl, rfl⟩
 refine za tok 1 ?_
 simp only [go_sem, rL, reduceCtorEq]
 obtain ⟨c5, hc5, h⟩ := zJ h
 refine zp 3 (fun L τ => L = ([(0, .str a0), (17, .bool c5)] : List (Nat × AV)) ∧ τ = ([] : Store)) ?_ ?_
 · refine zI (b := ((decide (r1 < 1)) || (decide (20 < r1)))) 14 rfl (fun hg14 => ?_) (fun hg14 => ?_)
   · rw [if_pos hg14] at hc5
     refine za tok 3 ?_
     simp only [go_sem, rL, rE, reduceCtorEq]
     subst hc5
     refine zb ⟨rfl, _, _, ⟨rfl, rfl⟩, .b hg14⟩
   · rw [if_F hg14] at hc5
     obtain ⟨r6, hr6, hc5⟩ := zJ hc5
     refine za tok 1 ?_
     simp only [go_sem, rL, rE, reduceCtorEq]
     refine zh rfl rfl rfl (runes_Key.ev a0 r6 hr6 _) ?_
     rintro _ _ ⟨rfl, rfl⟩
     refine za tok 1 ?_
     simp only [go_sem, rL, rE, reduceCtorEq]
     subst hc5
     refine zb ⟨rfl, _, _, ⟨rfl, rfl⟩, .b hg14⟩
 rintro _ _ ⟨rfl, rfl⟩
 refine zb ?_
 simp only [zd, rE, reduceIte, zl, zn]
 refine hK _ _ ?_
 refine zx (b := c5) rfl (fun hc7 => ?_) (fun hc7 => ?_)
 · rw [if_pos hc7] at h
   refine rg tok [2] fun K hK => ?_
   simp only [go_sem, rL, rE, reduceCtorEq]
   refine hK _ _ ?_
   refine zj ?_
   obtain rfl := Option.some.inj h
   exact retA
 · rw [if_F hc7] at h
   refine zi ?_
   refine hZ2 _ _ ?_
   refine ze fun Z8 hZ8 => ?_
   refine rg tok [19] fun K hK => ?_
   simp only [go_sem, rL, rE, reduceCtorEq]
   refine hK _ _ ?_
   refine zk ?_
   refine zw (fun m L τ => ∃ (k11 : Nat) (p9 : Nat), m = 0 + k11 ∧ L = ([(19, .it 0)] : List (Nat × AV)) ∧ τ = ([.iter a0 p9] : Store) ∧ runes_Name.l11 a0 k11 p9 = some r) _ ⟨rounds, 0, rfl, rfl, rfl, h⟩ .s ?_
   rintro m L τ ⟨k11, p9, rfl, rfl, rfl, h⟩
   rcases k11 with _ | k11
   · cases h
   · simp only [runes_Name.l11] at h
     by_cases hn12 : p9 < lN a0
     · rw [if_pos hn12] at h
       have t13 := eq_true hn12
       refine rg tok [19, 20, 21] fun K hK => ?_
       simp only [go_sem, rL, rE, rA, ze4, if_true, if_false, t13]
       refine hK _ _ ?_
       refine ze fun Z14 hZ14 => ?_
       refine zt rfl ?_
       refine zi ?_
       refine hZ14 _ _ ?_
       refine zk ?_
       refine rg tok [4, 5, 19] fun K hK => ?_
       simp only [go_sem, rL, rE, rA]
       refine hK _ _ ?_
       refine rc [19, 35] fun K hK => ?_
       obtain ⟨r15, hr15, h⟩ := zJ h
       refine za tok 1 ?_
       simp only [go_sem, rL, rE]
       refine zh rfl rfl rfl (runes_Letter.ev ((decU a0 p9).1 : Int) r15 hr15 _) ?_
       rintro _ _ ⟨rfl, rfl⟩
       refine za tok 2 ?_
       simp only [go_sem, rL, rE]
       obtain ⟨c16, hc16, h⟩ := zJ h
       refine zp 8 (fun L τ => L = ([(19, .it 0), (35, .bool c16)] : List (Nat × AV)) ∧ τ = ([.iter a0 (p9 + (decU a0 p9).2)] : Store)) ?_ ?_
       · refine zI (b := (!r15)) 27 rfl (fun hg27 => ?_) (fun hg27 => ?_)
         · rw [if_pos hg27] at hc16
           refine za tok 3 ?_
           simp only [go_sem, rL, rE]
           obtain ⟨c17, hc17, hc16⟩ := zJ hc16
           refine zp 4 (fun L τ => L = ([(19, .it 0), (27, .bool true), (34, .bool c17)] : List (Nat × AV)) ∧ τ = ([.iter a0 (p9 + (decU a0 p9).2)] : Store)) ?_ ?_
           · refine za1 30 rfl (fun hg30 => ?_) (fun hg30 => ?_)
             · have t18 := eq_true hg30
               rw [if_pos hg30] at hc17
               refine za tok 4 ?_
               simp only [go_sem, rL, rE]
               subst hc17
               refine zb ⟨rfl, _, _, ⟨rfl, rfl⟩, .p t18⟩
             · have t19 := eq_false hg30
               rw [if_neg hg30] at hc17
               obtain ⟨r20, hr20, hc17⟩ := zJ hc17
               refine za tok 1 ?_
               simp only [go_sem, rL, rE]
               refine zh rfl rfl rfl (runes_Digit.ev ((decU a0 p9).1 : Int) r20 hr20 _) ?_
               rintro _ _ ⟨rfl, rfl⟩
               refine za tok 2 ?_
               simp only [go_sem, rL, rE]
               subst hc17
               refine zb ⟨rfl, _, _, ⟨rfl, rfl⟩, .p t19⟩
           rintro _ _ ⟨rfl, rfl⟩
           refine za tok 1 ?_
           simp only [go_sem, rL, rE]
           subst hc16
           refine zb ⟨rfl, _, _, ⟨rfl, rfl⟩, .b hg27⟩
         · rw [if_F hg27] at hc16
           refine za tok 8 ?_
           simp only [go_sem, rL, rE]
           subst hc16
           refine zb ⟨rfl, _, _, ⟨rfl, rfl⟩, .b hg27⟩
       rintro _ _ ⟨rfl, rfl⟩
       refine zb ?_
       simp only [zd, rE, reduceIte, zl, zn]
       refine hK _ _ ?_
       refine zx (b := c16) rfl (fun hc21 => ?_) (fun hc21 => ?_)
       · rw [if_pos hc21] at h
         refine rg tok [2] fun K hK => ?_
         simp only [go_sem, rL, rE]
         refine hK _ _ ?_
         refine zj ?_
         obtain rfl := Option.some.inj h
         exact retA
       · rw [if_F hc21] at h
         refine zi ?_
         exact ⟨_, _, _, nS (0 + k11), ⟨k11, p9 + (decU a0 p9).2, rfl, rfl, rfl, h⟩, .s⟩
     · rw [if_neg hn12] at h
       have t22 := eq_false hn12
       refine rg tok [19, 20, 21] fun K hK => ?_
       simp only [go_sem, rL, rE, ze4, if_true, if_false, t22]
       refine hK _ _ ?_
       refine ze fun Z23 hZ23 => ?_
       refine zq rfl ?_
       refine zz ?_
       refine hZ8 _ _ ?_
       refine rg tok [2] fun K hK => ?_
       simp only [go_sem, rL, rE]
       refine hK _ _ ?_
       refine zj ?_
       obtain rfl := Option.some.inj h
       exact retA
theorem runes_Name.ev (a0 : List UInt8) (r : Bool) (h : runes_Name a0 = some r) (σ : Store) : ACalls Tryd.prog 51 [.str a0] σ (fun r' σ' => r' = .bool r ∧ σ' = σ) :=
 (runes_Name.ok a0 r h).c σ
def check_names_takes (a0 : List (List UInt8 × Bool)) (a1 : List UInt8) : Option (Bool × List (List UInt8 × Bool)) :=
 (runes_Name a1).bind fun r2 => (if ((!r2) || ((getM a0 a1).getD false)) = true then some (false, a0) else some (true, setM a0 a1 true))
theorem check_names_takes.ok (a0 : List (List UInt8 × Bool)) (a1 : List UInt8) (r : Bool × List (List UInt8 × Bool)) (h : check_names_takes a0 a1 = some r) : ACalls Tryd.prog 54 [.mp 0, .str a1] [.map (encM AV.str AV.bool a0)] (fun r' σ' => r' = .bool r.1 ∧ σ' = [.map (encM AV.str AV.bool r.2)]) := by
 refine zq4 [0] (rs := [.tmp 4]) tok Tryd.func54 rfl Tryd.ntmps54 rfl Tryd.call54 (by simp) rfl ?_
 refine zo [(0, .mp 0), (1, .str a1)] ⟨rfl, rfl, trivial⟩ ?_
 unfold check_names_takes at h
 refine rg tok [0, 1] fun K hK => ?_
 simp only [go_sem, rL, rE, reduceCtorEq]
 refine hK _ _ ?_
 refine ze fun Z1 hZ1 => ?_
 refine rc [0, 1, 12] fun K hK => ?_
 obtain ⟨r2, hr2, h⟩ := bind_some h
 refine za tok 1 ?_
 simp only [go_sem, rL, reduceCtorEq]
 refine zh rfl rfl rfl (runes_Name.ev a1 r2 hr2 _) ?_
 rintro _ _ ⟨rfl, rfl⟩
 refine za tok 2 ?_
 simp only [go_sem, rL, rE, reduceCtorEq]
 refine zp 4 (fun L τ => L = ([(0, .mp 0), (1, .str a1), (12, .bool ((!r2) || ((getM a0 a1).getD false)))] : List (Nat × AV)) ∧ τ = ([.map (encM AV.str AV.bool a0)] : Store)) ?_ ?_
 · refine zI (b := (!r2)) 8 rfl (fun hg8 => ?_) (fun hg8 => ?_)
   · refine za tok 4 ?_
     simp only [go_sem, rL, rE, reduceCtorEq, if_false, if_true]
     refine zb ⟨rfl, _, _, ⟨rfl, rfl⟩, .b hg8⟩
   · have f3 := fun (x : Store) => zQ4 (T := tab) (t := 105) (ek := AV.str) (ev := AV.bool) (z := false) (KeyE.str rfl rfl rfl rfl) rfl rfl rfl rfl a0 a1 false (.map (encM AV.str AV.bool a0) :: x) 0 rfl
     refine za tok 4 ?_
     simp only [go_sem, rL, rE, reduceCtorEq, zK3, Bool.false_eq_true, if_false, if_true, f3]
     refine zb ⟨rfl, _, _, ⟨rfl, rfl⟩, .b hg8⟩
 rintro _ _ ⟨rfl, rfl⟩
 refine zb ?_
 simp only [zd, rE, reduceIte, zl, zn]
 refine hK _ _ ?_
 refine zx (b := ((!r2) || ((getM a0 a1).getD false))) rfl (fun hc4 => ?_) (fun hc4 => ?_)
 · rw [if_pos hc4] at h
   refine rg tok [4] fun K hK => ?_
   simp only [go_sem, rL, rE, reduceCtorEq]
   refine hK _ _ ?_
   refine zj ?_
   obtain rfl := Option.some.inj h
   simp only [retQ, zS, zT, zi1, exists_eq_left', go_sem]
   refine ⟨by decide, by simp, ?_, ?_⟩
   · first | rfl | (simp only [go_sem, rL, rD, rE, rA, rM, rS, reduceIte, reduceCtorEq, push_cast, if_true, dZ, nZ, mC, mN, mP, Bool.or_true, Bool.or_false, Bool.and_true, Bool.and_false, Bool.not_true, Bool.not_false, zy] <;> rfl)
   · first | rfl | (simp only [go_sem, push_cast, mN] <;> rfl)
 · rw [if_F hc4] at h
   refine zi ?_
   refine hZ1 _ _ ?_
   have f5 := fun (x : Store) => zO4 (T := tab) (t := 105) (ek := AV.str) (ev := AV.bool) (KeyE.str rfl rfl rfl rfl) rfl rfl a0 a1 true (.map (encM AV.str AV.bool a0) :: x) 0 rfl
   refine rg tok [] fun K hK => ?_
   simp only [go_sem, rL, rE, reduceCtorEq, f5]
   refine hK _ _ ?_
   refine rg tok [4] fun K hK => ?_
   simp only [go_sem, rL]
   refine hK _ _ ?_
   refine zj ?_
   obtain rfl := Option.some.inj h
   simp only [retQ, zS, zT, zi1, exists_eq_left', go_sem]
   refine ⟨by decide, by simp, ?_, ?_⟩
   · first | rfl | (simp only [go_sem, rL, rD, rE, rA, rM, rS, reduceIte, reduceCtorEq, push_cast, if_true, dZ, nZ, mC, mN, mP, Bool.or_true, Bool.or_false, Bool.and_true, Bool.and_false, Bool.not_true, Bool.not_false, zy] <;> rfl)
   · first | rfl | (simp only [go_sem, push_cast, mN] <;> rfl)
def check_tag (a0 : Int) : Bool :=
 ((decide (1 ≤ a0)) && (decide (a0 ≤ 500)))
theorem check_tag.ok (a0 : Int) (r : Bool) (h : check_tag a0 = r) : ACalls Tryd.prog 81 [.int .i64 a0] [] (fun r' _ => r' = .bool r) := by
 refine zm (rs := [.tmp 2]) tok Tryd.func81 rfl Tryd.ntmps81 rfl Tryd.call81 (by simp) ?_
 refine zo [(0, .int .i64 a0)] ⟨rfl, trivial⟩ ?_
 unfold check_tag at h
 refine rg tok [0] fun K hK => ?_
 simp only [go_sem, rL, reduceCtorEq]
 refine hK _ _ ?_
 refine rc [2] fun K hK => ?_
 refine za tok 3 ?_
 simp only [go_sem, rL, rE, reduceCtorEq]
 refine zp 3 (fun L τ => L = ([(8, .bool ((decide (1 ≤ a0)) && (decide (a0 ≤ 500))))] : List (Nat × AV)) ∧ τ = ([] : Store)) ?_ ?_
 · refine za1 5 rfl (fun hg5 => ?_) (fun hg5 => ?_)
   · have t1 := eq_true hg5
     refine za tok 3 ?_
     simp only [go_sem, rL, rE, reduceCtorEq]
     refine zb ⟨rfl, _, _, ⟨rfl, rfl⟩, .p t1⟩
   · have t2 := eq_false hg5
     refine za tok 3 ?_
     simp only [go_sem, rL, rE, reduceCtorEq]
     refine zb ⟨rfl, _, _, ⟨rfl, rfl⟩, .p t2⟩
 rintro _ _ ⟨rfl, rfl⟩
 refine za tok 1 ?_
 simp only [go_sem, rL]
 refine zb ?_
 simp only [zd, upd, rE, reduceIte, zl, zn]
 refine hK _ _ ?_
 refine zj ?_
 obtain rfl := h
 exact retA
theorem check_tag.ev (a0 : Int) (r : Bool) (h : check_tag a0 = r) (σ : Store) : ACalls Tryd.prog 81 [.int .i64 a0] σ (fun r' σ' => r' = .bool r ∧ σ' = σ) :=
 (check_tag.ok a0 r h).c σ
def check_Enum.l4 (a1 : List UInt8) : List GEnumeration → Int → GEnumeration × Bool
 | [], x2 => ((⟨[], ([] : List GNamed)⟩ : GEnumeration), false)
 | y4 :: q4, x2 => (if y4.fName = a1 then (y4, true) else ((check_Enum.l4 a1 q4) (x2 + 1)))
def check_Enum (a0 : GSchema) (a1 : List UInt8) : GEnumeration × Bool :=
 (check_Enum.l4 a1 a0.fEnums 0)
theorem check_Enum.ok (a0 : GSchema) (a1 : List UInt8) (r : GEnumeration × Bool) (h : check_Enum a0 a1 = r) : ACalls Tryd.prog 109 [.agg (encGSchema a0), .str a1] [] (fun r' _ => r' = .tup [.agg (encGEnumeration r.1), .bool r.2]) := by
 refine zm (rs := [.cell 4 90, .tmp 5]) tok Tryd.func109 rfl Tryd.ntmps109 rfl Tryd.call109 (by simp) ?_
 refine zo [(0, .agg (encGSchema a0)), (1, .str a1)] ⟨rfl, rfl, trivial⟩ ?_
 unfold check_Enum at h
 refine rg tok [1, 2, 4] fun K hK => ?_
 simp only [go_sem, rL, rE, rA, reduceCtorEq, encGSchema]
 refine hK _ _ ?_
 refine ze fun Z1 hZ1 => ?_
 refine rg tok [1, 4, 9, 10, 11] fun K hK => ?_
 simp only [go_sem, rL, rE, rA]
 refine hK _ _ ?_
 refine zk ?_
 refine zO 9 fun hb4 => ?_
 replace hb4 : lN a0.fEnums ≤ 9223372036854775807 := hb4.1
 refine zw (fun m L τ => ∃ (p4 q4 : List GEnumeration) (x2 : Int), m = lN q4 ∧ L = ([(1, .str a1), (4, .op 0 0 0), (9, .ds true (fM encGEnumeration a0.fEnums) (lN a0.fEnums) false), (10, .int .i64 (lN a0.fEnums : Int)), (11, .int .i64 x2)] : List (Nat × AV)) ∧ τ = ([.cells 0 [.str [], .ds true [] 0 true]] : Store) ∧ a0.fEnums = p4 ++ q4 ∧ x2 = (lN p4 : Int) ∧ check_Enum.l4 a1 q4 x2 = r) _ ⟨[], a0.fEnums, 0, rfl, rfl, rfl, rfl, rfl, h⟩ (.t [1] false) ?_
 rintro m L τ ⟨p4, q4, x2, rfl, rfl, rfl, hE4, hi4, h⟩
 rcases q4 with _ | ⟨y4, q4⟩
 · have hz4 := zN hE4 hi4
   simp only [check_Enum.l4] at h
   refine rg tok [1, 4, 9, 10, 11, 12] fun K hK => ?_
   simp only [go_sem, rL, rE, hz4]
   refine hK _ _ ?_
   refine ze fun Z5 hZ5 => ?_
   refine zq rfl ?_
   refine zz ?_
   refine hZ1 _ _ ?_
   refine rg tok [4, 5] fun K hK => ?_
   simp only [go_sem, rL, rD, rE, rA]
   refine hK _ _ ?_
   refine zj ?_
   obtain rfl := h
   exact retA
 · obtain ⟨hz4, hw4, hx4, hE'4, hi'4⟩ := zK hE4 hi4 hb4
   simp only [check_Enum.l4] at h
   refine rg tok [1, 4, 9, 10, 11, 12] fun K hK => ?_
   simp only [go_sem, rL, rE, hz4]
   refine hK _ _ ?_
   refine ze fun Z6 hZ6 => ?_
   refine zt rfl ?_
   refine zi ?_
   refine hZ6 _ _ ?_
   refine ze fun Z7 hZ7 => ?_
   refine zk ?_
   have f8 := E28.idxS hx4
   have f9 := E28.loadS rfl rfl hx4
   refine rg tok [1, 4, 7, 9, 10, 11] fun K hK => ?_
   simp only [go_sem, rL, rD, rE, rA, encGEnumeration, f8, f9]
   refine hK _ _ ?_
   refine rg tok [1, 4, 7, 9, 10, 11, 18] fun K hK => ?_
   simp only [go_sem, rL, rE, rA]
   refine hK _ _ ?_
   refine zA rfl (fun hc10 => ?_) (fun hc10 => ?_)
   · rw [if_pos hc10] at h
     have t11 := eq_true hc10
     refine rg tok [4, 5] fun K hK => ?_
     simp only [go_sem, rL, rD, rE, rA, t11]
     refine hK _ _ ?_
     refine zj ?_
     obtain rfl := h
     exact retA
   · rw [if_neg hc10] at h
     have t12 := eq_false hc10
     refine zi ?_
     refine hZ7 _ _ ?_
     refine rgE tok [1, 4, 9, 10, 11] fun K hK => ?_
     simp only [go_sem, rL, rE, hw4, t12]
     refine hK _ _ ?_
     exact ⟨_, _, _, nS q4.length, ⟨p4 ++ [y4], q4, x2 + 1, rfl, rfl, rfl, hE'4, hi'4, h⟩, (.t [0] false)⟩
theorem check_Enum.ev (a0 : GSchema) (a1 : List UInt8) (r : GEnumeration × Bool) (h : check_Enum a0 a1 = r) (σ : Store) : ACalls Tryd.prog 109 [.agg (encGSchema a0), .str a1] σ (fun r' σ' => r' = .tup [.agg (encGEnumeration r.1), .bool r.2] ∧ σ' = σ) :=
 (check_Enum.ok a0 a1 r h).c σ
def check_field (a0 : GSchema) (a1 : GField) : Bool :=
 (if a1.fType.fKind = 6 then bnd (check_Enum a0 a1.fType.fName) fun r6 => (((decide (1 ≤ a1.fLabel)) && (decide (a1.fLabel ≤ 3))) && r6.2) else (if a1.fType.fKind = 7 then bnd (check_Message a0 a1.fType.fName) fun r10 => (((decide (1 ≤ a1.fLabel)) && (decide (a1.fLabel ≤ 3))) && r10.2) else (((((decide (1 ≤ a1.fLabel)) && (decide (a1.fLabel ≤ 3))) && (decide (1 ≤ a1.fType.fKind))) && (decide (a1.fType.fName = []))) && (decide (a1.fType.fKind < 6)))))
theorem check_field.ok (a0 : GSchema) (a1 : GField) (r : Bool) (h : check_field a0 a1 = r) : ACalls Tryd.prog 82 [.agg (encGSchema a0), .agg (encGField a1)] [] (fun r' _ => r' = .bool r) := by
 refine zm (rs := [.tmp 4]) tok Tryd.func82 rfl Tryd.ntmps82 rfl Tryd.call82 (by simp) ?_
 refine zo [(0, .agg (encGSchema a0)), (1, .agg (encGField a1))] ⟨rfl, rfl, trivial⟩ ?_
 unfold check_field at h
 refine rg tok [2, 3] fun K hK => ?_
 simp only [go_sem, rL, rE, rA, reduceCtorEq, encGField, encGSchema]
 refine hK _ _ ?_
 refine rc [2, 3, 5] fun K hK => ?_
 refine za tok 4 ?_
 simp only [go_sem, rL, rE, rA]
 refine zp 4 (fun L τ => L = ([(2, .op 0 0 0), (3, .op 1 0 0), (17, .bool ((decide (1 ≤ a1.fLabel)) && (decide (a1.fLabel ≤ 3))))] : List (Nat × AV)) ∧ τ = ([.cells 0 [.str a0.fName, .ds true (fM encGMessage a0.fMessages) (lN a0.fMessages) false, .ds true (fM encGEnumeration a0.fEnums) (lN a0.fEnums) false, .ds true (fM encGMethod a0.fMethods) (lN a0.fMethods) false], .cells 0 [.str a1.fName, .int .i64 a1.fTag, .int .i64 a1.fLabel, .int .i64 a1.fType.fKind, .str a1.fType.fName]] : Store)) ?_ ?_
 · refine za1 13 rfl (fun hg13 => ?_) (fun hg13 => ?_)
   · have t1 := eq_true hg13
     refine za tok 4 ?_
     simp only [go_sem, rL, rE, rA]
     refine zb ⟨rfl, _, _, ⟨rfl, rfl⟩, .p t1⟩
   · have t2 := eq_false hg13
     refine za tok 4 ?_
     simp only [go_sem, rL, rE]
     refine zb ⟨rfl, _, _, ⟨rfl, rfl⟩, .p t2⟩
 rintro _ _ ⟨rfl, rfl⟩
 refine za tok 1 ?_
 simp only [go_sem, rL, rE]
 refine zb ?_
 simp only [zd, upd, rE, reduceIte, zl, zn]
 refine hK _ _ ?_
 refine ze fun Z3 hZ3 => ?_
 refine rg tok [2, 3, 5, 20] fun K hK => ?_
 simp only [go_sem, rL, rE, rA]
 refine hK _ _ ?_
 refine zk ?_
 refine rg tok [2, 3, 5, 20, 21] fun K hK => ?_
 simp only [go_sem, rL, rE]
 refine hK _ _ ?_
 refine zA rfl (fun hc4 => ?_) (fun hc4 => ?_)
 · rw [if_pos hc4] at h
   have t5 := eq_true hc4
   refine rc [5, 7] fun K hK => ?_
   obtain ⟨r6, hr6, h⟩ := zJ h
   refine za tok 4 ?_
   simp only [go_sem, rL, rD, rE, rA, t5]
   refine zh rfl rfl rfl (check_Enum.ev a0 a1.fType.fName r6 hr6 _) ?_
   rintro _ _ ⟨rfl, rfl⟩
   refine za tok 6 ?_
   simp only [go_sem, rL, rD, rE, rA, encGEnumeration]
   refine zb ?_
   simp only [zd, upd, rE, reduceIte, zl, zn]
   refine hK _ _ ?_
   refine rc [4] fun K hK => ?_
   refine za tok 2 ?_
   simp only [go_sem, rL, rE]
   refine zp 2 (fun L τ => L = ([(34, .bool (((decide (1 ≤ a1.fLabel)) && (decide (a1.fLabel ≤ 3))) && r6.2))] : List (Nat × AV)) ∧ τ = ([.cells 0 [.str a0.fName, .ds true (fM encGMessage a0.fMessages) (lN a0.fMessages) false, .ds true (fM encGEnumeration a0.fEnums) (lN a0.fEnums) false, .ds true (fM encGMethod a0.fMethods) (lN a0.fMethods) false], .cells 0 [.str a1.fName, .int .i64 a1.fTag, .int .i64 a1.fLabel, .int .i64 a1.fType.fKind, .str a1.fType.fName], .cells 0 [.str r6.1.fName, .ds true (fM encGNamed r6.1.fValues) (lN r6.1.fValues) false]] : Store)) ?_ ?_
   · refine zI (b := ((decide (1 ≤ a1.fLabel)) && (decide (a1.fLabel ≤ 3)))) 32 rfl (fun hg32 => ?_) (fun hg32 => ?_)
     · refine za tok 2 ?_
       simp only [go_sem, rL, rE]
       refine zb ⟨rfl, _, _, ⟨rfl, rfl⟩, .b hg32⟩
     · refine za tok 2 ?_
       simp only [go_sem, rL, rE]
       refine zb ⟨rfl, _, _, ⟨rfl, rfl⟩, .b hg32⟩
   rintro _ _ ⟨rfl, rfl⟩
   refine za tok 1 ?_
   simp only [go_sem, rL]
   refine zb ?_
   simp only [zd, upd, rE, reduceIte, zl, zn]
   refine hK _ _ ?_
   refine zj ?_
   obtain rfl := h
   exact retA
 · rw [if_neg hc4] at h
   have t7 := eq_false hc4
   refine rg tok [2, 3, 5, 35] fun K hK => ?_
   simp only [go_sem, rL, rE, t7]
   refine hK _ _ ?_
   refine zA rfl (fun hc8 => ?_) (fun hc8 => ?_)
   · rw [if_pos hc8] at h
     have t9 := eq_true hc8
     refine rc [5, 9] fun K hK => ?_
     obtain ⟨r10, hr10, h⟩ := zJ h
     refine za tok 4 ?_
     simp only [go_sem, rL, rD, rE, rA, t9]
     refine zh rfl rfl rfl (check_Message.ev a0 a1.fType.fName r10 hr10 _) ?_
     rintro _ _ ⟨rfl, rfl⟩
     refine za tok 6 ?_
     simp only [go_sem, rL, rD, rE, rA, encGMessage]
     refine zb ?_
     simp only [zd, upd, rE, reduceIte, zl, zn]
     refine hK _ _ ?_
     refine rc [4] fun K hK => ?_
     refine za tok 2 ?_
     simp only [go_sem, rL, rE]
     refine zp 2 (fun L τ => L = ([(48, .bool (((decide (1 ≤ a1.fLabel)) && (decide (a1.fLabel ≤ 3))) && r10.2))] : List (Nat × AV)) ∧ τ = ([.cells 0 [.str a0.fName, .ds true (fM encGMessage a0.fMessages) (lN a0.fMessages) false, .ds true (fM encGEnumeration a0.fEnums) (lN a0.fEnums) false, .ds true (fM encGMethod a0.fMethods) (lN a0.fMethods) false], .cells 0 [.str a1.fName, .int .i64 a1.fTag, .int .i64 a1.fLabel, .int .i64 a1.fType.fKind, .str a1.fType.fName], .cells 0 [.str r10.1.fName, .ds true (fM encGField r10.1.fFields) (lN r10.1.fFields) false, .ds true (fM encI r10.1.fReserved) (lN r10.1.fReserved) false]] : Store)) ?_ ?_
     · refine zI (b := ((decide (1 ≤ a1.fLabel)) && (decide (a1.fLabel ≤ 3)))) 46 rfl (fun hg46 => ?_) (fun hg46 => ?_)
       · refine za tok 2 ?_
         simp only [go_sem, rL, rE]
         refine zb ⟨rfl, _, _, ⟨rfl, rfl⟩, .b hg46⟩
       · refine za tok 2 ?_
         simp only [go_sem, rL, rE]
         refine zb ⟨rfl, _, _, ⟨rfl, rfl⟩, .b hg46⟩
     rintro _ _ ⟨rfl, rfl⟩
     refine za tok 1 ?_
     simp only [go_sem, rL]
     refine zb ?_
     simp only [zd, upd, rE, reduceIte, zl, zn]
     refine hK _ _ ?_
     refine zj ?_
     obtain rfl := h
     exact retA
   · rw [if_neg hc8] at h
     have t11 := eq_false hc8
     refine zi ?_
     refine hZ3 _ _ ?_
     refine rc [4] fun K hK => ?_
     refine za tok 2 ?_
     simp only [go_sem, rL, rE, t11]
     refine zp 5 (fun L τ => L = ([(3, .op 1 0 0), (55, .bool (((decide (1 ≤ a1.fLabel)) && (decide (a1.fLabel ≤ 3))) && (decide (1 ≤ a1.fType.fKind))))] : List (Nat × AV)) ∧ τ = ([.cells 0 [.str a0.fName, .ds true (fM encGMessage a0.fMessages) (lN a0.fMessages) false, .ds true (fM encGEnumeration a0.fEnums) (lN a0.fEnums) false, .ds true (fM encGMethod a0.fMethods) (lN a0.fMethods) false], .cells 0 [.str a1.fName, .int .i64 a1.fTag, .int .i64 a1.fLabel, .int .i64 a1.fType.fKind, .str a1.fType.fName]] : Store)) ?_ ?_
     · refine zI (b := ((decide (1 ≤ a1.fLabel)) && (decide (a1.fLabel ≤ 3)))) 50 rfl (fun hg50 => ?_) (fun hg50 => ?_)
       · refine za tok 5 ?_
         simp only [go_sem, rL, rE, rA]
         refine zb ⟨rfl, _, _, ⟨rfl, rfl⟩, .b hg50⟩
       · refine za tok 5 ?_
         simp only [go_sem, rL, rE]
         refine zb ⟨rfl, _, _, ⟨rfl, rfl⟩, .b hg50⟩
     rintro _ _ ⟨rfl, rfl⟩
     refine za tok 1 ?_
     simp only [go_sem, rL, rE]
     refine zp 8 (fun L τ => L = ([(3, .op 1 0 0), (64, .bool ((((decide (1 ≤ a1.fLabel)) && (decide (a1.fLabel ≤ 3))) && (decide (1 ≤ a1.fType.fKind))) && (decide (a1.fType.fName = []))))] : List (Nat × AV)) ∧ τ = ([.cells 0 [.str a0.fName, .ds true (fM encGMessage a0.fMessages) (lN a0.fMessages) false, .ds true (fM encGEnumeration a0.fEnums) (lN a0.fEnums) false, .ds true (fM encGMethod a0.fMethods) (lN a0.fMethods) false], .cells 0 [.str a1.fName, .int .i64 a1.fTag, .int .i64 a1.fLabel, .int .i64 a1.fType.fKind, .str a1.fType.fName]] : Store)) ?_ ?_
     · refine zI (b := (((decide (1 ≤ a1.fLabel)) && (decide (a1.fLabel ≤ 3))) && (decide (1 ≤ a1.fType.fKind)))) 56 rfl (fun hg56 => ?_) (fun hg56 => ?_)
       · refine za tok 8 ?_
         simp only [go_sem, rL, rD, rE, rA, evEqA, ceqL, ceq]
         refine zb ⟨rfl, _, _, ⟨rfl, rfl⟩, .b hg56⟩
       · refine za tok 8 ?_
         simp only [go_sem, rL, rE]
         refine zb ⟨rfl, _, _, ⟨rfl, rfl⟩, .b hg56⟩
     rintro _ _ ⟨rfl, rfl⟩
     refine za tok 1 ?_
     simp only [go_sem, rL, rE]
     refine zp 5 (fun L τ => L = ([(70, .bool (((((decide (1 ≤ a1.fLabel)) && (decide (a1.fLabel ≤ 3))) && (decide (1 ≤ a1.fType.fKind))) && (decide (a1.fType.fName = []))) && (decide (a1.fType.fKind < 6))))] : List (Nat × AV)) ∧ τ = ([.cells 0 [.str a0.fName, .ds true (fM encGMessage a0.fMessages) (lN a0.fMessages) false, .ds true (fM encGEnumeration a0.fEnums) (lN a0.fEnums) false, .ds true (fM encGMethod a0.fMethods) (lN a0.fMethods) false], .cells 0 [.str a1.fName, .int .i64 a1.fTag, .int .i64 a1.fLabel, .int .i64 a1.fType.fKind, .str a1.fType.fName]] : Store)) ?_ ?_
     · refine zI (b := ((((decide (1 ≤ a1.fLabel)) && (decide (a1.fLabel ≤ 3))) && (decide (1 ≤ a1.fType.fKind))) && (decide (a1.fType.fName = [])))) 65 rfl (fun hg65 => ?_) (fun hg65 => ?_)
       · refine za tok 5 ?_
         simp only [go_sem, rL, rE, rA]
         refine zb ⟨rfl, _, _, ⟨rfl, rfl⟩, .b hg65⟩
       · refine za tok 5 ?_
         simp only [go_sem, rL, rE]
         refine zb ⟨rfl, _, _, ⟨rfl, rfl⟩, .b hg65⟩
     rintro _ _ ⟨rfl, rfl⟩
     refine za tok 1 ?_
     simp only [go_sem, rL]
     refine zb ?_
     simp only [zd, upd, rE, reduceIte, zl, zn]
     refine hK _ _ ?_
     refine zj ?_
     obtain rfl := h
     exact retA
theorem check_field.ev (a0 : GSchema) (a1 : GField) (r : Bool) (h : check_field a0 a1 = r) (σ : Store) : ACalls Tryd.prog 82 [.agg (encGSchema a0), .agg (encGField a1)] σ (fun r' σ' => r' = .bool r ∧ σ' = σ) :=
 (check_field.ok a0 a1 r h).c σ
def check_message.l21 (a0 : GSchema) (r2 : Bool × List (List UInt8 × Bool)) : List GField → Int → List (Int × Bool) → List (List UInt8 × Bool) → Option (Int × List (List UInt8 × Bool))
 | [], x17, l15, l16 => some (0, r2.2)
 | y21 :: q21, x17, l15, l16 => (check_names_takes l16 y21.fName).bind fun r28 => (if (!r28.1) = true then some (6, r2.2) else bnd (check_tag y21.fTag) fun r30 => (if ((!r30) || ((getM l15 y21.fTag).getD false)) = true then some (7, r2.2) else bnd (check_field a0 y21) fun r33 => (if (!r33) = true then some (8, r2.2) else ((check_message.l21 a0 r2 q21) (x17 + 1) (setM l15 y21.fTag true) r28.2))))
def check_message.l12 (a0 : GSchema) (a2 : GMessage) (r2 : Bool × List (List UInt8 × Bool)) : List Int → Int → List (Int × Bool) → Option (Int × List (List UInt8 × Bool))
 | [], x9, l8 => (check_message.l21 a0 r2 a2.fFields 0 l8 [])
 | y12 :: q12, x9, l8 => bnd (check_tag y12) fun r41 => (if ((!r41) || ((getM l8 y12).getD false)) = true then some (7, r2.2) else ((check_message.l12 a0 a2 r2 q12) (x9 + 1) (setM l8 y12 true)))
def check_message (a0 : GSchema) (a1 : List (List UInt8 × Bool)) (a2 : GMessage) : Option (Int × List (List UInt8 × Bool)) :=
 (check_names_takes a1 a2.fName).bind fun r2 => (if (!r2.1) = true then some (6, r2.2) else (if ((decide (16 < (lN a2.fFields : Int))) || (decide (32 < (lN a2.fReserved : Int)))) = true then some (4, r2.2) else (check_message.l12 a0 a2 r2 a2.fReserved 0 [])))
theorem check_message.ok (a0 : GSchema) (a1 : List (List UInt8 × Bool)) (a2 : GMessage) (r : Int × List (List UInt8 × Bool)) (h : check_message a0 a1 a2 = some r) : ACalls Tryd.prog 52 [.agg (encGSchema a0), .mp 0, .agg (encGMessage a2)] [.map (encM AV.str AV.bool a1)] (fun r' σ' => r' = .int .i64 r.1 ∧ σ' = [.map (encM AV.str AV.bool r.2)]) := by
 refine zq4 [0] (rs := [.tmp 6]) tok Tryd.func52 rfl Tryd.ntmps52 rfl Tryd.call52 (by simp) rfl ?_
 refine zo [(0, .agg (encGSchema a0)), (1, .mp 0), (2, .agg (encGMessage a2))] ⟨rfl, rfl, rfl, trivial⟩ ?_
 unfold check_message at h
 refine rg tok [1, 3, 5] fun K hK => ?_
 simp only [go_sem, rL, rE, rA, reduceCtorEq, encGMessage, encGSchema]
 refine hK _ _ ?_
 refine ze fun Z1 hZ1 => ?_
 refine zk ?_
 refine rc [3, 5, 13] fun K hK => ?_
 obtain ⟨r2, hr2, h⟩ := bind_some h
 refine za tok 3 ?_
 simp only [go_sem, rL, rE, rA]
 refine zh rfl rfl rfl (@id (ACalls Tryd.prog 54 [.mp 0, .str a2.fName] [.map (encM AV.str AV.bool a1), .cells 0 [.str a0.fName, .ds true (fM encGMessage a0.fMessages) (lN a0.fMessages) false, .ds true (fM encGEnumeration a0.fEnums) (lN a0.fEnums) false, .ds true (fM encGMethod a0.fMethods) (lN a0.fMethods) false], .cells 0 [.str a2.fName, .ds true (fM encGField a2.fFields) (lN a2.fFields) false, .ds true (fM encI a2.fReserved) (lN a2.fReserved) false]] (fun r' σ' => r' = .bool r2.1 ∧ σ' = [.map (encM AV.str AV.bool r2.2), .cells 0 [.str a0.fName, .ds true (fM encGMessage a0.fMessages) (lN a0.fMessages) false, .ds true (fM encGEnumeration a0.fEnums) (lN a0.fEnums) false, .ds true (fM encGMethod a0.fMethods) (lN a0.fMethods) false], .cells 0 [.str a2.fName, .ds true (fM encGField a2.fFields) (lN a2.fFields) false, .ds true (fM encI a2.fReserved) (lN a2.fReserved) false]])) ((check_names_takes.ok a1 a2.fName r2 hr2).i [0])) ?_
 rintro _ _ ⟨rfl, rfl⟩
 refine za tok 2 ?_
 simp only [go_sem, rL, rE]
 refine zb ?_
 simp only [zd, upd, rE, reduceIte, zl, zn]
 refine hK _ _ ?_
 refine zx (b := (!r2.1)) rfl (fun hc3 => ?_) (fun hc3 => ?_)
 · rw [if_pos hc3] at h
   refine rg tok [6] fun K hK => ?_
   simp only [go_sem, rL, rE]
   refine hK _ _ ?_
   refine zj ?_
   obtain rfl := Option.some.inj h
   simp only [retQ, zS, zT, zi1, exists_eq_left', go_sem, rA]
   refine ⟨by decide, by simp, ?_, ?_⟩
   · first | rfl | (simp only [go_sem, rL, rD, rE, rA, rM, rS, reduceIte, reduceCtorEq, push_cast, if_true, dZ, nZ, mC, mN, mP, Bool.or_true, Bool.or_false, Bool.and_true, Bool.and_false, Bool.not_true, Bool.not_false, zy] <;> rfl)
   · first | rfl | (simp only [go_sem, push_cast, mN] <;> rfl)
 · rw [if_F hc3] at h
   refine rc [3, 5, 19] fun K hK => ?_
   refine za tok 5 ?_
   simp only [go_sem, rL, rE, rA]
   refine zp 5 (fun L τ => L = ([(3, .op 1 0 0), (5, .op 2 0 0), (29, .bool ((decide (16 < (lN a2.fFields : Int))) || (decide (32 < (lN a2.fReserved : Int)))))] : List (Nat × AV)) ∧ τ = ([.map (encM AV.str AV.bool r2.2), .cells 0 [.str a0.fName, .ds true (fM encGMessage a0.fMessages) (lN a0.fMessages) false, .ds true (fM encGEnumeration a0.fEnums) (lN a0.fEnums) false, .ds true (fM encGMethod a0.fMethods) (lN a0.fMethods) false], .cells 0 [.str a2.fName, .ds true (fM encGField a2.fFields) (lN a2.fFields) false, .ds true (fM encI a2.fReserved) (lN a2.fReserved) false]] : Store)) ?_ ?_
   · refine za1 24 rfl (fun hg24 => ?_) (fun hg24 => ?_)
     · have t4 := eq_true hg24
       refine za tok 5 ?_
       simp only [go_sem, rL, rE]
       refine zb ⟨rfl, _, _, ⟨rfl, rfl⟩, .p t4⟩
     · have t5 := eq_false hg24
       refine za tok 5 ?_
       simp only [go_sem, rL, rE, rA]
       refine zb ⟨rfl, _, _, ⟨rfl, rfl⟩, .p t5⟩
   rintro _ _ ⟨rfl, rfl⟩
   refine za tok 1 ?_
   simp only [go_sem, rL, rE]
   refine zb ?_
   simp only [zd, upd, rE, reduceIte, zl, zn]
   refine hK _ _ ?_
   refine zx (b := ((decide (16 < (lN a2.fFields : Int))) || (decide (32 < (lN a2.fReserved : Int))))) rfl (fun hc6 => ?_) (fun hc6 => ?_)
   · rw [if_pos hc6] at h
     refine rg tok [6] fun K hK => ?_
     simp only [go_sem, rL, rE]
     refine hK _ _ ?_
     refine zj ?_
     obtain rfl := Option.some.inj h
     simp only [retQ, zS, zT, zi1, exists_eq_left', go_sem, rA]
     refine ⟨by decide, by simp, ?_, ?_⟩
     · first | rfl | (simp only [go_sem, rL, rD, rE, rA, rM, rS, reduceIte, reduceCtorEq, push_cast, if_true, dZ, nZ, mC, mN, mP, Bool.or_true, Bool.or_false, Bool.and_true, Bool.and_false, Bool.not_true, Bool.not_false, zy] <;> rfl)
     · first | rfl | (simp only [go_sem, push_cast, mN] <;> rfl)
   · rw [if_F hc6] at h
     refine zi ?_
     refine hZ1 _ _ ?_
     refine rg tok [3, 5, 7] fun K hK => ?_
     simp only [go_sem, rL, rE, rA]
     refine hK _ _ ?_
     refine zH (L := [(3, .op 1 0 0), (5, .op 2 0 0), (7, .mp 3)]) (τ := [.map (encM AV.str AV.bool r2.2), .cells 0 [.str a0.fName, .ds true (fM encGMessage a0.fMessages) (lN a0.fMessages) false, .ds true (fM encGEnumeration a0.fEnums) (lN a0.fEnums) false, .ds true (fM encGMethod a0.fMethods) (lN a0.fMethods) false], .cells 0 [.str a2.fName, .ds true (fM encGField a2.fFields) (lN a2.fFields) false, .ds true (fM encI a2.fReserved) (lN a2.fReserved) false], .map (encM (AV.int .i64) AV.bool [])]) .s ?_
     refine ze fun Z7 hZ7 => ?_
     refine rg tok [3, 5, 7, 32, 33, 34] fun K hK => ?_
     simp only [go_sem, rL, rE, rA]
     refine hK _ _ ?_
     refine zk ?_
     refine zO 32 fun hb12 => ?_
     replace hb12 : lN a2.fReserved ≤ 9223372036854775807 := hb12.1
     refine zw (fun m L τ => ∃ (p12 q12 : List Int) (x9 : Int) (l8 : List (Int × Bool)), m = lN q12 ∧ L = ([(3, .op 1 0 0), (5, .op 2 0 0), (7, .mp 3), (32, .ds true (fM encI a2.fReserved) (lN a2.fReserved) false), (33, .int .i64 (lN a2.fReserved : Int)), (34, .int .i64 x9)] : List (Nat × AV)) ∧ τ = ([.map (encM AV.str AV.bool r2.2), .cells 0 [.str a0.fName, .ds true (fM encGMessage a0.fMessages) (lN a0.fMessages) false, .ds true (fM encGEnumeration a0.fEnums) (lN a0.fEnums) false, .ds true (fM encGMethod a0.fMethods) (lN a0.fMethods) false], .cells 0 [.str a2.fName, .ds true (fM encGField a2.fFields) (lN a2.fFields) false, .ds true (fM encI a2.fReserved) (lN a2.fReserved) false], .map (encM (AV.int .i64) AV.bool l8)] : Store) ∧ a2.fReserved = p12 ++ q12 ∧ x9 = (lN p12 : Int) ∧ check_message.l12 a0 a2 r2 q12 x9 l8 = some r) _ ⟨[], a2.fReserved, 0, [], rfl, rfl, rfl, rfl, rfl, h⟩ .s ?_
     rintro m L τ ⟨p12, q12, x9, l8, rfl, rfl, rfl, hE12, hi12, h⟩
     rcases q12 with _ | ⟨y12, q12⟩
     · have hz12 := zN hE12 hi12
       simp only [check_message.l12] at h
       refine rg tok [3, 5, 7, 32, 33, 34, 35] fun K hK => ?_
       simp only [go_sem, rL, rE, hz12]
       refine hK _ _ ?_
       refine ze fun Z13 hZ13 => ?_
       refine zq rfl ?_
       refine zz ?_
       refine hZ7 _ _ ?_
       refine rg tok [3, 5, 7, 10] fun K hK => ?_
       simp only [go_sem, rL, rE, rA]
       refine hK _ _ ?_
       refine zH (L := [(3, .op 1 0 0), (5, .op 2 0 0), (7, .mp 3), (10, .mp 4)]) (τ := [.map (encM AV.str AV.bool r2.2), .cells 0 [.str a0.fName, .ds true (fM encGMessage a0.fMessages) (lN a0.fMessages) false, .ds true (fM encGEnumeration a0.fEnums) (lN a0.fEnums) false, .ds true (fM encGMethod a0.fMethods) (lN a0.fMethods) false], .cells 0 [.str a2.fName, .ds true (fM encGField a2.fFields) (lN a2.fFields) false, .ds true (fM encI a2.fReserved) (lN a2.fReserved) false], .map (encM (AV.int .i64) AV.bool l8), .map (encM AV.str AV.bool [])]) .s ?_
       refine ze fun Z14 hZ14 => ?_
       refine rg tok [3, 7, 10, 51, 52, 53] fun K hK => ?_
       simp only [go_sem, rL, rE, rA]
       refine hK _ _ ?_
       refine zk ?_
       refine zO 51 fun hb21 => ?_
       replace hb21 : lN a2.fFields ≤ 9223372036854775807 := hb21.1
       refine zw (fun m L τ => ∃ (p21 q21 : List GField) (x17 : Int) (l15 : List (Int × Bool)) (l16 : List (List UInt8 × Bool)), m = lN q21 ∧ L = ([(3, .op 1 0 0), (7, .mp 2), (10, .mp 3), (51, .ds true (fM encGField a2.fFields) (lN a2.fFields) false), (52, .int .i64 (lN a2.fFields : Int)), (53, .int .i64 x17)] : List (Nat × AV)) ∧ τ = ([.map (encM AV.str AV.bool r2.2), .cells 0 [.str a0.fName, .ds true (fM encGMessage a0.fMessages) (lN a0.fMessages) false, .ds true (fM encGEnumeration a0.fEnums) (lN a0.fEnums) false, .ds true (fM encGMethod a0.fMethods) (lN a0.fMethods) false], .map (encM (AV.int .i64) AV.bool l15), .map (encM AV.str AV.bool l16)] : Store) ∧ a2.fFields = p21 ++ q21 ∧ x17 = (lN p21 : Int) ∧ check_message.l21 a0 r2 q21 x17 l15 l16 = some r) _ ⟨[], a2.fFields, 0, l8, [], rfl, rfl, rfl, rfl, rfl, h⟩ (.t [0, 1, 3, 4] false) ?_
       rintro m L τ ⟨p21, q21, x17, l15, l16, rfl, rfl, rfl, hE21, hi21, h⟩
       rcases q21 with _ | ⟨y21, q21⟩
       · have hz21 := zN hE21 hi21
         simp only [check_message.l21] at h
         refine rg tok [3, 7, 10, 51, 52, 53, 54] fun K hK => ?_
         simp only [go_sem, rL, rE, hz21]
         refine hK _ _ ?_
         refine ze fun Z22 hZ22 => ?_
         refine zq rfl ?_
         refine zz ?_
         refine hZ14 _ _ ?_
         refine rg tok [6] fun K hK => ?_
         simp only [go_sem, rL, rE]
         refine hK _ _ ?_
         refine zj ?_
         obtain rfl := Option.some.inj h
         simp only [retQ, zS, zT, zi1, exists_eq_left', go_sem, rA]
         refine ⟨by decide, by simp, ?_, ?_⟩
         · first | rfl | (simp only [go_sem, rL, rD, rE, rA, rM, rS, reduceIte, reduceCtorEq, push_cast, if_true, dZ, nZ, mC, mN, mP, Bool.or_true, Bool.or_false, Bool.and_true, Bool.and_false, Bool.not_true, Bool.not_false, zy] <;> rfl)
         · first | rfl | (simp only [go_sem, push_cast, mN] <;> rfl)
       · obtain ⟨hz21, hw21, hx21, hE'21, hi'21⟩ := zK hE21 hi21 hb21
         simp only [check_message.l21] at h
         refine rg tok [3, 7, 10, 51, 52, 53, 54] fun K hK => ?_
         simp only [go_sem, rL, rE, hz21]
         refine hK _ _ ?_
         refine ze fun Z23 hZ23 => ?_
         refine zt rfl ?_
         refine zi ?_
         refine hZ23 _ _ ?_
         refine ze fun Z24 hZ24 => ?_
         refine zk ?_
         have f25 := E23.idxS hx21
         have f26 := E23.loadS rfl rfl hx21
         refine rg tok [3, 7, 10, 12, 51, 52, 53] fun K hK => ?_
         simp only [go_sem, rL, rD, rE, rA, encGField, f25, f26]
         refine hK _ _ ?_
         refine ze fun Z27 hZ27 => ?_
         refine zk ?_
         refine rc [3, 7, 10, 12, 51, 52, 53, 57] fun K hK => ?_
         obtain ⟨r28, hr28, h⟩ := bind_some h
         refine za tok 3 ?_
         simp only [go_sem, rL, rE, rA]
         refine zh rfl rfl rfl (@id (ACalls Tryd.prog 54 [.mp 3, .str y21.fName] [.map (encM AV.str AV.bool r2.2), .cells 0 [.str a0.fName, .ds true (fM encGMessage a0.fMessages) (lN a0.fMessages) false, .ds true (fM encGEnumeration a0.fEnums) (lN a0.fEnums) false, .ds true (fM encGMethod a0.fMethods) (lN a0.fMethods) false], .map (encM (AV.int .i64) AV.bool l15), .map (encM AV.str AV.bool l16), .cells 0 [.str y21.fName, .int .i64 y21.fTag, .int .i64 y21.fLabel, .int .i64 y21.fType.fKind, .str y21.fType.fName]] (fun r' σ' => r' = .bool r28.1 ∧ σ' = [.map (encM AV.str AV.bool r2.2), .cells 0 [.str a0.fName, .ds true (fM encGMessage a0.fMessages) (lN a0.fMessages) false, .ds true (fM encGEnumeration a0.fEnums) (lN a0.fEnums) false, .ds true (fM encGMethod a0.fMethods) (lN a0.fMethods) false], .map (encM (AV.int .i64) AV.bool l15), .map (encM AV.str AV.bool r28.2), .cells 0 [.str y21.fName, .int .i64 y21.fTag, .int .i64 y21.fLabel, .int .i64 y21.fType.fKind, .str y21.fType.fName]])) ((check_names_takes.ok l16 y21.fName r28 hr28).i [3])) ?_
         rintro _ _ ⟨rfl, rfl⟩
         refine za tok 2 ?_
         simp only [go_sem, rL, rE]
         refine zb ?_
         simp only [zd, upd, rE, reduceIte, zl, zn]
         refine hK _ _ ?_
         refine zx (b := (!r28.1)) rfl (fun hc29 => ?_) (fun hc29 => ?_)
         · rw [if_pos hc29] at h
           refine rg tok [6] fun K hK => ?_
           simp only [go_sem, rL, rE]
           refine hK _ _ ?_
           refine zj ?_
           obtain rfl := Option.some.inj h
           simp only [retQ, zS, zT, zi1, exists_eq_left', go_sem, rA]
           refine ⟨by decide, by simp, ?_, ?_⟩
           · first | rfl | (simp only [go_sem, rL, rD, rE, rA, rM, rS, reduceIte, reduceCtorEq, push_cast, if_true, dZ, nZ, mC, mN, mP, Bool.or_true, Bool.or_false, Bool.and_true, Bool.and_false, Bool.not_true, Bool.not_false, zy] <;> rfl)
           · first | rfl | (simp only [go_sem, push_cast, mN] <;> rfl)
         · rw [if_F hc29] at h
           refine rc [3, 7, 10, 12, 51, 52, 53, 63] fun K hK => ?_
           obtain ⟨r30, hr30, h⟩ := zJ h
           refine za tok 2 ?_
           simp only [go_sem, rL, rE, rA]
           refine zh rfl rfl rfl (check_tag.ev y21.fTag r30 hr30 _) ?_
           rintro _ _ ⟨rfl, rfl⟩
           refine za tok 2 ?_
           simp only [go_sem, rL, rE]
           refine zp 5 (fun L τ => L = ([(3, .op 1 0 0), (7, .mp 2), (10, .mp 3), (12, .op 4 0 0), (51, .ds true (fM encGField a2.fFields) (lN a2.fFields) false), (52, .int .i64 (lN a2.fFields : Int)), (53, .int .i64 x17), (73, .bool ((!r30) || ((getM l15 y21.fTag).getD false)))] : List (Nat × AV)) ∧ τ = ([.map (encM AV.str AV.bool r2.2), .cells 0 [.str a0.fName, .ds true (fM encGMessage a0.fMessages) (lN a0.fMessages) false, .ds true (fM encGEnumeration a0.fEnums) (lN a0.fEnums) false, .ds true (fM encGMethod a0.fMethods) (lN a0.fMethods) false], .map (encM (AV.int .i64) AV.bool l15), .map (encM AV.str AV.bool r28.2), .cells 0 [.str y21.fName, .int .i64 y21.fTag, .int .i64 y21.fLabel, .int .i64 y21.fType.fKind, .str y21.fType.fName]] : Store)) ?_ ?_
           · refine zI (b := (!r30)) 68 rfl (fun hg68 => ?_) (fun hg68 => ?_)
             · refine za tok 5 ?_
               simp only [go_sem, rL, rE, if_false, if_true]
               refine zb ⟨rfl, _, _, ⟨rfl, rfl⟩, .b hg68⟩
             · have f31 := fun (o0 : AObj) (o1 : AObj) (x : Store) => zQ4 (T := tab) (t := 134) (ek := (AV.int .i64)) (ev := AV.bool) (z := false) (KeyE.int rfl rfl rfl rfl) rfl rfl rfl rfl l15 y21.fTag false (o0 :: o1 :: .map (encM (AV.int .i64) AV.bool l15) :: x) 2 rfl
               refine za tok 5 ?_
               simp only [go_sem, rL, rE, rA, zK3, Bool.false_eq_true, if_false, if_true, f31]
               refine zb ⟨rfl, _, _, ⟨rfl, rfl⟩, .b hg68⟩
           rintro _ _ ⟨rfl, rfl⟩
           refine za tok 1 ?_
           simp only [go_sem, rL, rE]
           refine zb ?_
           simp only [zd, upd, rE, reduceIte, zl, zn]
           refine hK _ _ ?_
           refine zx (b := ((!r30) || ((getM l15 y21.fTag).getD false))) rfl (fun hc32 => ?_) (fun hc32 => ?_)
           · rw [if_pos hc32] at h
             refine rg tok [6] fun K hK => ?_
             simp only [go_sem, rL, rE]
             refine hK _ _ ?_
             refine zj ?_
             obtain rfl := Option.some.inj h
             simp only [retQ, zS, zT, zi1, exists_eq_left', go_sem, rA]
             refine ⟨by decide, by simp, ?_, ?_⟩
             · first | rfl | (simp only [go_sem, rL, rD, rE, rA, rM, rS, reduceIte, reduceCtorEq, push_cast, if_true, dZ, nZ, mC, mN, mP, Bool.or_true, Bool.or_false, Bool.and_true, Bool.and_false, Bool.not_true, Bool.not_false, zy] <;> rfl)
             · first | rfl | (simp only [go_sem, push_cast, mN] <;> rfl)
           · rw [if_F hc32] at h
             refine rc [3, 7, 10, 12, 51, 52, 53, 74] fun K hK => ?_
             obtain ⟨r33, hr33, h⟩ := zJ h
             refine za tok 2 ?_
             simp only [go_sem, rL, rD, rE, rA]
             refine zh rfl rfl rfl (check_field.ev a0 y21 r33 hr33 _) ?_
             rintro _ _ ⟨rfl, rfl⟩
             refine za tok 2 ?_
             simp only [go_sem, rL, rE]
             refine zb ?_
             simp only [zd, upd, rE, reduceIte, zl, zn]
             refine hK _ _ ?_
             refine zx (b := (!r33)) rfl (fun hc34 => ?_) (fun hc34 => ?_)
             · rw [if_pos hc34] at h
               refine rg tok [6] fun K hK => ?_
               simp only [go_sem, rL, rE]
               refine hK _ _ ?_
               refine zj ?_
               obtain rfl := Option.some.inj h
               simp only [retQ, zS, zT, zi1, exists_eq_left', go_sem, rA]
               refine ⟨by decide, by simp, ?_, ?_⟩
               · first | rfl | (simp only [go_sem, rL, rD, rE, rA, rM, rS, reduceIte, reduceCtorEq, push_cast, if_true, dZ, nZ, mC, mN, mP, Bool.or_true, Bool.or_false, Bool.and_true, Bool.and_false, Bool.not_true, Bool.not_false, zy] <;> rfl)
               · first | rfl | (simp only [go_sem, push_cast, mN] <;> rfl)
             · rw [if_F hc34] at h
               refine zi ?_
               refine hZ27 _ _ ?_
               have f35 := fun (o0 : AObj) (o1 : AObj) (x : Store) => zO4 (T := tab) (t := 134) (ek := (AV.int .i64)) (ev := AV.bool) (KeyE.int rfl rfl rfl rfl) rfl rfl l15 y21.fTag true (o0 :: o1 :: .map (encM (AV.int .i64) AV.bool l15) :: x) 2 rfl
               refine rgE tok [3, 7, 10, 51, 52, 53] fun K hK => ?_
               simp only [go_sem, rL, rE, rA, f35]
               refine hK _ _ ?_
               refine hZ24 _ _ ?_
               refine rgE tok [3, 7, 10, 51, 52, 53] fun K hK => ?_
               simp only [go_sem, rL, rE, hw21]
               refine hK _ _ ?_
               exact ⟨_, _, _, nS q21.length, ⟨p21 ++ [y21], q21, x17 + 1, setM l15 y21.fTag true, r28.2, rfl, rfl, rfl, hE'21, hi'21, h⟩, (.t [0, 1, 2, 3] false)⟩
     · obtain ⟨hz12, hw12, hx12, hE'12, hi'12⟩ := zK hE12 hi12 hb12
       simp only [check_message.l12] at h
       refine rg tok [3, 5, 7, 32, 33, 34, 35] fun K hK => ?_
       simp only [go_sem, rL, rE, hz12]
       refine hK _ _ ?_
       refine ze fun Z36 hZ36 => ?_
       refine zt rfl ?_
       refine zi ?_
       refine hZ36 _ _ ?_
       refine ze fun Z37 hZ37 => ?_
       refine zk ?_
       have f38 := E24.idxS hx12
       have f39 := E24.fldS0 (f := 3) rfl rfl hx12
       refine rg tok [3, 5, 7, 9, 32, 33, 34] fun K hK => ?_
       simp only [go_sem, rL, rE, encI, f38, f39]
       refine hK _ _ ?_
       refine ze fun Z40 hZ40 => ?_
       refine rc [3, 5, 7, 9, 32, 33, 34, 45] fun K hK => ?_
       obtain ⟨r41, hr41, h⟩ := zJ h
       refine za tok 1 ?_
       simp only [go_sem, rL, rE]
       refine zh rfl rfl rfl (check_tag.ev y12 r41 hr41 _) ?_
       rintro _ _ ⟨rfl, rfl⟩
       refine za tok 2 ?_
       simp only [go_sem, rL, rE]
       refine zp 4 (fun L τ => L = ([(3, .op 1 0 0), (5, .op 2 0 0), (7, .mp 3), (9, .int .i64 y12), (32, .ds true (fM encI a2.fReserved) (lN a2.fReserved) false), (33, .int .i64 (lN a2.fReserved : Int)), (34, .int .i64 x9), (45, .bool ((!r41) || ((getM l8 y12).getD false)))] : List (Nat × AV)) ∧ τ = ([.map (encM AV.str AV.bool r2.2), .cells 0 [.str a0.fName, .ds true (fM encGMessage a0.fMessages) (lN a0.fMessages) false, .ds true (fM encGEnumeration a0.fEnums) (lN a0.fEnums) false, .ds true (fM encGMethod a0.fMethods) (lN a0.fMethods) false], .cells 0 [.str a2.fName, .ds true (fM encGField a2.fFields) (lN a2.fFields) false, .ds true (fM encI a2.fReserved) (lN a2.fReserved) false], .map (encM (AV.int .i64) AV.bool l8)] : Store)) ?_ ?_
       · refine zI (b := (!r41)) 41 rfl (fun hg41 => ?_) (fun hg41 => ?_)
         · refine za tok 4 ?_
           simp only [go_sem, rL, rE, if_false, if_true]
           refine zb ⟨rfl, _, _, ⟨rfl, rfl⟩, .b hg41⟩
         · have f42 := fun (o0 : AObj) (o1 : AObj) (o2 : AObj) (x : Store) => zQ4 (T := tab) (t := 134) (ek := (AV.int .i64)) (ev := AV.bool) (z := false) (KeyE.int rfl rfl rfl rfl) rfl rfl rfl rfl l8 y12 false (o0 :: o1 :: o2 :: .map (encM (AV.int .i64) AV.bool l8) :: x) 3 rfl
           refine za tok 4 ?_
           simp only [go_sem, rL, rE, zK3, Bool.false_eq_true, if_false, if_true, f42]
           refine zb ⟨rfl, _, _, ⟨rfl, rfl⟩, .b hg41⟩
       rintro _ _ ⟨rfl, rfl⟩
       refine zb ?_
       simp only [zd, rE, reduceIte, zl, zn]
       refine hK _ _ ?_
       refine zx (b := ((!r41) || ((getM l8 y12).getD false))) rfl (fun hc43 => ?_) (fun hc43 => ?_)
       · rw [if_pos hc43] at h
         refine rg tok [6] fun K hK => ?_
         simp only [go_sem, rL, rE]
         refine hK _ _ ?_
         refine zj ?_
         obtain rfl := Option.some.inj h
         simp only [retQ, zS, zT, zi1, exists_eq_left', go_sem, rA]
         refine ⟨by decide, by simp, ?_, ?_⟩
         · first | rfl | (simp only [go_sem, rL, rD, rE, rA, rM, rS, reduceIte, reduceCtorEq, push_cast, if_true, dZ, nZ, mC, mN, mP, Bool.or_true, Bool.or_false, Bool.and_true, Bool.and_false, Bool.not_true, Bool.not_false, zy] <;> rfl)
         · first | rfl | (simp only [go_sem, push_cast, mN] <;> rfl)
       · rw [if_F hc43] at h
         refine zi ?_
         refine hZ40 _ _ ?_
         have f44 := fun (o0 : AObj) (o1 : AObj) (o2 : AObj) (x : Store) => zO4 (T := tab) (t := 134) (ek := (AV.int .i64)) (ev := AV.bool) (KeyE.int rfl rfl rfl rfl) rfl rfl l8 y12 true (o0 :: o1 :: o2 :: .map (encM (AV.int .i64) AV.bool l8) :: x) 3 rfl
         refine rgE tok [3, 5, 7, 32, 33, 34] fun K hK => ?_
         simp only [go_sem, rL, rE, f44]
         refine hK _ _ ?_
         refine hZ37 _ _ ?_
         refine rgE tok [3, 5, 7, 32, 33, 34] fun K hK => ?_
         simp only [go_sem, rL, rE, hw12]
         refine hK _ _ ?_
         exact ⟨_, _, _, nS q12.length, ⟨p12 ++ [y12], q12, x9 + 1, setM l8 y12 true, rfl, rfl, rfl, hE'12, hi'12, h⟩, .s⟩
def check_enum.l23 (r2 : Bool × List (List UInt8 × Bool)) : List GNamed → Int → List (List UInt8 × Bool) → List (Int × Bool) → Option (Int × List (List UInt8 × Bool))
 | [], x19, l17, l18 => some (0, r2.2)
 | y23 :: q23, x19, l17, l18 => (check_names_takes l17 y23.fName).bind fun r30 => (if (!r30.1) = true then some (6, r2.2) else (if (((decide (y23.fN < 0)) || (decide (2147483647 < y23.fN))) || ((getM l18 y23.fN).getD false)) = true then some (11, r2.2) else ((check_enum.l23 r2 q23) (x19 + 1) r30.2 (setM l18 y23.fN true))))
def check_enum.l12 (a1 : GEnumeration) (r2 : Bool × List (List UInt8 × Bool)) : List GNamed → Int → Bool → Option (Int × List (List UInt8 × Bool))
 | [], x9, x8 => (if (!x8) = true then some (12, r2.2) else (check_enum.l23 r2 a1.fValues 0 [] []))
 | y12 :: q12, x9, x8 => ((check_enum.l12 a1 r2 q12) (x9 + 1) (x8 || (decide (y12.fN = 0))))
def check_enum (a0 : List (List UInt8 × Bool)) (a1 : GEnumeration) : Option (Int × List (List UInt8 × Bool)) :=
 (check_names_takes a0 a1.fName).bind fun r2 => (if (!r2.1) = true then some (6, r2.2) else (if 16 < (lN a1.fValues : Int) then some (4, r2.2) else (check_enum.l12 a1 r2 a1.fValues 0 false)))
theorem check_enum.ok (a0 : List (List UInt8 × Bool)) (a1 : GEnumeration) (r : Int × List (List UInt8 × Bool)) (h : check_enum a0 a1 = some r) : ACalls Tryd.prog 53 [.mp 0, .agg (encGEnumeration a1)] [.map (encM AV.str AV.bool a0)] (fun r' σ' => r' = .int .i64 r.1 ∧ σ' = [.map (encM AV.str AV.bool r.2)]) := by
 refine zq4 [0] (rs := [.tmp 4]) tok Tryd.func53 rfl Tryd.ntmps53 rfl Tryd.call53 (by simp) rfl ?_
 refine zo [(0, .mp 0), (1, .agg (encGEnumeration a1))] ⟨rfl, rfl, trivial⟩ ?_
 unfold check_enum at h
 refine rg tok [0, 3] fun K hK => ?_
 simp only [go_sem, rL, rE, rA, reduceCtorEq, encGEnumeration]
 refine hK _ _ ?_
 refine ze fun Z1 hZ1 => ?_
 refine zk ?_
 refine rc [3, 12] fun K hK => ?_
 obtain ⟨r2, hr2, h⟩ := bind_some h
 refine za tok 3 ?_
 simp only [go_sem, rL, rE, rA, reduceCtorEq]
 refine zh rfl rfl rfl (@id (ACalls Tryd.prog 54 [.mp 0, .str a1.fName] [.map (encM AV.str AV.bool a0), .cells 0 [.str a1.fName, .ds true (fM encGNamed a1.fValues) (lN a1.fValues) false]] (fun r' σ' => r' = .bool r2.1 ∧ σ' = [.map (encM AV.str AV.bool r2.2), .cells 0 [.str a1.fName, .ds true (fM encGNamed a1.fValues) (lN a1.fValues) false]])) ((check_names_takes.ok a0 a1.fName r2 hr2).i [0])) ?_
 rintro _ _ ⟨rfl, rfl⟩
 refine za tok 2 ?_
 simp only [go_sem, rL, rE, reduceCtorEq]
 refine zb ?_
 simp only [zd, upd, rE, reduceIte, zl, zn]
 refine hK _ _ ?_
 refine zx (b := (!r2.1)) rfl (fun hc3 => ?_) (fun hc3 => ?_)
 · rw [if_pos hc3] at h
   refine rg tok [4] fun K hK => ?_
   simp only [go_sem, rL, rE]
   refine hK _ _ ?_
   refine zj ?_
   obtain rfl := Option.some.inj h
   simp only [retQ, zS, zT, zi1, exists_eq_left', go_sem, rA]
   refine ⟨by decide, by simp, ?_, ?_⟩
   · first | rfl | (simp only [go_sem, rL, rD, rE, rA, rM, rS, reduceIte, reduceCtorEq, push_cast, if_true, dZ, nZ, mC, mN, mP, Bool.or_true, Bool.or_false, Bool.and_true, Bool.and_false, Bool.not_true, Bool.not_false, zy] <;> rfl)
   · first | rfl | (simp only [go_sem, push_cast, mN] <;> rfl)
 · rw [if_F hc3] at h
   refine rg tok [3, 18] fun K hK => ?_
   simp only [go_sem, rL, rE, rA]
   refine hK _ _ ?_
   refine zA rfl (fun hc4 => ?_) (fun hc4 => ?_)
   · rw [if_pos hc4] at h
     have t5 := eq_true hc4
     refine rg tok [4] fun K hK => ?_
     simp only [go_sem, rL, rE, t5]
     refine hK _ _ ?_
     refine zj ?_
     obtain rfl := Option.some.inj h
     simp only [retQ, zS, zT, zi1, exists_eq_left', go_sem, rA]
     refine ⟨by decide, by simp, ?_, ?_⟩
     · first | rfl | (simp only [go_sem, rL, rD, rE, rA, rM, rS, reduceIte, reduceCtorEq, push_cast, if_true, dZ, nZ, mC, mN, mP, Bool.or_true, Bool.or_false, Bool.and_true, Bool.and_false, Bool.not_true, Bool.not_false, zy] <;> rfl)
     · first | rfl | (simp only [go_sem, push_cast, mN] <;> rfl)
   · rw [if_neg hc4] at h
     have t6 := eq_false hc4
     refine zi ?_
     refine hZ1 _ _ ?_
     refine rg tok [3, 5] fun K hK => ?_
     simp only [go_sem, rL, rE, t6]
     refine hK _ _ ?_
     refine ze fun Z7 hZ7 => ?_
     refine rg tok [3, 5, 24, 25, 26] fun K hK => ?_
     simp only [go_sem, rL, rE, rA]
     refine hK _ _ ?_
     refine zk ?_
     refine zO 24 fun hb12 => ?_
     replace hb12 : lN a1.fValues ≤ 9223372036854775807 := hb12.1
     refine zw (fun m L τ => ∃ (p12 q12 : List GNamed) (x9 : Int) (x8 : Bool), m = lN q12 ∧ L = ([(3, .op 1 0 0), (5, .bool x8), (24, .ds true (fM encGNamed a1.fValues) (lN a1.fValues) false), (25, .int .i64 (lN a1.fValues : Int)), (26, .int .i64 x9)] : List (Nat × AV)) ∧ τ = ([.map (encM AV.str AV.bool r2.2), .cells 0 [.str a1.fName, .ds true (fM encGNamed a1.fValues) (lN a1.fValues) false]] : Store) ∧ a1.fValues = p12 ++ q12 ∧ x9 = (lN p12 : Int) ∧ check_enum.l12 a1 r2 q12 x9 x8 = some r) _ ⟨[], a1.fValues, 0, false, rfl, rfl, rfl, rfl, rfl, h⟩ .s ?_
     rintro m L τ ⟨p12, q12, x9, x8, rfl, rfl, rfl, hE12, hi12, h⟩
     rcases q12 with _ | ⟨y12, q12⟩
     · have hz12 := zN hE12 hi12
       simp only [check_enum.l12] at h
       refine rg tok [3, 5, 24, 25, 26, 27] fun K hK => ?_
       simp only [go_sem, rL, rE, hz12]
       refine hK _ _ ?_
       refine ze fun Z13 hZ13 => ?_
       refine zq rfl ?_
       refine zz ?_
       refine hZ7 _ _ ?_
       refine ze fun Z14 hZ14 => ?_
       refine rg tok [3, 38] fun K hK => ?_
       simp only [go_sem, rL, rE]
       refine hK _ _ ?_
       refine zx (b := (!x8)) rfl (fun hc15 => ?_) (fun hc15 => ?_)
       · rw [if_pos hc15] at h
         refine rg tok [4] fun K hK => ?_
         simp only [go_sem, rL, rE]
         refine hK _ _ ?_
         refine zj ?_
         obtain rfl := Option.some.inj h
         simp only [retQ, zS, zT, zi1, exists_eq_left', go_sem, rA]
         refine ⟨by decide, by simp, ?_, ?_⟩
         · first | rfl | (simp only [go_sem, rL, rD, rE, rA, rM, rS, reduceIte, reduceCtorEq, push_cast, if_true, dZ, nZ, mC, mN, mP, Bool.or_true, Bool.or_false, Bool.and_true, Bool.and_false, Bool.not_true, Bool.not_false, zy] <;> rfl)
         · first | rfl | (simp only [go_sem, push_cast, mN] <;> rfl)
       · rw [if_F hc15] at h
         refine zi ?_
         refine hZ14 _ _ ?_
         refine rg tok [3, 8, 9] fun K hK => ?_
         simp only [go_sem, rL, rE, rA]
         refine hK _ _ ?_
         refine zH (L := [(3, .op 1 0 0), (8, .mp 2), (9, .mp 3)]) (τ := [.map (encM AV.str AV.bool r2.2), .cells 0 [.str a1.fName, .ds true (fM encGNamed a1.fValues) (lN a1.fValues) false], .map (encM AV.str AV.bool []), .map (encM (AV.int .i64) AV.bool [])]) .s ?_
         refine ze fun Z16 hZ16 => ?_
         refine rg tok [8, 9, 42, 43, 44] fun K hK => ?_
         simp only [go_sem, rL, rE, rA]
         refine hK _ _ ?_
         refine zk ?_
         refine zO 42 fun hb23 => ?_
         replace hb23 : lN a1.fValues ≤ 9223372036854775807 := hb23.1
         refine zw (fun m L τ => ∃ (p23 q23 : List GNamed) (x19 : Int) (l17 : List (List UInt8 × Bool)) (l18 : List (Int × Bool)), m = lN q23 ∧ L = ([(8, .mp 1), (9, .mp 2), (42, .ds true (fM encGNamed a1.fValues) (lN a1.fValues) false), (43, .int .i64 (lN a1.fValues : Int)), (44, .int .i64 x19)] : List (Nat × AV)) ∧ τ = ([.map (encM AV.str AV.bool r2.2), .map (encM AV.str AV.bool l17), .map (encM (AV.int .i64) AV.bool l18)] : Store) ∧ a1.fValues = p23 ++ q23 ∧ x19 = (lN p23 : Int) ∧ check_enum.l23 r2 q23 x19 l17 l18 = some r) _ ⟨[], a1.fValues, 0, [], [], rfl, rfl, rfl, rfl, rfl, h⟩ (.t [0, 2, 3] false) ?_
         rintro m L τ ⟨p23, q23, x19, l17, l18, rfl, rfl, rfl, hE23, hi23, h⟩
         rcases q23 with _ | ⟨y23, q23⟩
         · have hz23 := zN hE23 hi23
           simp only [check_enum.l23] at h
           refine rg tok [8, 9, 42, 43, 44, 45] fun K hK => ?_
           simp only [go_sem, rL, rE, hz23]
           refine hK _ _ ?_
           refine ze fun Z24 hZ24 => ?_
           refine zq rfl ?_
           refine zz ?_
           refine hZ16 _ _ ?_
           refine rg tok [4] fun K hK => ?_
           simp only [go_sem, rL, rE]
           refine hK _ _ ?_
           refine zj ?_
           obtain rfl := Option.some.inj h
           simp only [retQ, zS, zT, zi1, exists_eq_left', go_sem, rA]
           refine ⟨by decide, by simp, ?_, ?_⟩
           · first | rfl | (simp only [go_sem, rL, rD, rE, rA, rM, rS, reduceIte, reduceCtorEq, push_cast, if_true, dZ, nZ, mC, mN, mP, Bool.or_true, Bool.or_false, Bool.and_true, Bool.and_false, Bool.not_true, Bool.not_false, zy] <;> rfl)
           · first | rfl | (simp only [go_sem, push_cast, mN] <;> rfl)
         · obtain ⟨hz23, hw23, hx23, hE'23, hi'23⟩ := zK hE23 hi23 hb23
           simp only [check_enum.l23] at h
           refine rg tok [8, 9, 42, 43, 44, 45] fun K hK => ?_
           simp only [go_sem, rL, rE, hz23]
           refine hK _ _ ?_
           refine ze fun Z25 hZ25 => ?_
           refine zt rfl ?_
           refine zi ?_
           refine hZ25 _ _ ?_
           refine ze fun Z26 hZ26 => ?_
           refine zk ?_
           have f27 := E88.idxS hx23
           have f28 := E88.loadS rfl rfl hx23
           refine rg tok [8, 9, 11, 42, 43, 44] fun K hK => ?_
           simp only [go_sem, rL, rD, rE, rA, encGNamed, f27, f28]
           refine hK _ _ ?_
           refine ze fun Z29 hZ29 => ?_
           refine zk ?_
           refine rc [8, 9, 11, 42, 43, 44, 48] fun K hK => ?_
           obtain ⟨r30, hr30, h⟩ := bind_some h
           refine za tok 3 ?_
           simp only [go_sem, rL, rE, rA]
           refine zh rfl rfl rfl (@id (ACalls Tryd.prog 54 [.mp 1, .str y23.fName] [.map (encM AV.str AV.bool r2.2), .map (encM AV.str AV.bool l17), .map (encM (AV.int .i64) AV.bool l18), .cells 0 [.str y23.fName, .int .i64 y23.fN]] (fun r' σ' => r' = .bool r30.1 ∧ σ' = [.map (encM AV.str AV.bool r2.2), .map (encM AV.str AV.bool r30.2), .map (encM (AV.int .i64) AV.bool l18), .cells 0 [.str y23.fName, .int .i64 y23.fN]])) ((check_names_takes.ok l17 y23.fName r30 hr30).i [1])) ?_
           rintro _ _ ⟨rfl, rfl⟩
           refine za tok 2 ?_
           simp only [go_sem, rL, rE]
           refine zb ?_
           simp only [zd, upd, rE, reduceIte, zl, zn]
           refine hK _ _ ?_
           refine zx (b := (!r30.1)) rfl (fun hc31 => ?_) (fun hc31 => ?_)
           · rw [if_pos hc31] at h
             refine rg tok [4] fun K hK => ?_
             simp only [go_sem, rL, rE]
             refine hK _ _ ?_
             refine zj ?_
             obtain rfl := Option.some.inj h
             simp only [retQ, zS, zT, zi1, exists_eq_left', go_sem, rA]
             refine ⟨by decide, by simp, ?_, ?_⟩
             · first | rfl | (simp only [go_sem, rL, rD, rE, rA, rM, rS, reduceIte, reduceCtorEq, push_cast, if_true, dZ, nZ, mC, mN, mP, Bool.or_true, Bool.or_false, Bool.and_true, Bool.and_false, Bool.not_true, Bool.not_false, zy] <;> rfl)
             · first | rfl | (simp only [go_sem, push_cast, mN] <;> rfl)
           · rw [if_F hc31] at h
             refine rc [8, 9, 11, 42, 43, 44, 54] fun K hK => ?_
             refine za tok 4 ?_
             simp only [go_sem, rL, rE, rA]
             refine zp 4 (fun L τ => L = ([(8, .mp 1), (9, .mp 2), (11, .op 3 0 0), (42, .ds true (fM encGNamed a1.fValues) (lN a1.fValues) false), (43, .int .i64 (lN a1.fValues : Int)), (44, .int .i64 x19), (62, .bool ((decide (y23.fN < 0)) || (decide (2147483647 < y23.fN))))] : List (Nat × AV)) ∧ τ = ([.map (encM AV.str AV.bool r2.2), .map (encM AV.str AV.bool r30.2), .map (encM (AV.int .i64) AV.bool l18), .cells 0 [.str y23.fName, .int .i64 y23.fN]] : Store)) ?_ ?_
             · refine za1 58 rfl (fun hg58 => ?_) (fun hg58 => ?_)
               · have t32 := eq_true hg58
                 refine za tok 4 ?_
                 simp only [go_sem, rL, rE]
                 refine zb ⟨rfl, _, _, ⟨rfl, rfl⟩, .p t32⟩
               · have t33 := eq_false hg58
                 refine za tok 4 ?_
                 simp only [go_sem, rL, rE, rA]
                 refine zb ⟨rfl, _, _, ⟨rfl, rfl⟩, .p t33⟩
             rintro _ _ ⟨rfl, rfl⟩
             refine za tok 1 ?_
             simp only [go_sem, rL, rE]
             refine zp 5 (fun L τ => L = ([(8, .mp 1), (9, .mp 2), (11, .op 3 0 0), (42, .ds true (fM encGNamed a1.fValues) (lN a1.fValues) false), (43, .int .i64 (lN a1.fValues : Int)), (44, .int .i64 x19), (68, .bool (((decide (y23.fN < 0)) || (decide (2147483647 < y23.fN))) || ((getM l18 y23.fN).getD false)))] : List (Nat × AV)) ∧ τ = ([.map (encM AV.str AV.bool r2.2), .map (encM AV.str AV.bool r30.2), .map (encM (AV.int .i64) AV.bool l18), .cells 0 [.str y23.fName, .int .i64 y23.fN]] : Store)) ?_ ?_
             · refine zI (b := ((decide (y23.fN < 0)) || (decide (2147483647 < y23.fN)))) 63 rfl (fun hg63 => ?_) (fun hg63 => ?_)
               · refine za tok 5 ?_
                 simp only [go_sem, rL, rE, if_false, if_true]
                 refine zb ⟨rfl, _, _, ⟨rfl, rfl⟩, .b hg63⟩
               · have f34 := fun (o0 : AObj) (o1 : AObj) (x : Store) => zQ4 (T := tab) (t := 134) (ek := (AV.int .i64)) (ev := AV.bool) (z := false) (KeyE.int rfl rfl rfl rfl) rfl rfl rfl rfl l18 y23.fN false (o0 :: o1 :: .map (encM (AV.int .i64) AV.bool l18) :: x) 2 rfl
                 refine za tok 5 ?_
                 simp only [go_sem, rL, rE, rA, zK3, Bool.false_eq_true, if_false, if_true, f34]
                 refine zb ⟨rfl, _, _, ⟨rfl, rfl⟩, .b hg63⟩
             rintro _ _ ⟨rfl, rfl⟩
             refine za tok 1 ?_
             simp only [go_sem, rL, rE]
             refine zb ?_
             simp only [zd, upd, rE, reduceIte, zl, zn]
             refine hK _ _ ?_
             refine zx (b := (((decide (y23.fN < 0)) || (decide (2147483647 < y23.fN))) || ((getM l18 y23.fN).getD false))) rfl (fun hc35 => ?_) (fun hc35 => ?_)
             · rw [if_pos hc35] at h
               refine rg tok [4] fun K hK => ?_
               simp only [go_sem, rL, rE]
               refine hK _ _ ?_
               refine zj ?_
               obtain rfl := Option.some.inj h
               simp only [retQ, zS, zT, zi1, exists_eq_left', go_sem, rA]
               refine ⟨by decide, by simp, ?_, ?_⟩
               · first | rfl | (simp only [go_sem, rL, rD, rE, rA, rM, rS, reduceIte, reduceCtorEq, push_cast, if_true, dZ, nZ, mC, mN, mP, Bool.or_true, Bool.or_false, Bool.and_true, Bool.and_false, Bool.not_true, Bool.not_false, zy] <;> rfl)
               · first | rfl | (simp only [go_sem, push_cast, mN] <;> rfl)
             · rw [if_F hc35] at h
               refine zi ?_
               refine hZ29 _ _ ?_
               have f36 := fun (o0 : AObj) (o1 : AObj) (x : Store) => zO4 (T := tab) (t := 134) (ek := (AV.int .i64)) (ev := AV.bool) (KeyE.int rfl rfl rfl rfl) rfl rfl l18 y23.fN true (o0 :: o1 :: .map (encM (AV.int .i64) AV.bool l18) :: x) 2 rfl
               refine rgE tok [8, 9, 42, 43, 44] fun K hK => ?_
               simp only [go_sem, rL, rE, rA, f36]
               refine hK _ _ ?_
               refine hZ26 _ _ ?_
               refine rgE tok [8, 9, 42, 43, 44] fun K hK => ?_
               simp only [go_sem, rL, rE, hw23]
               refine hK _ _ ?_
               exact ⟨_, _, _, nS q23.length, ⟨p23 ++ [y23], q23, x19 + 1, r30.2, setM l18 y23.fN true, rfl, rfl, rfl, hE'23, hi'23, h⟩, (.t [0, 1, 2] false)⟩
     · obtain ⟨hz12, hw12, hx12, hE'12, hi'12⟩ := zK hE12 hi12 hb12
       simp only [check_enum.l12] at h
       refine rg tok [3, 5, 24, 25, 26, 27] fun K hK => ?_
       simp only [go_sem, rL, rE, hz12]
       refine hK _ _ ?_
       refine ze fun Z37 hZ37 => ?_
       refine zt rfl ?_
       refine zi ?_
       refine hZ37 _ _ ?_
       refine ze fun Z38 hZ38 => ?_
       refine zk ?_
       have f39 := E88.idxS hx12
       have f40 := E88.loadS rfl rfl hx12
       refine rg tok [3, 5, 7, 24, 25, 26] fun K hK => ?_
       simp only [go_sem, rL, rD, rE, rA, encGNamed, f39, f40]
       refine hK _ _ ?_
       refine rcE [3, 5, 24, 25, 26] fun K hK => ?_
       refine za tok 2 ?_
       simp only [go_sem, rL, rE]
       refine zp 4 (fun L τ => L = ([(3, .op 1 0 0), (5, .bool x8), (24, .ds true (fM encGNamed a1.fValues) (lN a1.fValues) false), (25, .int .i64 (lN a1.fValues : Int)), (26, .int .i64 x9), (35, .bool (x8 || (decide (y12.fN = 0))))] : List (Nat × AV)) ∧ τ = ([.map (encM AV.str AV.bool r2.2), .cells 0 [.str a1.fName, .ds true (fM encGNamed a1.fValues) (lN a1.fValues) false], .cells 0 [.str y12.fName, .int .i64 y12.fN]] : Store)) ?_ ?_
       · refine zI (b := x8) 31 rfl (fun hg31 => ?_) (fun hg31 => ?_)
         · refine za tok 4 ?_
           simp only [go_sem, rL, rE]
           refine zb ⟨rfl, _, _, ⟨rfl, rfl⟩, .b hg31⟩
         · refine za tok 4 ?_
           simp only [go_sem, rL, rE, rA]
           refine zb ⟨rfl, _, _, ⟨rfl, rfl⟩, .b hg31⟩
       rintro _ _ ⟨rfl, rfl⟩
       refine za tok 1 ?_
       simp only [go_sem, rL, rE]
       refine zb ?_
       simp only [zd, upd, rE, reduceIte, zl, zn]
       refine hK _ _ ?_
       refine hZ38 _ _ ?_
       refine rgE tok [3, 5, 24, 25, 26] fun K hK => ?_
       simp only [go_sem, rL, rE, hw12]
       refine hK _ _ ?_
       exact ⟨_, _, _, nS q12.length, ⟨p12 ++ [y12], q12, x9 + 1, (x8 || (decide (y12.fN = 0))), rfl, rfl, rfl, hE'12, hi'12, h⟩, (.t [0, 1] false)⟩
def check_Check.l29 (a0 : GSchema) : List GMethod → Int → List (List UInt8 × Bool) → Option Int
 | [], x26, l25 => some 0
 | y29 :: q29, x26, l25 => bnd (check_Message a0 y29.fIn) fun r35 => bnd (check_Message a0 y29.fOut) fun r36 => (check_names_takes l25 y29.fName).bind fun r37 => (if (!r37.1) = true then some 6 else (if ((!r35.2) || (!r36.2)) = true then some 8 else ((check_Check.l29 a0 q29) (x26 + 1) r37.2)))
def check_Check.l22 (a0 : GSchema) : List GEnumeration → Int → List (List UInt8 × Bool) → Option Int
 | [], x19, l18 => (check_Check.l29 a0 a0.fMethods 0 [])
 | y22 :: q22, x19, l18 => (check_enum l18 y22).bind fun r44 => (if r44.1 = 0 then ((check_Check.l22 a0 q22) (x19 + 1) r44.2) else some r44.1)
def check_Check.l15 (a0 : GSchema) : List GMessage → Int → List (List UInt8 × Bool) → Option Int
 | [], x12, l11 => (check_Check.l22 a0 a0.fEnums 0 l11)
 | y15 :: q15, x12, l11 => (check_message a0 l11 y15).bind fun r52 => (if r52.1 = 0 then ((check_Check.l15 a0 q15) (x12 + 1) r52.2) else some r52.1)
def check_Check (a0 : GSchema) : Option Int :=
 (runes_Name a0.fName).bind fun r2 => (if (!r2) = true then some 6 else (if (lN a0.fMessages : Int) = 0 then some 12 else (if (((decide (10 < (lN a0.fMessages : Int))) || (decide (6 < (lN a0.fEnums : Int)))) || (decide (6 < (lN a0.fMethods : Int)))) = true then some 4 else (check_Check.l15 a0 a0.fMessages 0 []))))
theorem check_Check.ok (a0 : GSchema) (r : Int) (h : check_Check a0 = some r) : ACalls Tryd.prog 33 [.agg (encGSchema a0)] [] (fun r' _ => r' = .int .i64 r) := by
 refine zm (rs := [.tmp 2]) tok Tryd.func33 rfl Tryd.ntmps33 rfl Tryd.call33 (by simp) ?_
 refine zo [(0, .agg (encGSchema a0))] ⟨rfl, trivial⟩ ?_
 unfold check_Check at h
 refine rg tok [1] fun K hK => ?_
 simp only [go_sem, rL, rE, rA, reduceCtorEq, encGSchema]
 refine hK _ _ ?_
 refine ze fun Z1 hZ1 => ?_
 refine zk ?_
 refine rc [1, 17] fun K hK => ?_
 obtain ⟨r2, hr2, h⟩ := bind_some h
 refine za tok 2 ?_
 simp only [go_sem, rL, rE, rA]
 refine zh rfl rfl rfl (runes_Name.ev a0.fName r2 hr2 _) ?_
 rintro _ _ ⟨rfl, rfl⟩
 refine za tok 2 ?_
 simp only [go_sem, rL, rE]
 refine zb ?_
 simp only [zd, upd, rE, reduceIte, zl, zn]
 refine hK _ _ ?_
 refine zx (b := (!r2)) rfl (fun hc3 => ?_) (fun hc3 => ?_)
 · rw [if_pos hc3] at h
   refine rg tok [2] fun K hK => ?_
   simp only [go_sem, rL, rE]
   refine hK _ _ ?_
   refine zj ?_
   obtain rfl := Option.some.inj h
   exact retA
 · rw [if_F hc3] at h
   refine rg tok [1, 22] fun K hK => ?_
   simp only [go_sem, rL, rE, rA]
   refine hK _ _ ?_
   refine zA rfl (fun hc4 => ?_) (fun hc4 => ?_)
   · rw [if_pos hc4] at h
     have t5 := eq_true hc4
     refine rg tok [2] fun K hK => ?_
     simp only [go_sem, rL, rE, t5]
     refine hK _ _ ?_
     refine zj ?_
     obtain rfl := Option.some.inj h
     exact retA
   · rw [if_neg hc4] at h
     have t6 := eq_false hc4
     refine rc [1, 27] fun K hK => ?_
     refine za tok 5 ?_
     simp only [go_sem, rL, rE, rA, t6]
     refine zp 5 (fun L τ => L = ([(1, .op 0 0 0), (37, .bool ((decide (10 < (lN a0.fMessages : Int))) || (decide (6 < (lN a0.fEnums : Int)))))] : List (Nat × AV)) ∧ τ = ([.cells 0 [.str a0.fName, .ds true (fM encGMessage a0.fMessages) (lN a0.fMessages) false, .ds true (fM encGEnumeration a0.fEnums) (lN a0.fEnums) false, .ds true (fM encGMethod a0.fMethods) (lN a0.fMethods) false]] : Store)) ?_ ?_
     · refine za1 32 rfl (fun hg32 => ?_) (fun hg32 => ?_)
       · have t7 := eq_true hg32
         refine za tok 5 ?_
         simp only [go_sem, rL, rE]
         refine zb ⟨rfl, _, _, ⟨rfl, rfl⟩, .p t7⟩
       · have t8 := eq_false hg32
         refine za tok 5 ?_
         simp only [go_sem, rL, rE, rA]
         refine zb ⟨rfl, _, _, ⟨rfl, rfl⟩, .p t8⟩
     rintro _ _ ⟨rfl, rfl⟩
     refine za tok 1 ?_
     simp only [go_sem, rL, rE]
     refine zp 5 (fun L τ => L = ([(1, .op 0 0 0), (43, .bool (((decide (10 < (lN a0.fMessages : Int))) || (decide (6 < (lN a0.fEnums : Int)))) || (decide (6 < (lN a0.fMethods : Int)))))] : List (Nat × AV)) ∧ τ = ([.cells 0 [.str a0.fName, .ds true (fM encGMessage a0.fMessages) (lN a0.fMessages) false, .ds true (fM encGEnumeration a0.fEnums) (lN a0.fEnums) false, .ds true (fM encGMethod a0.fMethods) (lN a0.fMethods) false]] : Store)) ?_ ?_
     · refine zI (b := ((decide (10 < (lN a0.fMessages : Int))) || (decide (6 < (lN a0.fEnums : Int))))) 38 rfl (fun hg38 => ?_) (fun hg38 => ?_)
       · refine za tok 5 ?_
         simp only [go_sem, rL, rE]
         refine zb ⟨rfl, _, _, ⟨rfl, rfl⟩, .b hg38⟩
       · refine za tok 5 ?_
         simp only [go_sem, rL, rE, rA]
         refine zb ⟨rfl, _, _, ⟨rfl, rfl⟩, .b hg38⟩
     rintro _ _ ⟨rfl, rfl⟩
     refine za tok 1 ?_
     simp only [go_sem, rL, rE]
     refine zb ?_
     simp only [zd, upd, rE, reduceIte, zl, zn]
     refine hK _ _ ?_
     refine zx (b := (((decide (10 < (lN a0.fMessages : Int))) || (decide (6 < (lN a0.fEnums : Int)))) || (decide (6 < (lN a0.fMethods : Int))))) rfl (fun hc9 => ?_) (fun hc9 => ?_)
     · rw [if_pos hc9] at h
       refine rg tok [2] fun K hK => ?_
       simp only [go_sem, rL, rE]
       refine hK _ _ ?_
       refine zj ?_
       obtain rfl := Option.some.inj h
       exact retA
     · rw [if_F hc9] at h
       refine zi ?_
       refine hZ1 _ _ ?_
       refine rg tok [1, 3] fun K hK => ?_
       simp only [go_sem, rL, rE]
       refine hK _ _ ?_
       refine zH (L := [(1, .op 0 0 0), (3, .mp 1)]) (τ := [.cells 0 [.str a0.fName, .ds true (fM encGMessage a0.fMessages) (lN a0.fMessages) false, .ds true (fM encGEnumeration a0.fEnums) (lN a0.fEnums) false, .ds true (fM encGMethod a0.fMethods) (lN a0.fMethods) false], .map (encM AV.str AV.bool [])]) .s ?_
       refine ze fun Z10 hZ10 => ?_
       refine rg tok [1, 3, 46, 47, 48] fun K hK => ?_
       simp only [go_sem, rL, rE, rA]
       refine hK _ _ ?_
       refine zk ?_
       refine zO 46 fun hb15 => ?_
       replace hb15 : lN a0.fMessages ≤ 9223372036854775807 := hb15.1
       refine zw (fun m L τ => ∃ (p15 q15 : List GMessage) (x12 : Int) (l11 : List (List UInt8 × Bool)), m = lN q15 ∧ L = ([(1, .op 0 0 0), (3, .mp 1), (46, .ds true (fM encGMessage a0.fMessages) (lN a0.fMessages) false), (47, .int .i64 (lN a0.fMessages : Int)), (48, .int .i64 x12)] : List (Nat × AV)) ∧ τ = ([.cells 0 [.str a0.fName, .ds true (fM encGMessage a0.fMessages) (lN a0.fMessages) false, .ds true (fM encGEnumeration a0.fEnums) (lN a0.fEnums) false, .ds true (fM encGMethod a0.fMethods) (lN a0.fMethods) false], .map (encM AV.str AV.bool l11)] : Store) ∧ a0.fMessages = p15 ++ q15 ∧ x12 = (lN p15 : Int) ∧ check_Check.l15 a0 q15 x12 l11 = some r) _ ⟨[], a0.fMessages, 0, [], rfl, rfl, rfl, rfl, rfl, h⟩ .s ?_
       rintro m L τ ⟨p15, q15, x12, l11, rfl, rfl, rfl, hE15, hi15, h⟩
       rcases q15 with _ | ⟨y15, q15⟩
       · have hz15 := zN hE15 hi15
         simp only [check_Check.l15] at h
         refine rg tok [1, 3, 46, 47, 48, 49] fun K hK => ?_
         simp only [go_sem, rL, rE, hz15]
         refine hK _ _ ?_
         refine ze fun Z16 hZ16 => ?_
         refine zq rfl ?_
         refine zz ?_
         refine hZ10 _ _ ?_
         refine ze fun Z17 hZ17 => ?_
         refine rg tok [1, 3, 61, 62, 63] fun K hK => ?_
         simp only [go_sem, rL, rE, rA]
         refine hK _ _ ?_
         refine zk ?_
         refine zO 61 fun hb22 => ?_
         replace hb22 : lN a0.fEnums ≤ 9223372036854775807 := hb22.1
         refine zw (fun m L τ => ∃ (p22 q22 : List GEnumeration) (x19 : Int) (l18 : List (List UInt8 × Bool)), m = lN q22 ∧ L = ([(1, .op 0 0 0), (3, .mp 1), (61, .ds true (fM encGEnumeration a0.fEnums) (lN a0.fEnums) false), (62, .int .i64 (lN a0.fEnums : Int)), (63, .int .i64 x19)] : List (Nat × AV)) ∧ τ = ([.cells 0 [.str a0.fName, .ds true (fM encGMessage a0.fMessages) (lN a0.fMessages) false, .ds true (fM encGEnumeration a0.fEnums) (lN a0.fEnums) false, .ds true (fM encGMethod a0.fMethods) (lN a0.fMethods) false], .map (encM AV.str AV.bool l18)] : Store) ∧ a0.fEnums = p22 ++ q22 ∧ x19 = (lN p22 : Int) ∧ check_Check.l22 a0 q22 x19 l18 = some r) _ ⟨[], a0.fEnums, 0, l11, rfl, rfl, rfl, rfl, rfl, h⟩ .s ?_
         rintro m L τ ⟨p22, q22, x19, l18, rfl, rfl, rfl, hE22, hi22, h⟩
         rcases q22 with _ | ⟨y22, q22⟩
         · have hz22 := zN hE22 hi22
           simp only [check_Check.l22] at h
           refine rg tok [1, 3, 61, 62, 63, 64] fun K hK => ?_
           simp only [go_sem, rL, rE, hz22]
           refine hK _ _ ?_
           refine ze fun Z23 hZ23 => ?_
           refine zq rfl ?_
           refine zz ?_
           refine hZ17 _ _ ?_
           refine rg tok [1, 10] fun K hK => ?_
           simp only [go_sem, rL, rE, rA]
           refine hK _ _ ?_
           refine zH (L := [(1, .op 0 0 0), (10, .mp 2)]) (τ := [.cells 0 [.str a0.fName, .ds true (fM encGMessage a0.fMessages) (lN a0.fMessages) false, .ds true (fM encGEnumeration a0.fEnums) (lN a0.fEnums) false, .ds true (fM encGMethod a0.fMethods) (lN a0.fMethods) false], .map (encM AV.str AV.bool l18), .map (encM AV.str AV.bool [])]) .s ?_
           refine ze fun Z24 hZ24 => ?_
           refine rg tok [1, 10, 76, 77, 78] fun K hK => ?_
           simp only [go_sem, rL, rE, rA]
           refine hK _ _ ?_
           refine zk ?_
           refine zO 76 fun hb29 => ?_
           replace hb29 : lN a0.fMethods ≤ 9223372036854775807 := hb29.1
           refine zw (fun m L τ => ∃ (p29 q29 : List GMethod) (x26 : Int) (l25 : List (List UInt8 × Bool)), m = lN q29 ∧ L = ([(1, .op 0 0 0), (10, .mp 1), (76, .ds true (fM encGMethod a0.fMethods) (lN a0.fMethods) false), (77, .int .i64 (lN a0.fMethods : Int)), (78, .int .i64 x26)] : List (Nat × AV)) ∧ τ = ([.cells 0 [.str a0.fName, .ds true (fM encGMessage a0.fMessages) (lN a0.fMessages) false, .ds true (fM encGEnumeration a0.fEnums) (lN a0.fEnums) false, .ds true (fM encGMethod a0.fMethods) (lN a0.fMethods) false], .map (encM AV.str AV.bool l25)] : Store) ∧ a0.fMethods = p29 ++ q29 ∧ x26 = (lN p29 : Int) ∧ check_Check.l29 a0 q29 x26 l25 = some r) _ ⟨[], a0.fMethods, 0, [], rfl, rfl, rfl, rfl, rfl, h⟩ (.t [0, 2] false) ?_
           rintro m L τ ⟨p29, q29, x26, l25, rfl, rfl, rfl, hE29, hi29, h⟩
           rcases q29 with _ | ⟨y29, q29⟩
           · have hz29 := zN hE29 hi29
             simp only [check_Check.l29] at h
             refine rg tok [1, 10, 76, 77, 78, 79] fun K hK => ?_
             simp only [go_sem, rL, rE, hz29]
             refine hK _ _ ?_
             refine ze fun Z30 hZ30 => ?_
             refine zq rfl ?_
             refine zz ?_
             refine hZ24 _ _ ?_
             refine rg tok [2] fun K hK => ?_
             simp only [go_sem, rL, rE]
             refine hK _ _ ?_
             refine zj ?_
             obtain rfl := Option.some.inj h
             exact retA
           · obtain ⟨hz29, hw29, hx29, hE'29, hi'29⟩ := zK hE29 hi29 hb29
             simp only [check_Check.l29] at h
             refine rg tok [1, 10, 76, 77, 78, 79] fun K hK => ?_
             simp only [go_sem, rL, rE, hz29]
             refine hK _ _ ?_
             refine ze fun Z31 hZ31 => ?_
             refine zt rfl ?_
             refine zi ?_
             refine hZ31 _ _ ?_
             refine ze fun Z32 hZ32 => ?_
             refine zk ?_
             have f33 := E29.idxS hx29
             have f34 := E29.loadS rfl rfl hx29
             refine rg tok [1, 10, 12, 76, 77, 78] fun K hK => ?_
             simp only [go_sem, rL, rD, rE, rA, encGMethod, f33, f34]
             refine hK _ _ ?_
             refine rc [1, 10, 12, 14, 76, 77, 78] fun K hK => ?_
             obtain ⟨r35, hr35, h⟩ := zJ h
             refine za tok 3 ?_
             simp only [go_sem, rL, rD, rE, rA]
             refine zh rfl rfl rfl (check_Message.ev a0 y29.fIn r35 hr35 _) ?_
             rintro _ _ ⟨rfl, rfl⟩
             refine za tok 6 ?_
             simp only [go_sem, rL, rD, rE, rA, encGMessage]
             refine zb ?_
             simp only [zd, upd, rE, reduceIte, zl, zn]
             refine hK _ _ ?_
             refine rc [1, 10, 12, 14, 16, 76, 77, 78] fun K hK => ?_
             obtain ⟨r36, hr36, h⟩ := zJ h
             refine za tok 3 ?_
             simp only [go_sem, rL, rD, rE, rA]
             refine zh rfl rfl rfl (check_Message.ev a0 y29.fOut r36 hr36 _) ?_
             rintro _ _ ⟨rfl, rfl⟩
             refine za tok 6 ?_
             simp only [go_sem, rL, rD, rE, rA, encGMessage]
             refine zb ?_
             simp only [zd, upd, rE, reduceIte, zl, zn]
             refine hK _ _ ?_
             refine zk ?_
             refine rc [1, 10, 14, 16, 76, 77, 78, 96] fun K hK => ?_
             obtain ⟨r37, hr37, h⟩ := bind_some h
             refine za tok 3 ?_
             simp only [go_sem, rL, rE, rA]
             refine zh rfl rfl rfl (@id (ACalls Tryd.prog 54 [.mp 1, .str y29.fName] [.cells 0 [.str a0.fName, .ds true (fM encGMessage a0.fMessages) (lN a0.fMessages) false, .ds true (fM encGEnumeration a0.fEnums) (lN a0.fEnums) false, .ds true (fM encGMethod a0.fMethods) (lN a0.fMethods) false], .map (encM AV.str AV.bool l25), .cells 0 [.str y29.fName, .str y29.fIn, .str y29.fOut], .cells 0 [.str r35.1.fName, .ds true (fM encGField r35.1.fFields) (lN r35.1.fFields) false, .ds true (fM encI r35.1.fReserved) (lN r35.1.fReserved) false], .cells 0 [.str r36.1.fName, .ds true (fM encGField r36.1.fFields) (lN r36.1.fFields) false, .ds true (fM encI r36.1.fReserved) (lN r36.1.fReserved) false]] (fun r' σ' => r' = .bool r37.1 ∧ σ' = [.cells 0 [.str a0.fName, .ds true (fM encGMessage a0.fMessages) (lN a0.fMessages) false, .ds true (fM encGEnumeration a0.fEnums) (lN a0.fEnums) false, .ds true (fM encGMethod a0.fMethods) (lN a0.fMethods) false], .map (encM AV.str AV.bool r37.2), .cells 0 [.str y29.fName, .str y29.fIn, .str y29.fOut], .cells 0 [.str r35.1.fName, .ds true (fM encGField r35.1.fFields) (lN r35.1.fFields) false, .ds true (fM encI r35.1.fReserved) (lN r35.1.fReserved) false], .cells 0 [.str r36.1.fName, .ds true (fM encGField r36.1.fFields) (lN r36.1.fFields) false, .ds true (fM encI r36.1.fReserved) (lN r36.1.fReserved) false]])) ((check_names_takes.ok l25 y29.fName r37 hr37).i [1])) ?_
             rintro _ _ ⟨rfl, rfl⟩
             refine za tok 2 ?_
             simp only [go_sem, rL, rE]
             refine zb ?_
             simp only [zd, upd, rE, reduceIte, zl, zn]
             refine hK _ _ ?_
             refine zx (b := (!r37.1)) rfl (fun hc38 => ?_) (fun hc38 => ?_)
             · rw [if_pos hc38] at h
               refine rg tok [2] fun K hK => ?_
               simp only [go_sem, rL, rE]
               refine hK _ _ ?_
               refine zj ?_
               obtain rfl := Option.some.inj h
               exact retA
             · rw [if_F hc38] at h
               refine rc [1, 10, 76, 77, 78, 102] fun K hK => ?_
               refine za tok 3 ?_
               simp only [go_sem, rL, rE]
               refine zp 3 (fun L τ => L = ([(1, .op 0 0 0), (10, .mp 1), (76, .ds true (fM encGMethod a0.fMethods) (lN a0.fMethods) false), (77, .int .i64 (lN a0.fMethods : Int)), (78, .int .i64 x26), (108, .bool ((!r35.2) || (!r36.2)))] : List (Nat × AV)) ∧ τ = ([.cells 0 [.str a0.fName, .ds true (fM encGMessage a0.fMessages) (lN a0.fMessages) false, .ds true (fM encGEnumeration a0.fEnums) (lN a0.fEnums) false, .ds true (fM encGMethod a0.fMethods) (lN a0.fMethods) false], .map (encM AV.str AV.bool r37.2), .cells 0 [.str y29.fName, .str y29.fIn, .str y29.fOut], .cells 0 [.str r35.1.fName, .ds true (fM encGField r35.1.fFields) (lN r35.1.fFields) false, .ds true (fM encI r35.1.fReserved) (lN r35.1.fReserved) false], .cells 0 [.str r36.1.fName, .ds true (fM encGField r36.1.fFields) (lN r36.1.fFields) false, .ds true (fM encI r36.1.fReserved) (lN r36.1.fReserved) false]] : Store)) ?_ ?_
               · refine zI (b := (!r35.2)) 105 rfl (fun hg105 => ?_) (fun hg105 => ?_)
                 · refine za tok 3 ?_
                   simp only [go_sem, rL, rE]
                   refine zb ⟨rfl, _, _, ⟨rfl, rfl⟩, .b hg105⟩
                 · refine za tok 3 ?_
                   simp only [go_sem, rL, rE]
                   refine zb ⟨rfl, _, _, ⟨rfl, rfl⟩, .b hg105⟩
               rintro _ _ ⟨rfl, rfl⟩
               refine za tok 1 ?_
               simp only [go_sem, rL, rE]
               refine zb ?_
               simp only [zd, upd, rE, reduceIte, zl, zn]
               refine hK _ _ ?_
               refine zx (b := ((!r35.2) || (!r36.2))) rfl (fun hc39 => ?_) (fun hc39 => ?_)
               · rw [if_pos hc39] at h
                 refine rg tok [2] fun K hK => ?_
                 simp only [go_sem, rL, rE]
                 refine hK _ _ ?_
                 refine zj ?_
                 obtain rfl := Option.some.inj h
                 exact retA
               · rw [if_F hc39] at h
                 refine zi ?_
                 refine hZ32 _ _ ?_
                 refine rgE tok [1, 10, 76, 77, 78] fun K hK => ?_
                 simp only [go_sem, rL, rE, hw29]
                 refine hK _ _ ?_
                 exact ⟨_, _, _, nS q29.length, ⟨p29 ++ [y29], q29, x26 + 1, r37.2, rfl, rfl, rfl, hE'29, hi'29, h⟩, (.t [0, 1] false)⟩
         · obtain ⟨hz22, hw22, hx22, hE'22, hi'22⟩ := zK hE22 hi22 hb22
           simp only [check_Check.l22] at h
           refine rg tok [1, 3, 61, 62, 63, 64] fun K hK => ?_
           simp only [go_sem, rL, rE, hz22]
           refine hK _ _ ?_
           refine ze fun Z40 hZ40 => ?_
           refine zt rfl ?_
           refine zi ?_
           refine hZ40 _ _ ?_
           refine ze fun Z41 hZ41 => ?_
           refine zk ?_
           have f42 := E28.idxS hx22
           have f43 := E28.loadS rfl rfl hx22
           refine rg tok [1, 3, 8, 61, 62, 63] fun K hK => ?_
           simp only [go_sem, rL, rD, rE, rA, encGEnumeration, f42, f43]
           refine hK _ _ ?_
           refine rc [1, 3, 9, 61, 62, 63] fun K hK => ?_
           obtain ⟨r44, hr44, h⟩ := bind_some h
           refine za tok 2 ?_
           simp only [go_sem, rL, rD, rE, rA]
           refine zh rfl rfl rfl (@id (ACalls Tryd.prog 53 [.mp 1, .agg (encGEnumeration y22)] [.cells 0 [.str a0.fName, .ds true (fM encGMessage a0.fMessages) (lN a0.fMessages) false, .ds true (fM encGEnumeration a0.fEnums) (lN a0.fEnums) false, .ds true (fM encGMethod a0.fMethods) (lN a0.fMethods) false], .map (encM AV.str AV.bool l18), .cells 0 [.str y22.fName, .ds true (fM encGNamed y22.fValues) (lN y22.fValues) false]] (fun r' σ' => r' = .int .i64 r44.1 ∧ σ' = [.cells 0 [.str a0.fName, .ds true (fM encGMessage a0.fMessages) (lN a0.fMessages) false, .ds true (fM encGEnumeration a0.fEnums) (lN a0.fEnums) false, .ds true (fM encGMethod a0.fMethods) (lN a0.fMethods) false], .map (encM AV.str AV.bool r44.2), .cells 0 [.str y22.fName, .ds true (fM encGNamed y22.fValues) (lN y22.fValues) false]])) ((check_enum.ok l18 y22 r44 hr44).i [1])) ?_
           rintro _ _ ⟨rfl, rfl⟩
           refine za tok 1 ?_
           simp only [go_sem, rL, rE]
           refine zb ?_
           simp only [zd, upd, rE, reduceIte, zl, zn]
           refine hK _ _ ?_
           refine rg tok [1, 3, 9, 61, 62, 63, 71] fun K hK => ?_
           simp only [go_sem, rL, rE]
           refine hK _ _ ?_
           refine zA rfl (fun hc45 => ?_) (fun hc45 => ?_)
           · rw [if_neg hc45] at h
             have t46 := eq_false hc45
             refine rg tok [2] fun K hK => ?_
             simp only [go_sem, rL, rE, t46]
             refine hK _ _ ?_
             refine zj ?_
             obtain rfl := Option.some.inj h
             exact retA
           · rw [if_pos hc45] at h
             have t47 := eq_true hc45
             refine zi ?_
             refine hZ41 _ _ ?_
             refine rgE tok [1, 3, 61, 62, 63] fun K hK => ?_
             simp only [go_sem, rL, rE, hw22, t47]
             refine hK _ _ ?_
             exact ⟨_, _, _, nS q22.length, ⟨p22 ++ [y22], q22, x19 + 1, r44.2, rfl, rfl, rfl, hE'22, hi'22, h⟩, (.t [0, 1] false)⟩
       · obtain ⟨hz15, hw15, hx15, hE'15, hi'15⟩ := zK hE15 hi15 hb15
         simp only [check_Check.l15] at h
         refine rg tok [1, 3, 46, 47, 48, 49] fun K hK => ?_
         simp only [go_sem, rL, rE, hz15]
         refine hK _ _ ?_
         refine ze fun Z48 hZ48 => ?_
         refine zt rfl ?_
         refine zi ?_
         refine hZ48 _ _ ?_
         refine ze fun Z49 hZ49 => ?_
         refine zk ?_
         have f50 := E27.idxS hx15
         have f51 := E27.loadS rfl rfl hx15
         refine rg tok [1, 3, 5, 46, 47, 48] fun K hK => ?_
         simp only [go_sem, rL, rD, rE, rA, encGMessage, f50, f51]
         refine hK _ _ ?_
         refine rc [1, 3, 6, 46, 47, 48] fun K hK => ?_
         obtain ⟨r52, hr52, h⟩ := bind_some h
         refine za tok 3 ?_
         simp only [go_sem, rL, rD, rE, rA]
         refine zh rfl rfl rfl (@id (ACalls Tryd.prog 52 [.agg (encGSchema a0), .mp 1, .agg (encGMessage y15)] [.cells 0 [.str a0.fName, .ds true (fM encGMessage a0.fMessages) (lN a0.fMessages) false, .ds true (fM encGEnumeration a0.fEnums) (lN a0.fEnums) false, .ds true (fM encGMethod a0.fMethods) (lN a0.fMethods) false], .map (encM AV.str AV.bool l11), .cells 0 [.str y15.fName, .ds true (fM encGField y15.fFields) (lN y15.fFields) false, .ds true (fM encI y15.fReserved) (lN y15.fReserved) false]] (fun r' σ' => r' = .int .i64 r52.1 ∧ σ' = [.cells 0 [.str a0.fName, .ds true (fM encGMessage a0.fMessages) (lN a0.fMessages) false, .ds true (fM encGEnumeration a0.fEnums) (lN a0.fEnums) false, .ds true (fM encGMethod a0.fMethods) (lN a0.fMethods) false], .map (encM AV.str AV.bool r52.2), .cells 0 [.str y15.fName, .ds true (fM encGField y15.fFields) (lN y15.fFields) false, .ds true (fM encI y15.fReserved) (lN y15.fReserved) false]])) ((check_message.ok a0 l11 y15 r52 hr52).i [1])) ?_
         rintro _ _ ⟨rfl, rfl⟩
         refine za tok 1 ?_
         simp only [go_sem, rL, rE]
         refine zb ?_
         simp only [zd, upd, rE, reduceIte, zl, zn]
         refine hK _ _ ?_
         refine rg tok [1, 3, 6, 46, 47, 48, 57] fun K hK => ?_
         simp only [go_sem, rL, rE]
         refine hK _ _ ?_
         refine zA rfl (fun hc53 => ?_) (fun hc53 => ?_)
         · rw [if_neg hc53] at h
           have t54 := eq_false hc53
           refine rg tok [2] fun K hK => ?_
           simp only [go_sem, rL, rE, t54]
           refine hK _ _ ?_
           refine zj ?_
           obtain rfl := Option.some.inj h
           exact retA
         · rw [if_pos hc53] at h
           have t55 := eq_true hc53
           refine zi ?_
           refine hZ49 _ _ ?_
           refine rgE tok [1, 3, 46, 47, 48] fun K hK => ?_
           simp only [go_sem, rL, rE, hw15, t55]
           refine hK _ _ ?_
           exact ⟨_, _, _, nS q15.length, ⟨p15 ++ [y15], q15, x12 + 1, r52.2, rfl, rfl, rfl, hE'15, hi'15, h⟩, (.t [0, 1] false)⟩
theorem check_Check.ev (a0 : GSchema) (r : Int) (h : check_Check a0 = some r) (σ : Store) : ACalls Tryd.prog 33 [.agg (encGSchema a0)] σ (fun r' σ' => r' = .int .i64 r ∧ σ' = σ) :=
 (check_Check.ok a0 r h).c σ
def decode_Decode (a0 : GSchema) (a1 : List UInt8) (a2 : List UInt8) : Option (GTree × Int) :=
 (check_Check a0).bind fun r2 => (if r2 = 0 then bnd (check_Message a0 a1) fun r6 => (if (!r6.2) = true then some ((⟨0, 0, [], ([] : List GEntry), ([] : List GRaw)⟩ : GTree), 14) else (decode_message rounds a0 r6.1 a2 1).bind fun r9 => some (r9.1, r9.2)) else some ((⟨0, 0, [], ([] : List GEntry), ([] : List GRaw)⟩ : GTree), 1))
theorem decode_Decode.ok (a0 : GSchema) (a1 : List UInt8) (a2 : List UInt8) (r : GTree × Int) (h : decode_Decode a0 a1 a2 = some r) : ACalls Tryd.prog 13 [.agg (encGSchema a0), .str a1, .ds true (fM encB a2) (lN a2) false] [] (fun r' _ => r' = .tup [.agg (cellsGTree r.1), .int .i64 r.2]) := by
 refine zm (rs := [.cell 6 42, .tmp 7]) tok Tryd.func13 rfl Tryd.ntmps13 rfl Tryd.call13 (by simp) ?_
 refine zo [(0, .agg (encGSchema a0)), (1, .str a1), (2, .ds true (fM encB a2) (lN a2) false)] ⟨rfl, rfl, rfl, trivial⟩ ?_
 unfold decode_Decode at h
 refine rg tok [1, 2, 3, 6] fun K hK => ?_
 simp only [go_sem, rL, rE, rA, reduceCtorEq, encGSchema]
 refine hK _ _ ?_
 refine ze fun Z1 hZ1 => ?_
 refine rc [1, 2, 3, 6, 12] fun K hK => ?_
 obtain ⟨r2, hr2, h⟩ := bind_some h
 refine za tok 1 ?_
 simp only [go_sem, rL, rD, rE, rA]
 refine zh rfl rfl rfl (check_Check.ev a0 r2 hr2 _) ?_
 rintro _ _ ⟨rfl, rfl⟩
 refine za tok 1 ?_
 simp only [go_sem, rL, rE]
 refine zb ?_
 simp only [zd, upd, rE, reduceIte, zl, zn]
 refine hK _ _ ?_
 refine zA rfl (fun hc3 => ?_) (fun hc3 => ?_)
 · rw [if_neg hc3] at h
   have t4 := eq_false hc3
   refine rg tok [6, 7] fun K hK => ?_
   simp only [go_sem, rL, rD, rE, rA, t4]
   refine hK _ _ ?_
   refine zj ?_
   obtain rfl := Option.some.inj h
   exact retA
 · rw [if_pos hc3] at h
   have t5 := eq_true hc3
   refine zi ?_
   refine hZ1 _ _ ?_
   refine rc [2, 3, 6, 8, 9] fun K hK => ?_
   obtain ⟨r6, hr6, h⟩ := zJ h
   refine za tok 2 ?_
   simp only [go_sem, rL, rD, rE, rA, t5]
   refine zh rfl rfl rfl (check_Message.ev a0 a1 r6 hr6 _) ?_
   rintro _ _ ⟨rfl, rfl⟩
   refine za tok 6 ?_
   simp only [go_sem, rL, rD, rE, rA, encGMessage]
   refine zb ?_
   simp only [zd, upd, rE, reduceIte, zl, zn]
   refine hK _ _ ?_
   refine ze fun Z7 hZ7 => ?_
   refine rg tok [2, 3, 6, 8, 21] fun K hK => ?_
   simp only [go_sem, rL, rE]
   refine hK _ _ ?_
   refine zx (b := (!r6.2)) rfl (fun hc8 => ?_) (fun hc8 => ?_)
   · rw [if_pos hc8] at h
     refine rg tok [6, 7] fun K hK => ?_
     simp only [go_sem, rL, rD, rE, rA]
     refine hK _ _ ?_
     refine zj ?_
     obtain rfl := Option.some.inj h
     exact retA
   · rw [if_F hc8] at h
     refine zi ?_
     refine hZ7 _ _ ?_
     refine rc [6, 7] fun K hK => ?_
     obtain ⟨r9, hr9, h⟩ := bind_some h
     refine za tok 3 ?_
     simp only [go_sem, rL, rD, rE, rA]
     refine zh rfl rfl rfl (decode_message.ev rounds a0 r6.1 a2 1 r9 hr9 _) ?_
     rintro _ _ ⟨rfl, rfl⟩
     refine za tok 4 ?_
     simp only [go_sem, rL, rD, rE, rA, cellsGTree]
     refine zb ?_
     simp only [zd, upd, rE, reduceIte, zl, zn]
     refine hK _ _ ?_
     refine zj ?_
     obtain rfl := Option.some.inj h
     exact retA
theorem decode_Decode.ev (a0 : GSchema) (a1 : List UInt8) (a2 : List UInt8) (r : GTree × Int) (h : decode_Decode a0 a1 a2 = some r) (σ : Store) : ACalls Tryd.prog 13 [.agg (encGSchema a0), .str a1, .ds true (fM encB a2) (lN a2) false] σ (fun r' σ' => r' = .tup [.agg (cellsGTree r.1), .int .i64 r.2] ∧ σ' = σ) :=
 (decode_Decode.ok a0 a1 a2 r h).c σ
def value_deep.l20 (self_value_deep : GTree → Int → Option Int) (a1 : Int) (x7 : Int) (rec10 : Int → Int → Option Int) : List GTree → Int → Int → Option Int
 | [], x17, x16 => (rec10 (x7 + 1) x16)
 | y20 :: q20, x17, x16 => (self_value_deep y20 (IntKind.i64.wrap (a1 - 1))).bind fun r26 => ((value_deep.l20 self_value_deep a1 x7 rec10 q20) (x17 + 1) (if x16 < r26 then r26 else x16))
def value_deep.l10 (self_value_deep : GTree → Int → Option Int) (a1 : Int) : List GEntry → Int → Int → Option Int
 | [], x7, x6 => some (IntKind.i64.wrap (x6 + 1))
 | y10 :: q10, x7, x6 => (value_deep.l20 self_value_deep a1 x7 (value_deep.l10 self_value_deep a1 q10) y10.fTrees 0 x6)
def value_deep.body (self_value_deep : GTree → Int → Option Int) (a0 : GTree) (a1 : Int) : Option Int :=
 (if ((!(decide (a0.fKind = 3))) || (decide (a1 = 0))) = true then some 0 else (value_deep.l10 self_value_deep a1 a0.fEntries 0 0))
theorem value_deep.step (self_value_deep : GTree → Int → Option Int) (ih_value_deep : ∀ (a0 : GTree) (a1 : Int) (r : Int), self_value_deep a0 a1 = some r → ACalls Tryd.prog 99 [.agg (cellsGTree a0), .int .i64 a1] [] (fun r' _ => r' = .int .i64 r)) (a0 : GTree) (a1 : Int) (r : Int) (h : value_deep.body self_value_deep a0 a1 = some r) : ACalls Tryd.prog 99 [.agg (cellsGTree a0), .int .i64 a1] [] (fun r' _ => r' = .int .i64 r) := by
 have ev_value_deep := fun a0 a1 r h σ => (ih_value_deep a0 a1 r h).c σ
 refine zm (rs := [.tmp 4]) tok Tryd.func99 rfl Tryd.ntmps99 rfl Tryd.call99 (by simp) ?_
 refine zo [(0, .agg (cellsGTree a0)), (1, .int .i64 a1)] ⟨rfl, rfl, trivial⟩ ?_
 unfold value_deep.body at h
 refine rg tok [1, 2] fun K hK => ?_
 simp only [go_sem, rL, rE, rA, reduceCtorEq, cellsGTree]
 refine hK _ _ ?_
 refine ze fun Z1 hZ1 => ?_
 refine rc [1, 2, 16] fun K hK => ?_
 refine za tok 4 ?_
 simp only [go_sem, rL, rE, rA]
 refine zp 3 (fun L τ => L = ([(1, .int .i64 a1), (2, .op 0 0 0), (16, .bool ((!(decide (a0.fKind = 3))) || (decide (a1 = 0))))] : List (Nat × AV)) ∧ τ = ([.cells 0 [.int .i64 a0.fKind, .int .i64 a0.fN, .str a0.fS, .ds true (fM encGEntry a0.fEntries) (lN a0.fEntries) false, .ds true (fM encGRaw a0.fRest) (lN a0.fRest) false]] : Store)) ?_ ?_
 · refine za1 13 rfl (fun hg13 => ?_) (fun hg13 => ?_)
   · have t2 := eq_false hg13
     refine za tok 3 ?_
     simp only [go_sem, rL, rE]
     refine zb ⟨rfl, _, _, ⟨rfl, rfl⟩, .p t2⟩
   · have t3 := eq_true hg13
     refine za tok 3 ?_
     simp only [go_sem, rL, rE]
     refine zb ⟨rfl, _, _, ⟨rfl, rfl⟩, .p t3⟩
 rintro _ _ ⟨rfl, rfl⟩
 refine zb ?_
 simp only [zd, rE, reduceIte, zl, zn]
 refine hK _ _ ?_
 refine zx (b := ((!(decide (a0.fKind = 3))) || (decide (a1 = 0)))) rfl (fun hc4 => ?_) (fun hc4 => ?_)
 · rw [if_pos hc4] at h
   refine rg tok [4] fun K hK => ?_
   simp only [go_sem, rL, rE]
   refine hK _ _ ?_
   refine zj ?_
   obtain rfl := Option.some.inj h
   exact retA
 · rw [if_F hc4] at h
   refine zi ?_
   refine hZ1 _ _ ?_
   refine rg tok [1, 2, 5] fun K hK => ?_
   simp only [go_sem, rL, rE]
   refine hK _ _ ?_
   refine ze fun Z5 hZ5 => ?_
   refine rg tok [1, 5, 18, 19, 20] fun K hK => ?_
   simp only [go_sem, rL, rE, rA]
   refine hK _ _ ?_
   refine zk ?_
   refine zO 18 fun hb10 => ?_
   replace hb10 : lN a0.fEntries ≤ 9223372036854775807 := hb10.1
   refine zw (fun m L τ => ∃ (p10 q10 : List GEntry) (x7 : Int) (x6 : Int), m = lN q10 ∧ L = ([(1, .int .i64 a1), (5, .int .i64 x6), (18, .ds true (fM encGEntry a0.fEntries) (lN a0.fEntries) false), (19, .int .i64 (lN a0.fEntries : Int)), (20, .int .i64 x7)] : List (Nat × AV)) ∧ τ = ([] : Store) ∧ a0.fEntries = p10 ++ q10 ∧ x7 = (lN p10 : Int) ∧ value_deep.l10 self_value_deep a1 q10 x7 x6 = some r) _ ⟨[], a0.fEntries, 0, 0, rfl, rfl, rfl, rfl, rfl, h⟩ (.t [] false) ?_
   rintro m L τ ⟨p10, q10, x7, x6, rfl, rfl, rfl, hE10, hi10, h⟩
   rcases q10 with _ | ⟨y10, q10⟩
   · have hz10 := zN hE10 hi10
     simp only [value_deep.l10] at h
     refine rg tok [1, 5, 18, 19, 20, 21] fun K hK => ?_
     simp only [go_sem, rL, rE, hz10]
     refine hK _ _ ?_
     refine ze fun Z11 hZ11 => ?_
     refine zq rfl ?_
     refine zz ?_
     refine hZ5 _ _ ?_
     refine rg tok [4] fun K hK => ?_
     simp only [go_sem, rL, rE]
     refine hK _ _ ?_
     refine zj ?_
     obtain rfl := Option.some.inj h
     exact retA
   · obtain ⟨hz10, hw10, hx10, hE'10, hi'10⟩ := zK hE10 hi10 hb10
     simp only [value_deep.l10] at h
     refine rg tok [1, 5, 18, 19, 20, 21] fun K hK => ?_
     simp only [go_sem, rL, rE, hz10]
     refine hK _ _ ?_
     refine ze fun Z12 hZ12 => ?_
     refine zt rfl ?_
     refine zi ?_
     refine hZ12 _ _ ?_
     refine ze fun Z13 hZ13 => ?_
     refine zk ?_
     have f14 := E40.idxS hx10
     have f15 := E40.loadS rfl rfl hx10
     refine rg tok [1, 5, 7, 18, 19, 20] fun K hK => ?_
     simp only [go_sem, rL, rD, rE, rA, cellsGEntry, zB, f14, f15]
     refine hK _ _ ?_
     refine rg tok [1, 5, 18, 19, 20, 25, 26, 27] fun K hK => ?_
     simp only [go_sem, rL, rE, rA]
     refine hK _ _ ?_
     refine zk ?_
     refine zO 25 fun hb20 => ?_
     replace hb20 : lN y10.fTrees ≤ 9223372036854775807 := hb20.1
     refine zw (fun m L τ => ∃ (p20 q20 : List GTree) (x17 : Int) (x16 : Int), m = lN q20 ∧ L = ([(1, .int .i64 a1), (5, .int .i64 x16), (18, .ds true (fM encGEntry a0.fEntries) (lN a0.fEntries) false), (19, .int .i64 (lN a0.fEntries : Int)), (20, .int .i64 x7), (25, .ds true (fM encGTree y10.fTrees) (lN y10.fTrees) false), (26, .int .i64 (lN y10.fTrees : Int)), (27, .int .i64 x17)] : List (Nat × AV)) ∧ τ = ([] : Store) ∧ y10.fTrees = p20 ++ q20 ∧ x17 = (lN p20 : Int) ∧ value_deep.l20 self_value_deep a1 x7 (value_deep.l10 self_value_deep a1 q10) q20 x17 x16 = some r) _ ⟨[], y10.fTrees, 0, x6, rfl, rfl, rfl, rfl, rfl, h⟩ (.t [] false) ?_
     rintro m L τ ⟨p20, q20, x17, x16, rfl, rfl, rfl, hE20, hi20, h⟩
     rcases q20 with _ | ⟨y20, q20⟩
     · have hz20 := zN hE20 hi20
       simp only [value_deep.l20] at h
       refine rg tok [1, 5, 18, 19, 20, 25, 26, 27, 28] fun K hK => ?_
       simp only [go_sem, rL, rE, hz20]
       refine hK _ _ ?_
       refine ze fun Z21 hZ21 => ?_
       refine zq rfl ?_
       refine zz ?_
       refine hZ13 _ _ ?_
       refine rgE tok [1, 5, 18, 19, 20] fun K hK => ?_
       simp only [go_sem, rL, rE, hw10]
       refine hK _ _ ?_
       exact ⟨_, _, _, nS q10.length, ⟨p10 ++ [y10], q10, x7 + 1, x16, rfl, rfl, rfl, hE'10, hi'10, h⟩, .s⟩
     · obtain ⟨hz20, hw20, hx20, hE'20, hi'20⟩ := zK hE20 hi20 hb20
       simp only [value_deep.l20] at h
       refine rg tok [1, 5, 18, 19, 20, 25, 26, 27, 28] fun K hK => ?_
       simp only [go_sem, rL, rE, hz20]
       refine hK _ _ ?_
       refine ze fun Z22 hZ22 => ?_
       refine zt rfl ?_
       refine zi ?_
       refine hZ22 _ _ ?_
       refine ze fun Z23 hZ23 => ?_
       refine zk ?_
       have f24 := E59.idxS hx20
       have f25 := E59.loadS rfl rfl hx20
       refine rg tok [1, 5, 9, 18, 19, 20, 25, 26, 27] fun K hK => ?_
       simp only [go_sem, rL, rD, rE, rA, cellsGTree, zR, f24, f25]
       refine hK _ _ ?_
       refine rcE [1, 5, 18, 19, 20, 25, 26, 27] fun K hK => ?_
       obtain ⟨r26, hr26, h⟩ := bind_some h
       refine za tok 4 ?_
       simp only [go_sem, rL, rD, rE, rA]
       refine zh rfl rfl rfl (ev_value_deep y20 (IntKind.i64.wrap (a1 - 1)) r26 hr26 _) ?_
       rintro _ _ ⟨rfl, rfl⟩
       refine za tok 2 ?_
       simp only [go_sem, rL, rE, zh4, foldO, zC5]
       refine zb ?_
       simp only [zd, upd, rE, reduceIte, zl, zn]
       refine hK _ _ ?_
       refine hZ23 _ _ ?_
       refine rgE tok [1, 5, 18, 19, 20, 25, 26, 27] fun K hK => ?_
       simp only [go_sem, rL, rE, hw20]
       refine hK _ _ ?_
       exact ⟨_, _, _, nS q20.length, ⟨p20 ++ [y20], q20, x17 + 1, (if x16 < r26 then r26 else x16), rfl, rfl, rfl, hE'20, hi'20, h⟩, (.t [] false)⟩
def value_deep : Nat → GTree → Int → Option Int
 | 0, _, _ => none
 | k + 1, a0, a1 => value_deep.body (value_deep k) a0 a1
theorem value_deep.all (k : Nat) : (∀ (a0 : GTree) (a1 : Int) (r : Int), value_deep k a0 a1 = some r → ACalls Tryd.prog 99 [.agg (cellsGTree a0), .int .i64 a1] [] (fun r' _ => r' = .int .i64 r)) := by
 induction k with
 | zero => exact (fun a0 a1 r h => by simp only [value_deep] at h; cases h)
 | succ k ih => exact (fun a0 a1 r h => value_deep.step _ ih a0 a1 r (by simpa only [value_deep] using h))
theorem value_deep.ev (k : Nat) (a0 : GTree) (a1 : Int) (r : Int) (h : value_deep k a0 a1 = some r) (σ : Store) : ACalls Tryd.prog 99 [.agg (cellsGTree a0), .int .i64 a1] σ (fun r' σ' => r' = .int .i64 r ∧ σ' = σ) :=
 ((value_deep.all k) a0 a1 r h).c σ
def value_Depth (a0 : GTree) : Option Int :=
 (value_deep rounds a0 101).bind fun r1 => some r1
theorem value_Depth.ok (a0 : GTree) (r : Int) (h : value_Depth a0 = some r) : ACalls Tryd.prog 71 [.agg (cellsGTree a0)] [] (fun r' _ => r' = .int .i64 r) := by
 refine zm (rs := [.tmp 2]) tok Tryd.func71 rfl Tryd.ntmps71 rfl Tryd.call71 (by simp) ?_
 refine zo [(0, .agg (cellsGTree a0))] ⟨rfl, trivial⟩ ?_
 unfold value_Depth at h
 refine rg tok [1] fun K hK => ?_
 simp only [go_sem, rL, rE, rA, reduceCtorEq, cellsGTree]
 refine hK _ _ ?_
 refine rc [2] fun K hK => ?_
 obtain ⟨r1, hr1, h⟩ := bind_some h
 refine za tok 1 ?_
 simp only [go_sem, rL, rD, rA]
 refine zh rfl rfl rfl (value_deep.ev rounds a0 101 r1 hr1 _) ?_
 rintro _ _ ⟨rfl, rfl⟩
 refine za tok 1 ?_
 simp only [go_sem, rL, rE]
 refine zb ?_
 simp only [zd, upd, rE, reduceIte, zl, zn]
 refine hK _ _ ?_
 refine zj ?_
 obtain rfl := Option.some.inj h
 exact retA
theorem value_Depth.ev (a0 : GTree) (r : Int) (h : value_Depth a0 = some r) (σ : Store) : ACalls Tryd.prog 71 [.agg (cellsGTree a0)] σ (fun r' σ' => r' = .int .i64 r ∧ σ' = σ) :=
 (value_Depth.ok a0 r h).c σ
def wire_Check (a0 : GRaw) : Bool :=
 (if ((decide (a0.fTag < 1)) || (decide (500 < a0.fTag))) = true then false else (if a0.fWire = 0 then decide (a0.fB = []) else (if a0.fWire = 1 then ((decide (a0.fN = 0)) && (decide ((lN a0.fB : Int) ≤ 4096))) else false)))
theorem wire_Check.ok (a0 : GRaw) (r : Bool) (h : wire_Check a0 = r) : ACalls Tryd.prog 32 [.agg (encGRaw a0)] [] (fun r' _ => r' = .bool r) := by
 refine zm (rs := [.tmp 2]) tok Tryd.func32 rfl Tryd.ntmps32 rfl Tryd.call32 (by simp) ?_
 refine zo [(0, .agg (encGRaw a0))] ⟨rfl, trivial⟩ ?_
 unfold wire_Check at h
 refine rg tok [1] fun K hK => ?_
 simp only [go_sem, rL, rE, rA, reduceCtorEq, encGRaw]
 refine hK _ _ ?_
 refine ze fun Z1 hZ1 => ?_
 refine rc [1, 10] fun K hK => ?_
 refine za tok 4 ?_
 simp only [go_sem, rL, rE, rA]
 refine zp 4 (fun L τ => L = ([(1, .op 0 0 0), (10, .bool ((decide (a0.fTag < 1)) || (decide (500 < a0.fTag))))] : List (Nat × AV)) ∧ τ = ([.cells 0 [.int .i64 a0.fTag, .int .i64 a0.fWire, .int .i64 a0.fN, .str a0.fB]] : Store)) ?_ ?_
 · refine za1 6 rfl (fun hg6 => ?_) (fun hg6 => ?_)
   · have t2 := eq_true hg6
     refine za tok 4 ?_
     simp only [go_sem, rL, rE]
     refine zb ⟨rfl, _, _, ⟨rfl, rfl⟩, .p t2⟩
   · have t3 := eq_false hg6
     refine za tok 4 ?_
     simp only [go_sem, rL, rE, rA]
     refine zb ⟨rfl, _, _, ⟨rfl, rfl⟩, .p t3⟩
 rintro _ _ ⟨rfl, rfl⟩
 refine zb ?_
 simp only [zd, rE, reduceIte, zl, zn]
 refine hK _ _ ?_
 refine zx (b := ((decide (a0.fTag < 1)) || (decide (500 < a0.fTag)))) rfl (fun hc4 => ?_) (fun hc4 => ?_)
 · rw [if_pos hc4] at h
   refine rg tok [2] fun K hK => ?_
   simp only [go_sem, rL, rE]
   refine hK _ _ ?_
   refine zj ?_
   obtain rfl := h
   exact retA
 · rw [if_F hc4] at h
   refine zi ?_
   refine hZ1 _ _ ?_
   refine ze fun Z5 hZ5 => ?_
   refine rg tok [1, 12] fun K hK => ?_
   simp only [go_sem, rL, rE, rA]
   refine hK _ _ ?_
   refine zk ?_
   refine rg tok [1, 12, 13] fun K hK => ?_
   simp only [go_sem, rL, rE]
   refine hK _ _ ?_
   refine zA rfl (fun hc6 => ?_) (fun hc6 => ?_)
   · rw [if_pos hc6] at h
     have t7 := eq_true hc6
     refine rg tok [2] fun K hK => ?_
     simp only [go_sem, rL, rE, rA, t7]
     refine hK _ _ ?_
     refine zj ?_
     obtain rfl := h
     exact retA
   · rw [if_neg hc6] at h
     have t8 := eq_false hc6
     refine rg tok [1, 18] fun K hK => ?_
     simp only [go_sem, rL, rE, t8]
     refine hK _ _ ?_
     refine zA rfl (fun hc9 => ?_) (fun hc9 => ?_)
     · rw [if_pos hc9] at h
       have t10 := eq_true hc9
       refine rc [2] fun K hK => ?_
       refine za tok 4 ?_
       simp only [go_sem, rL, rE, rA, t10]
       refine zp 5 (fun L τ => L = ([(28, .bool ((decide (a0.fN = 0)) && (decide ((lN a0.fB : Int) ≤ 4096))))] : List (Nat × AV)) ∧ τ = ([.cells 0 [.int .i64 a0.fTag, .int .i64 a0.fWire, .int .i64 a0.fN, .str a0.fB]] : Store)) ?_ ?_
       · refine za1 23 rfl (fun hg23 => ?_) (fun hg23 => ?_)
         · have t11 := eq_true hg23
           refine za tok 5 ?_
           simp only [go_sem, rL, rE, rA]
           refine zb ⟨rfl, _, _, ⟨rfl, rfl⟩, .p t11⟩
         · have t12 := eq_false hg23
           refine za tok 5 ?_
           simp only [go_sem, rL, rE]
           refine zb ⟨rfl, _, _, ⟨rfl, rfl⟩, .p t12⟩
       rintro _ _ ⟨rfl, rfl⟩
       refine za tok 1 ?_
       simp only [go_sem, rL]
       refine zb ?_
       simp only [zd, upd, rE, reduceIte, zl, zn]
       refine hK _ _ ?_
       refine zj ?_
       obtain rfl := h
       exact retA
     · rw [if_neg hc9] at h
       have t13 := eq_false hc9
       refine zi ?_
       refine hZ5 _ _ ?_
       refine rg tok [2] fun K hK => ?_
       simp only [go_sem, rL, rE, t13]
       refine hK _ _ ?_
       refine zj ?_
       obtain rfl := h
       exact retA
theorem wire_Check.ev (a0 : GRaw) (r : Bool) (h : wire_Check a0 = r) (σ : Store) : ACalls Tryd.prog 32 [.agg (encGRaw a0)] σ (fun r' σ' => r' = .bool r ∧ σ' = σ) :=
 (wire_Check.ok a0 r h).c σ
def wire_Rising.l4 (a0 : List GRaw) : Nat → Int → Option Bool
 | 0, _ => none
 | k4 + 1, x2 => (if x2 < (lN a0 : Int) then (idxL a0 x2).bind fun y9 => (idxL a0 (IntKind.i64.wrap (x2 - 1))).bind fun y12 => (if y9.fTag < y12.fTag then some false else ((wire_Rising.l4 a0 k4) (IntKind.i64.wrap (x2 + 1)))) else some true)
def wire_Rising (a0 : List GRaw) : Option Bool :=
 (wire_Rising.l4 a0 rounds 1)
theorem wire_Rising.ok (a0 : List GRaw) (r : Bool) (h : wire_Rising a0 = some r) : ACalls Tryd.prog 121 [.ds true (fM encGRaw a0) (lN a0) false] [] (fun r' _ => r' = .bool r) := by
 refine zm (rs := [.tmp 2]) tok Tryd.func121 rfl Tryd.ntmps121 rfl Tryd.call121 (by simp) ?_
 refine zo [(0, .ds true (fM encGRaw a0) (lN a0) false)] ⟨rfl, trivial⟩ ?_
 unfold wire_Rising at h
 refine rg tok [0] fun K hK => ?_
 simp only [go_sem, rL, reduceCtorEq]
 refine hK _ _ ?_
 refine ze fun Z1 hZ1 => ?_
 refine rg tok [0, 3] fun K hK => ?_
 simp only [go_sem, rL, reduceCtorEq]
 refine hK _ _ ?_
 refine zk ?_
 refine zw (fun m L τ => ∃ (k4 : Nat) (x2 : Int), m = 0 + k4 ∧ L = ([(0, .ds true (fM encGRaw a0) (lN a0) false), (3, .int .i64 x2)] : List (Nat × AV)) ∧ τ = ([] : Store) ∧ wire_Rising.l4 a0 k4 x2 = some r) _ ⟨rounds, 1, rfl, rfl, rfl, h⟩ .s ?_
 rintro m L τ ⟨k4, x2, rfl, rfl, rfl, h⟩
 rcases k4 with _ | k4
 · cases h
 · simp only [wire_Rising.l4] at h
   refine ze fun Z5 hZ5 => ?_
   refine rg tok [0, 3, 7] fun K hK => ?_
   simp only [go_sem, rL, rE, reduceCtorEq]
   refine hK _ _ ?_
   refine zA rfl (fun hc6 => ?_) (fun hc6 => ?_)
   · rw [if_pos hc6] at h
     have t7 := eq_true hc6
     refine zi ?_
     refine hZ5 _ _ ?_
     refine ze fun Z8 hZ8 => ?_
     refine zk ?_
     obtain ⟨y9, hy9, h⟩ := bind_some h
     have f10 := E22.idxS hy9
     have f11 := E22.fldS0 (f := 3) rfl rfl hy9
     obtain ⟨y12, hy12, h⟩ := bind_some h
     have f13 := E22.idxS hy12
     have f14 := E22.fldS0 (f := 3) rfl rfl hy12
     refine rd [0, 3, 21] fun K hK => ?_
     refine DW.start (T := tab) [.any, .any, .any, .any, .at [], .any, .any, .any, .any, .any, .at [], .any] [] ?_
     refine DW.runN tok 8 ?_
     simp only [go_sem, rL, rE, reduceCtorEq, encGRaw, t7, f10, f11]
     refine DW.runN tok 4 ?_
     simp only [go_sem, rL, rE, reduceCtorEq, encGRaw, f13, f14]
     refine DW.fin tok (by decide +kernel) rfl ?_
     simp only [zd, upd, rE, reduceIte, zl, zn]
     refine hK _ _ ?_
     refine zA rfl (fun hc15 => ?_) (fun hc15 => ?_)
     · rw [if_pos hc15] at h
       have t16 := eq_true hc15
       refine rg tok [2] fun K hK => ?_
       simp only [go_sem, rL, rE, reduceCtorEq, t16]
       refine hK _ _ ?_
       refine zj ?_
       obtain rfl := Option.some.inj h
       exact retA
     · rw [if_neg hc15] at h
       have t17 := eq_false hc15
       refine zi ?_
       refine hZ8 _ _ ?_
       refine rgE tok [0, 3] fun K hK => ?_
       simp only [go_sem, rL, rE, reduceCtorEq, t17]
       refine hK _ _ ?_
       exact ⟨_, _, _, nS (0 + k4), ⟨k4, IntKind.i64.wrap (x2 + 1), rfl, rfl, rfl, h⟩, .s⟩
   · rw [if_neg hc6] at h
     have t18 := eq_false hc6
     refine zz ?_
     refine hZ1 _ _ ?_
     refine rg tok [2] fun K hK => ?_
     simp only [go_sem, rL, rE, reduceCtorEq, t18]
     refine hK _ _ ?_
     refine zj ?_
     obtain rfl := Option.some.inj h
     exact retA
theorem wire_Rising.ev (a0 : List GRaw) (r : Bool) (h : wire_Rising a0 = some r) (σ : Store) : ACalls Tryd.prog 121 [.ds true (fM encGRaw a0) (lN a0) false] σ (fun r' σ' => r' = .bool r ∧ σ' = σ) :=
 (wire_Rising.ok a0 r h).c σ
def value_rest.l16 (x2 : Int) (rec4 : Int → Option Bool) (y4 : GRaw) : List GEntry → Int → Option Bool
 | [], x14 => (rec4 (x2 + 1))
 | y16 :: q16, x14 => (if y16.fTag = y4.fTag then some false else ((value_rest.l16 x2 rec4 y4 q16) (x14 + 1)))
def value_rest.l4 (a0 : GTree) : List GRaw → Int → Option Bool
 | [], x2 => (wire_Rising a0.fRest).bind fun r6 => some r6
 | y4 :: q4, x2 => bnd (wire_Check y4) fun r12 => (if (!r12) = true then some false else (value_rest.l16 x2 (value_rest.l4 a0 q4) y4 a0.fEntries 0))
def value_rest (a0 : GTree) : Option Bool :=
 (value_rest.l4 a0 a0.fRest 0)
theorem value_rest.ok (a0 : GTree) (r : Bool) (h : value_rest a0 = some r) : ACalls Tryd.prog 101 [.agg (cellsGTree a0)] [] (fun r' _ => r' = .bool r) := by
 refine zm (rs := [.tmp 2]) tok Tryd.func101 rfl Tryd.ntmps101 rfl Tryd.call101 (by simp) ?_
 refine zo [(0, .agg (cellsGTree a0))] ⟨rfl, trivial⟩ ?_
 unfold value_rest at h
 refine rg tok [1] fun K hK => ?_
 simp only [go_sem, rL, rE, rA, reduceCtorEq, cellsGTree]
 refine hK _ _ ?_
 refine ze fun Z1 hZ1 => ?_
 refine rg tok [1, 8, 9, 10] fun K hK => ?_
 simp only [go_sem, rL, rE, rA]
 refine hK _ _ ?_
 refine zk ?_
 refine zO 8 fun hb4 => ?_
 replace hb4 : lN a0.fRest ≤ 9223372036854775807 := hb4.1
 refine zw (fun m L τ => ∃ (p4 q4 : List GRaw) (x2 : Int), m = lN q4 ∧ L = ([(1, .op 0 0 0), (8, .ds true (fM encGRaw a0.fRest) (lN a0.fRest) false), (9, .int .i64 (lN a0.fRest : Int)), (10, .int .i64 x2)] : List (Nat × AV)) ∧ τ = ([.cells 0 [.int .i64 a0.fKind, .int .i64 a0.fN, .str a0.fS, .ds true (fM encGEntry a0.fEntries) (lN a0.fEntries) false, .ds true (fM encGRaw a0.fRest) (lN a0.fRest) false]] : Store) ∧ a0.fRest = p4 ++ q4 ∧ x2 = (lN p4 : Int) ∧ value_rest.l4 a0 q4 x2 = some r) _ ⟨[], a0.fRest, 0, rfl, rfl, rfl, rfl, rfl, h⟩ .s ?_
 rintro m L τ ⟨p4, q4, x2, rfl, rfl, rfl, hE4, hi4, h⟩
 rcases q4 with _ | ⟨y4, q4⟩
 · have hz4 := zN hE4 hi4
   simp only [value_rest.l4] at h
   refine rg tok [1, 8, 9, 10, 11] fun K hK => ?_
   simp only [go_sem, rL, rE, hz4]
   refine hK _ _ ?_
   refine ze fun Z5 hZ5 => ?_
   refine zq rfl ?_
   refine zz ?_
   refine hZ1 _ _ ?_
   refine rc [2] fun K hK => ?_
   obtain ⟨r6, hr6, h⟩ := bind_some h
   refine za tok 2 ?_
   simp only [go_sem, rL, rE, rA]
   refine zh rfl rfl rfl (wire_Rising.ev a0.fRest r6 hr6 _) ?_
   rintro _ _ ⟨rfl, rfl⟩
   refine za tok 1 ?_
   simp only [go_sem, rL, rE]
   refine zb ?_
   simp only [zd, upd, rE, reduceIte, zl, zn]
   refine hK _ _ ?_
   refine zj ?_
   obtain rfl := Option.some.inj h
   exact retA
 · obtain ⟨hz4, hw4, hx4, hE'4, hi'4⟩ := zK hE4 hi4 hb4
   simp only [value_rest.l4] at h
   refine rg tok [1, 8, 9, 10, 11] fun K hK => ?_
   simp only [go_sem, rL, rE, hz4]
   refine hK _ _ ?_
   refine ze fun Z7 hZ7 => ?_
   refine zt rfl ?_
   refine zi ?_
   refine hZ7 _ _ ?_
   refine ze fun Z8 hZ8 => ?_
   refine zk ?_
   have f9 := E22.idxS hx4
   have f10 := E22.loadS rfl rfl hx4
   refine rg tok [1, 4, 8, 9, 10] fun K hK => ?_
   simp only [go_sem, rL, rD, rE, rA, encGRaw, f9, f10]
   refine hK _ _ ?_
   refine ze fun Z11 hZ11 => ?_
   refine rc [1, 4, 8, 9, 10, 16] fun K hK => ?_
   obtain ⟨r12, hr12, h⟩ := zJ h
   refine za tok 1 ?_
   simp only [go_sem, rL, rD, rE, rA]
   refine zh rfl rfl rfl (wire_Check.ev y4 r12 hr12 _) ?_
   rintro _ _ ⟨rfl, rfl⟩
   refine za tok 1 ?_
   simp only [go_sem, rL, rE]
   refine zb ?_
   simp only [zd, upd, rE, reduceIte, zl, zn]
   refine hK _ _ ?_
   refine zx (b := (!r12)) rfl (fun hc13 => ?_) (fun hc13 => ?_)
   · rw [if_pos hc13] at h
     refine rg tok [2] fun K hK => ?_
     simp only [go_sem, rL, rE]
     refine hK _ _ ?_
     refine zj ?_
     obtain rfl := Option.some.inj h
     exact retA
   · rw [if_F hc13] at h
     refine zi ?_
     refine hZ11 _ _ ?_
     refine rg tok [1, 4, 8, 9, 10, 18, 19, 20] fun K hK => ?_
     simp only [go_sem, rL, rE, rA]
     refine hK _ _ ?_
     refine zk ?_
     refine zO 18 fun hb16 => ?_
     replace hb16 : lN a0.fEntries ≤ 9223372036854775807 := hb16.1
     refine zw (fun m L τ => ∃ (p16 q16 : List GEntry) (x14 : Int), m = lN q16 ∧ L = ([(1, .op 0 0 0), (4, .op 1 0 0), (8, .ds true (fM encGRaw a0.fRest) (lN a0.fRest) false), (9, .int .i64 (lN a0.fRest : Int)), (10, .int .i64 x2), (18, .ds true (fM encGEntry a0.fEntries) (lN a0.fEntries) false), (19, .int .i64 (lN a0.fEntries : Int)), (20, .int .i64 x14)] : List (Nat × AV)) ∧ τ = ([.cells 0 [.int .i64 a0.fKind, .int .i64 a0.fN, .str a0.fS, .ds true (fM encGEntry a0.fEntries) (lN a0.fEntries) false, .ds true (fM encGRaw a0.fRest) (lN a0.fRest) false], .cells 0 [.int .i64 y4.fTag, .int .i64 y4.fWire, .int .i64 y4.fN, .str y4.fB]] : Store) ∧ a0.fEntries = p16 ++ q16 ∧ x14 = (lN p16 : Int) ∧ value_rest.l16 x2 (value_rest.l4 a0 q4) y4 q16 x14 = some r) _ ⟨[], a0.fEntries, 0, rfl, rfl, rfl, rfl, rfl, h⟩ .s ?_
     rintro m L τ ⟨p16, q16, x14, rfl, rfl, rfl, hE16, hi16, h⟩
     rcases q16 with _ | ⟨y16, q16⟩
     · have hz16 := zN hE16 hi16
       simp only [value_rest.l16] at h
       refine rg tok [1, 4, 8, 9, 10, 18, 19, 20, 21] fun K hK => ?_
       simp only [go_sem, rL, rE, hz16]
       refine hK _ _ ?_
       refine ze fun Z17 hZ17 => ?_
       refine zq rfl ?_
       refine zz ?_
       refine hZ8 _ _ ?_
       refine rgE tok [1, 8, 9, 10] fun K hK => ?_
       simp only [go_sem, rL, rE, hw4]
       refine hK _ _ ?_
       exact ⟨_, _, _, nS q4.length, ⟨p4 ++ [y4], q4, x2 + 1, rfl, rfl, rfl, hE'4, hi'4, h⟩, (.t [0] false)⟩
     · obtain ⟨hz16, hw16, hx16, hE'16, hi'16⟩ := zK hE16 hi16 hb16
       simp only [value_rest.l16] at h
       refine rg tok [1, 4, 8, 9, 10, 18, 19, 20, 21] fun K hK => ?_
       simp only [go_sem, rL, rE, hz16]
       refine hK _ _ ?_
       refine ze fun Z18 hZ18 => ?_
       refine zt rfl ?_
       refine zi ?_
       refine hZ18 _ _ ?_
       refine ze fun Z19 hZ19 => ?_
       refine zk ?_
       have f20 := E40.idxS hx16
       have f21 := E40.loadS rfl rfl hx16
       refine rg tok [1, 4, 6, 8, 9, 10, 18, 19, 20] fun K hK => ?_
       simp only [go_sem, rL, rD, rE, rA, cellsGEntry, zB, f20, f21]
       refine hK _ _ ?_
       refine rg tok [1, 4, 8, 9, 10, 18, 19, 20, 28] fun K hK => ?_
       simp only [go_sem, rL, rE, rA]
       refine hK _ _ ?_
       refine zA rfl (fun hc22 => ?_) (fun hc22 => ?_)
       · rw [if_pos hc22] at h
         have t23 := eq_true hc22
         refine rg tok [2] fun K hK => ?_
         simp only [go_sem, rL, rE, t23]
         refine hK _ _ ?_
         refine zj ?_
         obtain rfl := Option.some.inj h
         exact retA
       · rw [if_neg hc22] at h
         have t24 := eq_false hc22
         refine zi ?_
         refine hZ19 _ _ ?_
         refine rgE tok [1, 4, 8, 9, 10, 18, 19, 20] fun K hK => ?_
         simp only [go_sem, rL, rE, hw16, t24]
         refine hK _ _ ?_
         exact ⟨_, _, _, nS q16.length, ⟨p16 ++ [y16], q16, x14 + 1, rfl, rfl, rfl, hE'16, hi'16, h⟩, (.t [0, 1] false)⟩
theorem value_rest.ev (a0 : GTree) (r : Bool) (h : value_rest a0 = some r) (σ : Store) : ACalls Tryd.prog 101 [.agg (cellsGTree a0)] σ (fun r' σ' => r' = .bool r ∧ σ' = σ) :=
 (value_rest.ok a0 r h).c σ
def value_entries.j25 (x16 : Int) (rec18 : Int → Option Bool) (x24 : Bool) : Option Bool :=
 (if x24 = true then some false else (rec18 (x16 + 1)))
def value_entries.l18 (self_value_right : GTree → Option Bool) (x3 : Int) (rec6 : Int → Int → Option Bool) (y6 : GEntry) : List GTree → Int → Option Bool
 | [], x16 => (rec6 (x3 + 1) y6.fTag)
 | y18 :: q18, x16 => (idxL y6.fTrees 0).bind fun y27 => (if y18.fKind = y27.fKind then (self_value_right y18).bind fun r32 => (value_entries.j25 x16 (value_entries.l18 self_value_right x3 rec6 y6 q18) (!r32)) else (value_entries.j25 x16 (value_entries.l18 self_value_right x3 rec6 y6 q18) true))
def value_entries.l6 (self_value_right : GTree → Option Bool) : List GEntry → Int → Int → Option Bool
 | [], x3, x2 => some true
 | y6 :: q6, x3, x2 => (if ((((decide (y6.fTag ≤ x2)) || (decide (500 < y6.fTag))) || (decide ((lN y6.fTrees : Int) < 1))) || (decide (64 < (lN y6.fTrees : Int)))) = true then some false else (value_entries.l18 self_value_right x3 (value_entries.l6 self_value_right q6) y6 y6.fTrees 0))
def value_entries.body (self_value_entries : GTree → Option Bool) (self_value_right : GTree → Option Bool) (a0 : GTree) : Option Bool :=
 (value_entries.l6 self_value_right a0.fEntries 0 0)
theorem value_entries.step (self_value_entries : GTree → Option Bool) (self_value_right : GTree → Option Bool) (ih_value_entries : ∀ (a0 : GTree) (r : Bool), self_value_entries a0 = some r → ACalls Tryd.prog 100 [.agg (cellsGTree a0)] [] (fun r' _ => r' = .bool r)) (ih_value_right : ∀ (a0 : GTree) (r : Bool), self_value_right a0 = some r → ACalls Tryd.prog 72 [.agg (cellsGTree a0)] [] (fun r' _ => r' = .bool r)) (a0 : GTree) (r : Bool) (h : value_entries.body self_value_entries self_value_right a0 = some r) : ACalls Tryd.prog 100 [.agg (cellsGTree a0)] [] (fun r' _ => r' = .bool r) := by
 have ev_value_entries := fun a0 r h σ => (ih_value_entries a0 r h).c σ
 have ev_value_right := fun a0 r h σ => (ih_value_right a0 r h).c σ
 refine zm (rs := [.tmp 2]) tok Tryd.func100 rfl Tryd.ntmps100 rfl Tryd.call100 (by simp) ?_
 refine zo [(0, .agg (cellsGTree a0))] ⟨rfl, trivial⟩ ?_
 unfold value_entries.body at h
 refine rg tok [1] fun K hK => ?_
 simp only [go_sem, rL, rE, rA, reduceCtorEq, cellsGTree]
 refine hK _ _ ?_
 refine rg tok [1, 3] fun K hK => ?_
 simp only [go_sem, rL, rE]
 refine hK _ _ ?_
 refine ze fun Z1 hZ1 => ?_
 refine rg tok [3, 9, 10, 11] fun K hK => ?_
 simp only [go_sem, rL, rE, rA]
 refine hK _ _ ?_
 refine zk ?_
 refine zO 9 fun hb6 => ?_
 replace hb6 : lN a0.fEntries ≤ 9223372036854775807 := hb6.1
 refine zw (fun m L τ => ∃ (p6 q6 : List GEntry) (x3 : Int) (x2 : Int), m = lN q6 ∧ L = ([(3, .int .i64 x2), (9, .ds true (fM encGEntry a0.fEntries) (lN a0.fEntries) false), (10, .int .i64 (lN a0.fEntries : Int)), (11, .int .i64 x3)] : List (Nat × AV)) ∧ τ = ([] : Store) ∧ a0.fEntries = p6 ++ q6 ∧ x3 = (lN p6 : Int) ∧ value_entries.l6 self_value_right q6 x3 x2 = some r) _ ⟨[], a0.fEntries, 0, 0, rfl, rfl, rfl, rfl, rfl, h⟩ (.t [] false) ?_
 rintro m L τ ⟨p6, q6, x3, x2, rfl, rfl, rfl, hE6, hi6, h⟩
 rcases q6 with _ | ⟨y6, q6⟩
 · have hz6 := zN hE6 hi6
   simp only [value_entries.l6] at h
   refine rg tok [3, 9, 10, 11, 12] fun K hK => ?_
   simp only [go_sem, rL, rE, hz6]
   refine hK _ _ ?_
   refine ze fun Z7 hZ7 => ?_
   refine zq rfl ?_
   refine zz ?_
   refine hZ1 _ _ ?_
   refine rg tok [2] fun K hK => ?_
   simp only [go_sem, rL, rE]
   refine hK _ _ ?_
   refine zj ?_
   obtain rfl := Option.some.inj h
   exact retA
 · obtain ⟨hz6, hw6, hx6, hE'6, hi'6⟩ := zK hE6 hi6 hb6
   simp only [value_entries.l6] at h
   refine rg tok [3, 9, 10, 11, 12] fun K hK => ?_
   simp only [go_sem, rL, rE, hz6]
   refine hK _ _ ?_
   refine ze fun Z8 hZ8 => ?_
   refine zt rfl ?_
   refine zi ?_
   refine hZ8 _ _ ?_
   refine ze fun Z9 hZ9 => ?_
   refine zk ?_
   have f10 := E40.idxS hx6
   have f11 := E40.loadS rfl rfl hx6
   refine rg tok [3, 5, 9, 10, 11] fun K hK => ?_
   simp only [go_sem, rL, rD, rE, rA, cellsGEntry, zB, f10, f11]
   refine hK _ _ ?_
   refine ze fun Z12 hZ12 => ?_
   refine rc [5, 9, 10, 11, 35] fun K hK => ?_
   refine za tok 5 ?_
   simp only [go_sem, rL, rE, rA]
   refine zp 4 (fun L τ => L = ([(5, .op 0 0 0), (9, .ds true (fM encGEntry a0.fEntries) (lN a0.fEntries) false), (10, .int .i64 (lN a0.fEntries : Int)), (11, .int .i64 x3), (23, .bool ((decide (y6.fTag ≤ x2)) || (decide (500 < y6.fTag))))] : List (Nat × AV)) ∧ τ = ([.cells 0 [.int .i64 y6.fTag, .ds true (fM encGTree y6.fTrees) (lN y6.fTrees) false]] : Store)) ?_ ?_
   · refine za1 19 rfl (fun hg19 => ?_) (fun hg19 => ?_)
     · have t13 := eq_true hg19
       refine za tok 4 ?_
       simp only [go_sem, rL, rE]
       refine zb ⟨rfl, _, _, ⟨rfl, rfl⟩, .p t13⟩
     · have t14 := eq_false hg19
       refine za tok 4 ?_
       simp only [go_sem, rL, rE, rA]
       refine zb ⟨rfl, _, _, ⟨rfl, rfl⟩, .p t14⟩
   rintro _ _ ⟨rfl, rfl⟩
   refine za tok 1 ?_
   simp only [go_sem, rL, rE]
   refine zp 5 (fun L τ => L = ([(5, .op 0 0 0), (9, .ds true (fM encGEntry a0.fEntries) (lN a0.fEntries) false), (10, .int .i64 (lN a0.fEntries : Int)), (11, .int .i64 x3), (29, .bool (((decide (y6.fTag ≤ x2)) || (decide (500 < y6.fTag))) || (decide ((lN y6.fTrees : Int) < 1))))] : List (Nat × AV)) ∧ τ = ([.cells 0 [.int .i64 y6.fTag, .ds true (fM encGTree y6.fTrees) (lN y6.fTrees) false]] : Store)) ?_ ?_
   · refine zI (b := ((decide (y6.fTag ≤ x2)) || (decide (500 < y6.fTag)))) 24 rfl (fun hg24 => ?_) (fun hg24 => ?_)
     · refine za tok 5 ?_
       simp only [go_sem, rL, rE]
       refine zb ⟨rfl, _, _, ⟨rfl, rfl⟩, .b hg24⟩
     · refine za tok 5 ?_
       simp only [go_sem, rL, rE, rA]
       refine zb ⟨rfl, _, _, ⟨rfl, rfl⟩, .b hg24⟩
   rintro _ _ ⟨rfl, rfl⟩
   refine za tok 1 ?_
   simp only [go_sem, rL, rE]
   refine zp 5 (fun L τ => L = ([(5, .op 0 0 0), (9, .ds true (fM encGEntry a0.fEntries) (lN a0.fEntries) false), (10, .int .i64 (lN a0.fEntries : Int)), (11, .int .i64 x3), (35, .bool ((((decide (y6.fTag ≤ x2)) || (decide (500 < y6.fTag))) || (decide ((lN y6.fTrees : Int) < 1))) || (decide (64 < (lN y6.fTrees : Int)))))] : List (Nat × AV)) ∧ τ = ([.cells 0 [.int .i64 y6.fTag, .ds true (fM encGTree y6.fTrees) (lN y6.fTrees) false]] : Store)) ?_ ?_
   · refine zI (b := (((decide (y6.fTag ≤ x2)) || (decide (500 < y6.fTag))) || (decide ((lN y6.fTrees : Int) < 1)))) 30 rfl (fun hg30 => ?_) (fun hg30 => ?_)
     · refine za tok 5 ?_
       simp only [go_sem, rL, rE]
       refine zb ⟨rfl, _, _, ⟨rfl, rfl⟩, .b hg30⟩
     · refine za tok 5 ?_
       simp only [go_sem, rL, rE, rA]
       refine zb ⟨rfl, _, _, ⟨rfl, rfl⟩, .b hg30⟩
   rintro _ _ ⟨rfl, rfl⟩
   refine zb ?_
   simp only [zd, rE, reduceIte, zl, zn]
   refine hK _ _ ?_
   refine zx (b := ((((decide (y6.fTag ≤ x2)) || (decide (500 < y6.fTag))) || (decide ((lN y6.fTrees : Int) < 1))) || (decide (64 < (lN y6.fTrees : Int))))) rfl (fun hc15 => ?_) (fun hc15 => ?_)
   · rw [if_pos hc15] at h
     refine rg tok [2] fun K hK => ?_
     simp only [go_sem, rL, rE]
     refine hK _ _ ?_
     refine zj ?_
     obtain rfl := Option.some.inj h
     exact retA
   · rw [if_F hc15] at h
     refine zi ?_
     refine hZ12 _ _ ?_
     refine rg tok [3, 5, 9, 10, 11] fun K hK => ?_
     simp only [go_sem, rL, rE, rA]
     refine hK _ _ ?_
     refine rg tok [3, 5, 9, 10, 11, 39, 40, 41] fun K hK => ?_
     simp only [go_sem, rL, rE, rA]
     refine hK _ _ ?_
     refine zk ?_
     refine zO 39 fun hb18 => ?_
     replace hb18 : lN y6.fTrees ≤ 9223372036854775807 := hb18.1
     refine zw (fun m L τ => ∃ (p18 q18 : List GTree) (x16 : Int), m = lN q18 ∧ L = ([(3, .int .i64 y6.fTag), (5, .op 0 0 0), (9, .ds true (fM encGEntry a0.fEntries) (lN a0.fEntries) false), (10, .int .i64 (lN a0.fEntries : Int)), (11, .int .i64 x3), (39, .ds true (fM encGTree y6.fTrees) (lN y6.fTrees) false), (40, .int .i64 (lN y6.fTrees : Int)), (41, .int .i64 x16)] : List (Nat × AV)) ∧ τ = ([.cells 0 [.int .i64 y6.fTag, .ds true (fM encGTree y6.fTrees) (lN y6.fTrees) false]] : Store) ∧ y6.fTrees = p18 ++ q18 ∧ x16 = (lN p18 : Int) ∧ value_entries.l18 self_value_right x3 (value_entries.l6 self_value_right q6) y6 q18 x16 = some r) _ ⟨[], y6.fTrees, 0, rfl, rfl, rfl, rfl, rfl, h⟩ .s ?_
     rintro m L τ ⟨p18, q18, x16, rfl, rfl, rfl, hE18, hi18, h⟩
     rcases q18 with _ | ⟨y18, q18⟩
     · have hz18 := zN hE18 hi18
       simp only [value_entries.l18] at h
       refine rg tok [3, 5, 9, 10, 11, 39, 40, 41, 42] fun K hK => ?_
       simp only [go_sem, rL, rE, hz18]
       refine hK _ _ ?_
       refine ze fun Z19 hZ19 => ?_
       refine zq rfl ?_
       refine zz ?_
       refine hZ9 _ _ ?_
       refine rgE tok [3, 9, 10, 11] fun K hK => ?_
       simp only [go_sem, rL, rE, hw6]
       refine hK _ _ ?_
       exact ⟨_, _, _, nS q6.length, ⟨p6 ++ [y6], q6, x3 + 1, y6.fTag, rfl, rfl, rfl, hE'6, hi'6, h⟩, (.t [] false)⟩
     · obtain ⟨hz18, hw18, hx18, hE'18, hi'18⟩ := zK hE18 hi18 hb18
       simp only [value_entries.l18] at h
       refine rg tok [3, 5, 9, 10, 11, 39, 40, 41, 42] fun K hK => ?_
       simp only [go_sem, rL, rE, hz18]
       refine hK _ _ ?_
       refine ze fun Z20 hZ20 => ?_
       refine zt rfl ?_
       refine zi ?_
       refine hZ20 _ _ ?_
       refine ze fun Z21 hZ21 => ?_
       refine zk ?_
       have f22 := E59.idxS hx18
       have f23 := E59.loadS rfl rfl hx18
       refine rg tok [3, 5, 7, 9, 10, 11, 39, 40, 41] fun K hK => ?_
       simp only [go_sem, rL, rD, rE, rA, cellsGTree, zR, f22, f23]
       refine hK _ _ ?_
       refine zk1 (fun L τ => ∃ (x24 : Bool), L = ([(3, .int .i64 y6.fTag), (5, .op 0 0 0), (9, .ds true (fM encGEntry a0.fEntries) (lN a0.fEntries) false), (10, .int .i64 (lN a0.fEntries : Int)), (11, .int .i64 x3), (39, .ds true (fM encGTree y6.fTrees) (lN y6.fTrees) false), (40, .int .i64 (lN y6.fTrees : Int)), (41, .int .i64 x16), (57, .bool x24)] : List (Nat × AV)) ∧ τ = ([.cells 0 [.int .i64 y6.fTag, .ds true (fM encGTree y6.fTrees) (lN y6.fTrees) false]] : Store) ∧ value_entries.j25 x16 (value_entries.l18 self_value_right x3 (value_entries.l6 self_value_right q6) y6 q18) x24 = some r) ?_ ?_
       · refine rdE [3, 5, 9, 10, 11, 39, 40, 41, 57] fun K hK => ?_
         refine DW.start (T := tab) [.any, .at [], .any, .at [], .any, .any, .at [], .any, .any, .at [], .eff, .any, .any] [] ?_
         obtain ⟨y27, hy27, h⟩ := bind_some h
         have f28 := E59.idxS hy27
         have f29 := E59.fldS0 (f := 3) rfl rfl hy27
         refine DW.runN tok 8 ?_
         simp only [go_sem, rL, rE, rA, cellsGTree, zR, f28, f29]
         refine DW.runN tok 1 ?_
         simp only [go_sem, rL, rE]
         refine DW.if 53 rfl (fun hg53 => ?_) (fun hg53 => ?_)
         · rw [if_neg hg53] at h
           have t30 := eq_false hg53
           refine DW.runN tok 4 ?_
           simp only [go_sem, rL, rE, t30]
           refine DW.fin tok (by decide +kernel) rfl ?_
           simp only [zd, upd, rE, reduceIte, zl, zn]
           refine hK _ _ ?_
           exact ⟨_, _, ⟨true, rfl, rfl, h⟩, (.t [0] false)⟩
         · rw [if_pos hg53] at h
           have t31 := eq_true hg53
           obtain ⟨r32, hr32, h⟩ := bind_some h
           refine DW.runN tok 1 ?_
           simp only [go_sem, rL, rD, rE, rA, t31]
           refine DW.call rfl rfl rfl (ev_value_right y18 r32 hr32 _) ?_
           refine DW.runN tok 2 ?_
           simp only [go_sem, rL, rE]
           refine DW.fin tok (by decide +kernel) rfl ?_
           simp only [zd, upd, rE, reduceIte, zl, zn]
           refine hK _ _ ?_
           exact ⟨_, _, ⟨!r32, rfl, rfl, h⟩, (.t [0] false)⟩
       rintro _ _ ⟨x24, rfl, rfl, h⟩
       unfold value_entries.j25 at h
       refine zx (b := x24) rfl (fun hc26 => ?_) (fun hc26 => ?_)
       · rw [if_pos hc26] at h
         refine rg tok [2] fun K hK => ?_
         simp only [go_sem, rL, rE]
         refine hK _ _ ?_
         refine zj ?_
         obtain rfl := Option.some.inj h
         exact retA
       · rw [if_F hc26] at h
         refine zi ?_
         refine hZ21 _ _ ?_
         refine rgE tok [3, 5, 9, 10, 11, 39, 40, 41] fun K hK => ?_
         simp only [go_sem, rL, rE, hw18]
         refine hK _ _ ?_
         exact ⟨_, _, _, nS q18.length, ⟨p18 ++ [y18], q18, x16 + 1, rfl, rfl, rfl, hE'18, hi'18, h⟩, .s⟩
end Go.Proofs.YtaddlmlpeghonaaDoor
end
