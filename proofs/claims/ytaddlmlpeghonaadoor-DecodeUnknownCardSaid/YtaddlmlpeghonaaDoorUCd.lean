import Derived.Test.YtaddlmlpeghonaaDoorUCc
set_option maxRecDepth 8000
set_option maxHeartbeats 1000000
set_option linter.unusedSimpArgs false
set_option linter.unusedVariables false
namespace Go.Proofs.YtaddlmlpeghonaaDoor
open Nat renaming reduceLT → rL, reduceLeDiff → rD, reduceEqDiff → rE, reduceAdd → rA, reduceMul → rM, reduceSub → rS
open Go.RowKit AM
def decode_del (m : GMessage) : List GEntry → Option (List GEntry)
 | [] => some []
 | e :: l => (decode_message_1 e m).bind fun b => (decode_del m l).bind fun l' => some (if b = true then l' else e :: l')
theorem idx_del (m : GMessage) : ∀ (es : List GEntry) (x : Int) (es' : List GEntry), decode_del m es = some es' →
 ∃ r, slices_IndexFunc_Entry_decode_message_1.l4 m es x = some r ∧ ((r = -1 ∧ es' = es) ∨ ∃ pre e post post', es = pre ++ e :: post ∧ r = x + pre.length ∧ decode_del m post = some post' ∧ es' = pre ++ post') := by
 intro es
 induction es with
 | nil => intro x es' h; cases h; exact ⟨-1, rfl, .inl ⟨rfl, rfl⟩⟩
 | cons e l ih =>
  intro x es' h
  simp only [decode_del] at h
  obtain ⟨b, hb, h⟩ := bind_some h
  obtain ⟨l', hl, h⟩ := bind_some h
  obtain rfl := Option.some.inj h
  simp only [slices_IndexFunc_Entry_decode_message_1.l4, hb, Option.bind_some]
  cases b with
  | true => exact ⟨x, rfl, .inr ⟨[], e, l, l', rfl, by simp, hl, rfl⟩⟩
  | false =>
   obtain ⟨r, h1, h2⟩ := ih (x + 1) l' hl
   refine ⟨r, h1, ?_⟩
   rcases h2 with ⟨rfl, rfl⟩ | ⟨pre, e2, post, post', rfl, rfl, h3, rfl⟩
   · exact .inl ⟨rfl, rfl⟩
   · exact .inr ⟨e :: pre, e2, post, post', rfl, by simp; omega, h3, rfl⟩
theorem tell_fn {σ : Store} {keep : List Nat} {ls : Bool} {f : Nat} {g : Fn} {a b : List AV} : tell σ keep ls (f + 1) (.fn g a b) = .fn g (a.map (tell σ keep ls f)) (b.map (tell σ keep ls f)) := rfl
theorem tell_msg {σ : Store} {keep : List Nat} {f : Nat} {g : Fn} {m : GMessage} : tell σ keep true (f + 1 + 1 + 1) (.fn g [] [.dp (encGMessage m) 0]) = .fn g [] [.dp (encGMessage m) 0] := by
 simp only [tell_fn, List.map_nil, List.map_cons, tell_dp, encGMessage, tell_str, tell_ds, zv, Bool.or_true, Bool.not_true, Bool.and_false]
theorem zeroRun_one (n : Nat) : (zeroRun [AV.int .i64 0, .ds true [] 0 true] n).all AV.one = true := by
 rw [List.all_eq_true]
 intro x hx
 obtain ⟨k, _, rfl⟩ := List.mem_map.1 hx
 have : k % 2 = 0 ∨ k % 2 = 1 := by omega
 rcases this with h | h <;> simp [h, AV.one, gc]
theorem DeleteFunc_at {σ : Store} {id ver : Nat} {nl : Bool} {es es' : List GEntry} (m : GMessage) (hcs : Store.at σ id ver = some (es.flatMap encGEntry)) (h : decode_del m es = some es') (hB : es.length ≤ 1000000000000000) :
 ACalls Tryd.prog 59 [.os nl 2 id ver 0 es.length false, .fn (.func 60) [] [.dp (encGMessage m) 0]] σ (fun r σ' => ∃ cs g, r = .os nl 2 id ver 0 es'.length false ∧ σ' = List.set σ id (.cells ver (es'.flatMap encGEntry ++ cs)) ++ g) := by
 obtain ⟨r, hr, hcase⟩ := idx_del m es 0 es' h
 refine acalls_body (rs := [.tmp 4]) tok Tryd.func59 rfl Tryd.ntmps59 rfl Tryd.call59 (by simp) ?_
 refine zm [(0, .os nl 2 id ver 0 es.length false), (1, .fn (.func 60) [] [.dp (encGMessage m) 0])] ⟨rfl, rfl, trivial⟩ ?_
 refine rg tok [0, 1] fun K hK => ?_
 simp only [go_sem, rL, rE, reduceCtorEq]
 refine hK _ _ ?_
 clear hK K
 have htold : tell σ [] true 12 (.os nl 2 id ver 0 es.length false) = .ds true (es.flatMap encGEntry) es.length false := by
  have hl : (es.flatMap encGEntry).length = es.length * 2 := zo E40.len es
  simp only [tell_os, idxOf_nil, hcs]
  rw [if_pos (by rw [hl]; omega), List.drop_zero, ← hl, List.take_length, zv]
 refine rc [0, 1, 5] fun K hK => ?_
 refine za tok 2 ?_
 simp only [go_sem, rL, rE, reduceCtorEq]
 refine zf rfl rfl rfl ((slices_IndexFunc_Entry_decode_message_1.ok es m r hr).lend rfl true 12 (by simp only [List.map_cons, List.map_nil, go_sem, rE, reduceCtorEq, htold, tell_msg])) ?_
 rintro _ _ ⟨rfl, hσ⟩
 rw [hσ]; clear hσ
 refine za tok 1 ?_
 simp only [go_sem, rL, rE, reduceCtorEq]
 refine zb ?_
 simp only [zd, upd, rE, reduceIte, zk, fs_nil]
 refine hK _ _ ?_
 clear hK K
 refine ze fun Z hZ => ?_
 refine rg tok [0, 1, 5, 12] fun K hK => ?_
 simp only [go_sem, rL, rE, reduceCtorEq]
 refine hK _ _ ?_
 clear hK K
 refine awp_if rfl (fun hc => ?_) (fun hc => ?_)
 · have he : es' = es := by
    rcases hcase with ⟨_, h⟩ | ⟨pre, e, post, post', _, h2, _⟩
    · exact h
    · omega
   subst he
   refine rg tok [4] fun K hK => ?_
   simp only [go_sem, rL, rE, reduceCtorEq]
   refine hK _ _ ?_
   clear hK K
   refine zi ?_
   simp only [retQ, resAll, resOne, resAV, exists_eq_left', go_sem]
   exact ⟨[], [], by rw [List.append_nil, List.append_nil, Store.set_at hcs]⟩
 · obtain ⟨pre, e, post, post', he, h2, h3, h4⟩ : ∃ pre e post post', es = pre ++ e :: post ∧ r = 0 + (pre.length : Int) ∧ decode_del m post = some post' ∧ es' = pre ++ post' := by
    rcases hcase with ⟨h, _⟩ | h
    · exact absurd h hc
    · exact h
   rw [Int.zero_add] at h2
   subst h2
   have hl0 : es.length = pre.length + (post.length + 1) := by rw [he]; simp
   refine zh ?_
   refine hZ _ _ ?_
   clear hZ Z
   have hw1 : IntKind.i64.wrap ((pre.length : Int) + 1) = (pre.length : Int) + 1 := by rw [IntKind.wrap_i64]; omega
   refine ze fun Z hZ => ?_
   refine rg tok [0, 1, 5, 6] fun K hK => ?_
   simp only [go_sem, rL, rE, reduceCtorEq, hw1]
   refine hK _ _ ?_
   clear hK K
   refine zj ?_
   refine zt (fun k F τ => ∃ (cur kept rest rest' : List GEntry) (j : Nat) (g : Store), k = rest.length ∧ F = [(0, AV.os nl 2 id ver 0 es.length false), (1, .fn (.func 60) [] [.dp (encGMessage m) 0]), (5, .int .i64 (kept.length : Int)), (6, .int .i64 (j : Int))] ∧
    τ = List.set σ id (.cells ver (cur.flatMap encGEntry)) ++ g ∧ cur.length = es.length ∧ cur.take kept.length = kept ∧ cur.drop j = rest ∧ j + rest.length = es.length ∧ kept.length < j ∧ decode_del m rest = some rest' ∧ es' = kept ++ rest') post.length
    ⟨es, pre, post, post', pre.length + 1, [], rfl, rfl, by rw [Store.set_at hcs, List.append_nil], rfl, by rw [he, List.take_left], by rw [he, ← List.drop_drop, List.drop_left]; rfl, by omega, by omega, h3, h4⟩ (.same ⟨rfl, rfl, rfl, rfl, trivial⟩ rfl) ?_
   rintro k _ _ ⟨cur, kept, rest, rest', j, g, rfl, rfl, rfl, c1, c2, c3, c4, c5, c6, c7⟩
   have hat : Store.at (List.set σ id (.cells ver (cur.flatMap encGEntry)) ++ g) id ver = some (cur.flatMap encGEntry) := at_app (Store.at_set hcs) _
   obtain ⟨τ, hτ⟩ : ∃ τ, τ = List.set σ id (.cells ver (cur.flatMap encGEntry)) ++ g := ⟨_, rfl⟩
   rw [← hτ] at hat ⊢
   refine ze fun Y hY => ?_
   refine rg tok [0, 1, 5, 6, 19] fun K hK => ?_
   simp only [go_sem, rL, rE, reduceCtorEq]
   refine hK _ _ ?_
   clear hK K
   refine awp_if rfl (fun hc => ?_) (fun hc => ?_)
   · refine zh ?_
     refine hY _ _ ?_
     clear hY Y
     rcases rest with _ | ⟨e2, rest⟩
     · simp only [List.length_nil] at c4; omega
     simp only [decode_del] at c6
     obtain ⟨b, hb, c6⟩ := bind_some c6
     obtain ⟨l', hl', c6⟩ := bind_some c6
     obtain rfl := Option.some.inj c6
     simp only [List.length_cons] at c4
     have hx : idxL cur (j : Int) = some e2 := by
      unfold idxL
      rw [if_pos (by omega), Int.toNat_natCast]
      have : (cur.drop j)[0]? = some e2 := by rw [c3]; rfl
      rwa [List.getElem?_drop, Nat.add_zero] at this
     have hcd : cur.drop (j + 1) = rest := by rw [← List.drop_drop, c3]; rfl
     have hw6 : IntKind.i64.wrap ((j : Int) + 1) = ((j + 1 : Nat) : Int) := by rw [IntKind.wrap_i64]; omega
     have hix := E40.idxO hx nl false .i64 2 id ver
     rw [c1] at hix
     have hrd := E40.rdO hx
     refine ze fun X hX => ?_
     have fin : ∀ (cur' kept' : List GEntry) (F : Fr) (τ' : Store), Fits F [(0, AV.os nl 2 id ver 0 es.length false), (1, .fn (.func 60) [] [.dp (encGMessage m) 0]), (5, .int .i64 (kept'.length : Int)), (6, .int .i64 (j : Int))] → (∃ g', τ' = List.set σ id (.cells ver (cur'.flatMap encGEntry)) ++ g') → cur'.length = es.length → cur'.take kept'.length = kept' → cur'.drop (j + 1) = rest → kept'.length < j + 1 → es' = kept' ++ l' →
      X F τ' := by
      rintro cur' kept' F _ hF ⟨g', rfl⟩ d1 d2 d3 d4 d5
      refine hX _ _ (awp_tellS (.same hF rfl) ?_)
      refine rgE tok [0, 1, 5, 6] fun K hK => ?_
      simp only [go_sem, rL, rE, reduceCtorEq, hw6]
      refine hK _ _ ?_
      clear hK K
      simp only [zd]
      exact ⟨rest.length, _, _, by simp, ⟨cur', kept', rest, l', j + 1, g', rfl, rfl, rfl, d1, d2, d3, by omega, by omega, hl', d5⟩, .same ⟨rfl, rfl, rfl, rfl, trivial⟩ rfl⟩
     clear hX
     have hae : ∀ cs, Store.at (τ ++ [.cells 0 cs]) τ.length 0 = some cs := fun cs => at_end τ cs []
     have hse : ∀ cs cs', (τ ++ [AObj.cells 0 cs]).set τ.length (.cells 0 cs') = τ ++ [.cells 0 cs'] := fun cs cs' => set_mid τ _ _ []
     have hw5 : IntKind.i64.wrap ((kept.length : Int) + 1) = ((kept.length + 1 : Nat) : Int) := by rw [IntKind.wrap_i64]; omega
     refine zj ?_
     refine rg tok [0, 1, 5, 6, 7] fun K hK => ?_
     simp only [go_sem, rL, rD, rE, rA, reduceCtorEq, hat, hix, hrd, zy, cellsGEntry, hae, hse, List.length_cons, List.length_nil, List.set_cons_zero, List.set_cons_succ]
     refine hK _ _ ?_
     clear hK K
     refine rc [0, 5, 6, 7, 1, 29] fun K hK => ?_
     refine za tok 2 ?_
     simp only [go_sem, rL, rD, rE, rA, reduceCtorEq, hae, List.length_cons, List.length_nil]
     refine zf rfl rfl rfl (decode_message_1.ev e2 m b hb _) ?_
     rintro _ _ ⟨rfl, hσ⟩
     rw [hσ]; clear hσ
     refine za tok 1 ?_
     simp only [go_sem, rL, rE, reduceCtorEq]
     refine zb ?_
     simp only [zd, upd, rE, reduceIte, zk, fs_nil]
     refine hK _ _ ?_
     clear hK K
     cases b with
     | true =>
      refine zp rfl ?_
      refine zh ?_
      simp only [blockQ_normal, zd]
      exact fin cur kept _ _ ⟨rfl, rfl, rfl, rfl, trivial⟩ ⟨g ++ [.cells 0 [.int .i64 e2.fTag, .ds true (List.flatMap encGTree e2.fTrees) e2.fTrees.length false]], by rw [hτ, List.append_assoc]⟩ c1 c2 hcd (by omega) c7
     | false =>
      refine zr rfl ?_
      have hkl : kept.length < cur.length := by omega
      have hx2 : idxL cur (kept.length : Int) = some cur[kept.length] := by
       unfold idxL
       rw [if_pos (by omega), Int.toNat_natCast, List.getElem?_eq_getElem hkl]
      have hix2 := E40.idxO hx2 nl false .i64 2 id ver
      rw [c1] at hix2
      have hsc := E40.stOc hx2
      have hsr := E40.stOr hx2 (y := e2) (cs := [.int .i64 e2.fTag, .ds true (List.flatMap encGTree e2.fTrees) e2.fTrees.length false]) (by rw [zy]; rfl)
      simp only [setRun] at hsr
      have hat1 : Store.at (τ ++ [.cells 0 [.int .i64 e2.fTag, .ds true (List.flatMap encGTree e2.fTrees) e2.fTrees.length false]]) id ver = some (cur.flatMap encGEntry) := at_app hat _
      refine rg tok [0, 1, 5, 6] fun K hK => ?_
      simp only [go_sem, rL, rD, rE, rA, reduceCtorEq, hae, hix2, hsc, hsr, hat1, List.length_cons, List.length_nil]
      refine hK _ _ ?_
      clear hK K
      refine rgE tok [0, 1, 5, 6] fun K hK => ?_
      simp only [go_sem, rL, rE, reduceCtorEq, hw5]
      refine hK _ _ ?_
      clear hK K
      simp only [blockQ_normal, zd]
      have hlen : (kept ++ [e2]).length = kept.length + 1 := by simp
      refine fin (setI cur (kept.length : Int) e2) (kept ++ [e2]) _ _ ⟨rfl, rfl, by rw [hlen]; rfl, rfl, trivial⟩ ⟨g ++ [.cells 0 [.int .i64 e2.fTag, .ds true (List.flatMap encGTree e2.fTrees) e2.fTrees.length false]], ?_⟩ ?_ ?_ ?_ (by rw [hlen]; omega) (by rw [c7]; simp)
      · rw [hτ, List.append_assoc, List.set_append_left _ _ (by simpa using Store.at_lt hcs), List.set_set]
      · rw [setI_length]; exact c1
      · rw [hlen]
        unfold setI
        rw [Int.toNat_natCast, List.take_set, List.take_add_one, c2, List.getElem?_eq_getElem hkl]
        simp
      · unfold setI
        rw [Int.toNat_natCast, List.drop_set_of_lt (by omega)]
        exact hcd
   · refine zx ?_
     simp only [go_sem]
     have hr0 : rest = [] := List.length_eq_zero_iff.1 (by omega)
     subst hr0
     cases c6
     rw [List.append_nil] at c7
     subst c7
     simp only [List.length_nil, Nat.add_zero] at c4
     have hkn : es'.length < es.length := by omega
     have hsl1 : evSlice tab 40 (.os nl 2 id ver 0 es.length false) (some (.int .i64 (es'.length : Int))) none none = some (.os nl 2 id ver (es'.length * 2) (es.length - es'.length) false) := by
      simp only [evSlice, tab_40, tab_61, optI]
      simp
      omega
     have hsl2 : evSlice tab 40 (.os nl 2 id ver 0 es.length false) none (some (.int .i64 (es'.length : Int))) none = some (.os nl 2 id ver 0 es'.length false) := by
      simp only [evSlice, tab_40, tab_61, optI]
      simp
      omega
     have hcl : (cur.flatMap encGEntry).length = es.length * 2 := by rw [← c1]; exact zo E40.len cur
     have hzl : ∀ n, (zeroRun [AV.int .i64 0, .ds true [] 0 true] n).length = n := fun n => by simp [zeroRun]
     have hsr : setRun (cur.flatMap encGEntry) (es'.length * 2) (zeroRun [AV.int .i64 0, .ds true [] 0 true] ((es.length - es'.length) * 2)) = es'.flatMap encGEntry ++ zeroRun [AV.int .i64 0, .ds true [] 0 true] ((es.length - es'.length) * 2) := by
      have e0 : cur.flatMap encGEntry = es'.flatMap encGEntry ++ ((cur.drop es'.length).flatMap encGEntry ++ []) := by
       rw [List.append_nil, ← List.flatMap_append]
       congr 1
       conv => lhs; rw [← List.take_append_drop es'.length cur, c2]
      have l1 : (es'.flatMap encGEntry).length = es'.length * 2 := zo E40.len _
      rw [e0, ← l1, setRun_mid _ _ _ _ (by rw [hzl, zo E40.len, List.length_drop, c1]), List.append_nil]
     have hclr : evClear tab 40 (.os nl 2 id ver (es'.length * 2) (es.length - es'.length) false) τ = some (.tup [], τ.set id (.cells ver (es'.flatMap encGEntry ++ zeroRun [AV.int .i64 0, .ds true [] 0 true] ((es.length - es'.length) * 2)))) := by
      have hp : putInto τ (.os nl 2 id ver (es'.length * 2) (es.length - es'.length) false) (es.length - es'.length) 2 (zeroRun [AV.int .i64 0, .ds true [] 0 true] ((es.length - es'.length) * 2)) = some (τ.set id (.cells ver (es'.flatMap encGEntry ++ zeroRun [AV.int .i64 0, .ds true [] 0 true] ((es.length - es'.length) * 2)))) := by
       unfold putInto
       rw [if_neg (by omega)]
       simp only [hat]
       rw [if_pos ⟨trivial, by rw [hzl, hcl, ← Nat.add_mul]; exact Nat.mul_le_mul_right _ (by omega), zeroRun_one _⟩, hsr]
      simp only [evClear, tab_40, tab_61, AV.cells, hp]
      simp [AV.okc, AV.one]
     refine hZ _ _ ?_
     refine rg tok [0, 5] fun K hK => ?_
     simp only [go_sem, rL, rE, reduceCtorEq, hsl1, hclr]
     refine hK _ _ ?_
     clear hK K
     refine rg tok [4] fun K hK => ?_
     simp only [go_sem, rL, rE, reduceCtorEq, hsl2]
     refine hK _ _ ?_
     clear hK K
     refine zi ?_
     simp only [retQ, resAll, resOne, resAV, exists_eq_left', go_sem]
     refine ⟨zeroRun [AV.int .i64 0, .ds true [] 0 true] ((es.length - es'.length) * 2), g, ?_⟩
     rw [hτ, List.set_append_left _ _ (by simpa using Store.at_lt hcs), List.set_set]
end Go.Proofs.YtaddlmlpeghonaaDoor
