import Derived.Test.YtaddlmlpeghonaaDoorUBr
import Derived.Scope
set_option linter.unusedSimpArgs false
set_option linter.unusedVariables false
set_option linter.constructorNameAsVariable false
namespace Go.Proofs.YtaddlmlpeghonaaDoor
namespace AM
open Go.RowKit
theorem Store.at_tl {o : AObj} {x : Store} {i v : Nat} : Store.at (o :: x) (i + 1) v = Store.at x i v := rfl
theorem Store.mapAt_hd {es : List (AV × AV)} {x : Store} : Store.mapAt (.map es :: x) 0 = some es := rfl
theorem Store.mapAt_tl {o : AObj} {x : Store} {i : Nat} : Store.mapAt (o :: x) (i + 1) = Store.mapAt x i := rfl
theorem Store.iterAt_hd {s : List UInt8} {p : Nat} {x : Store} : Store.iterAt (.iter s p :: x) 0 = some (s, p) := rfl
theorem Store.iterAt_tl {o : AObj} {x : Store} {i : Nat} : Store.iterAt (o :: x) (i + 1) = Store.iterAt x i := rfl
class BoolP (b : Bool) (p q : outParam Prop) : Prop where
 t : b = true → p
 f : b = false → q
instance (priority := low) boolP_eq (b : Bool) : BoolP b (b = true) (b = false) := ⟨id, id⟩
instance boolP_dec (p : Prop) [Decidable p] : BoolP (decide p) p (¬ p) := ⟨of_decide_eq_true, of_decide_eq_false⟩
instance boolP_not (b : Bool) (p q : Prop) [h : BoolP b p q] : BoolP (!b) q p := ⟨fun e => h.f (by simpa using e), fun e => h.t (by simpa using e)⟩
instance boolP_and (a b : Bool) (p q p' q' : Prop) [h : BoolP a p q] [h' : BoolP b p' q'] : BoolP (a && b) (p ∧ p') (q ∨ q') :=
 ⟨fun e => by simp only [Bool.and_eq_true] at e; exact ⟨h.t e.1, h'.t e.2⟩, fun e => by
  cases ha : a with
  | false => exact .inl (h.f ha)
  | true => rw [ha] at e; exact .inr (h'.f (by simpa using e))⟩
instance boolP_or (a b : Bool) (p q p' q' : Prop) [h : BoolP a p q] [h' : BoolP b p' q'] : BoolP (a || b) (p ∨ p') (q ∧ q') :=
 ⟨fun e => by
  cases ha : a with
  | true => exact .inl (h.t ha)
  | false => rw [ha] at e; exact .inr (h'.t (by simpa using e)), fun e => by simp only [Bool.or_eq_false_iff] at e; exact ⟨h.f e.1, h'.f e.2⟩⟩
instance boolP_beq (a b : Bool) : BoolP (a == b) (a = b) (a ≠ b) := ⟨fun e => by simpa using e, fun e => by simpa using e⟩
def AV.isS : AV → Bool
 | .ds .. | .os .. => true
 | _ => false
section
variable {P : Program} {n k : Nat} {Q : Exit → Fr → Store → Prop} {F : Fr} {σ : Store}
theorem awp_if {c : Operand} {x y : Code} {b : Bool} {p q : Prop} [hb : BoolP b p q] (hc : ev F c = .bool b) (ht : p → awp P n k x Q F σ) (hf : q → awp P n k y Q F σ) : awp P n k (.cond c x y) Q F σ :=
 zw hc (fun e => ht (hb.t e)) (fun e => hf (hb.f e))
theorem ops_if {ops : Array Oper} {l : List Oper} {b : Bool} {p q : Prop} [hp : BoolP b p q] (t : Tmp) (hb : F t = .bool b) (h1 : p → opsWp P n k ops l Q (upd F t (.bool true)) σ) (h0 : q → opsWp P n k ops l Q (upd F t (.bool false)) σ) :
 opsWp P n k ops l Q F σ := opsWp_at t hb (fun e => h1 (hp.t e)) (fun e => h0 (hp.f e))
def noGotoQ (Q : Exit → Fr → Store → Prop) : Exit → Fr → Store → Prop
 | .goto _, _, _ => False
 | e, F, σ => Q e F σ
theorem noGotoQ_normal {Q : Exit → Fr → Store → Prop} {F : Fr} {σ : Store} : noGotoQ Q .normal F σ = Q .normal F σ := rfl
theorem noGotoQ_ret {Q : Exit → Fr → Store → Prop} {F : Fr} {σ : Store} : noGotoQ Q .ret F σ = Q .ret F σ := rfl
theorem noGotoQ_exit {Q : Exit → Fr → Store → Prop} {F : Fr} {σ : Store} {i : Nat} : noGotoQ Q (.exit i) F σ = Q (.exit i) F σ := rfl
theorem slice_nil {T : TT} (hT : TOK P T) {E : Env} {t : TypeId} {i : TI} {e : TypeId} (hi : T t = some i) (hd : i.desc = .slice e) {x : AV} {vx : Value} (hx : VR E x vx) (hs : x.isS = true) (ox oy : Operand) :
 ∃ b, (do eqGuard .eql t ox oy vx (.slice none 0 0); Go.binOp .eql t vx (.slice none 0 0) : Sem Value).run P E.w = .ok (.bool b) E.w ∧ (b = true → lenOfAV x = 0) := by
 have key : ∀ (a : Option Addr) (l c : Nat), (do eqGuard .eql t ox oy (.slice a l c) (.slice none 0 0); Go.binOp .eql t (.slice a l c) (.slice none 0 0) : Sem Value).run P E.w = .ok (.bool a.isNone) E.w := by
  intro a l c
  have h1 : (eqGuard .eql t ox oy (.slice a l c) (.slice none 0 0)).run P E.w = .ok () E.w := by simp [eqGuard]
  rw [Sem.run_bind, h1, Result.andThen_ok]
  have h3 : ∀ d, (Op.equalIn (d + 1) t (.slice a l c) (.slice none 0 0)).run P E.w = .ok a.isNone E.w := by
   intro d
   cases a with
   | none => simp only [Op.equalIn, Sem.run_bind, zq _ (hT _ _ hi), Result.andThen_ok, hd, Sem.run_pure]
   | some a => simp only [Op.equalIn, Sem.run_bind, zq _ (hT _ _ hi), Result.andThen_ok, hd, Sem.run_pure]; rfl
  have h2 : (Op.equal t (.slice a l c) (.slice none 0 0)).run P E.w = .ok a.isNone E.w := h3 9999
  simp only [Go.binOp, Sem.run_bind, h2, Result.andThen_ok, Sem.run_pure]
 cases hx with
 | dsn tt => exact ⟨true, key none 0 0, fun _ => rfl⟩
 | ds nl cells len tt a cap vs ha hr h hc ht hB => exact ⟨false, key (some a) len cap, fun h => by cases h⟩
 | osn sz id ver off tt a hk h => exact ⟨a.isNone, key a 0 0, fun _ => rfl⟩
 | os nl sz id ver off len tt a cap hk hc ht hB h => exact ⟨false, key (some a) len cap, fun h => by cases h⟩
 | _ => cases hs
theorem opsWp_snil {T : TT} (hT : TOK P T) {ops : Array Oper} {o : Oper} {l : List Oper} {x : Operand} {t yt : TypeId} {i : TI} {e : TypeId} (hg : guardA ops F o = some true) (ho : o.op = .binOp .eql t x (.const (.slice none 0 0)) yt) (hi : T t = some i) (hd : i.desc = .slice e)
 (hs : (ev F x).isS = true) (hdst : dstOk n o.dst = true) (h : ∀ b, (b = true → lenOfAV (ev F x) = 0) → opsWp P n k ops l Q (updO F o.dst (.bool b)) σ) : opsWp P n k ops (o :: l) Q F σ := by
 intro E a hk hS hF
 unfold wpList
 rw [if_pos (guardA_wanted hF hg)]
 refine .inl ?_
 obtain ⟨b, h1, h2⟩ := slice_nil (P := P) hT hi hd (hF.ev x) hs x (.const (.slice none 0 0))
 unfold Oper.wp
 have hrun : (execOp a.eval o).run P E.w = .ok (.value (.bool b)) E.w := by
  obtain ⟨dst, op, ty, pos, after, guard⟩ := o
  simp only at ho
  subst ho
  show (do pure (.value (← (do eqGuard .eql t x (.const (.slice none 0 0)) (a.eval x) (.slice none 0 0); Go.binOp .eql t (a.eval x) (.slice none 0 0) : Sem Value))) : Sem Next).run P E.w = _
  rw [Sem.run_bind, h1, Result.andThen_ok]; rfl
 rw [hrun]
 exact h b h2 E _ hk hS (hF.put (dstOk_lt hdst) (.bool b))
theorem zl {T : TT} (hT : TOK P T) {f : FuncId} {fn : Func} {c : Code} {n : Nat} {rs : List ResultVar} {args : List AV} {x : AV} (hf : P.funcs[f]? = some fn) (hb : fn.body = some c)
 (hn : fn.ntmps = n) (hr : fn.results.toList = rs) (hent : ∀ vs w, (callFunc f vs).run P w = .ok (.enter f vs) w) (hl : args.length ≤ n) (h : awp P n 0 c (retQ T rs fun r σ' => tell σ' [] true 12 r = x) (fr args) []) :
 ACalls P f args [] fun r _ => r = x := by
 refine ACalls.told ((acalls_body (σ := []) (R := fun r σ' => tell σ' [] true 12 r = x) hT hf hb hn hr hent hl h).mono fun r σ' hx => ?_)
 exact ⟨[], true, 12, List.nodup_nil, fun _ h => (by cases h), rfl, hx⟩
theorem acalls_st {T : TT} (keep : List Nat) (hT : TOK P T) {f : FuncId} {fn : Func} {c : Code} {n : Nat} {rs : List ResultVar} {args : List AV} {σ : Store} {R : AV → Store → Prop} (hf : P.funcs[f]? = some fn) (hb : fn.body = some c)
 (hn : fn.ntmps = n) (hr : fn.results.toList = rs) (hent : ∀ vs w, (callFunc f vs).run P w = .ok (.enter f vs) w) (hl : args.length ≤ n) (hk : keep.take σ.length = List.range σ.length)
 (h : awp P n σ.length c (retQ T rs fun r σ' => keep.Nodup ∧ (∀ id ∈ keep, id < σ'.length) ∧ R (tell σ' keep true 12 r) (tellS σ' keep true 12)) (fr args) σ) :
 ACalls P f args σ R := by
 refine ACalls.told ((acalls_body hT hf hb hn hr hent hl h).mono fun r σ' hx => ?_)
 exact ⟨keep, true, 12, hx.1, hx.2.1, hk, hx.2.2⟩
theorem zr {c : Operand} {x y : Code} (hc : ev F c = .bool true) (h : awp P n k x Q F σ) : awp P n k (.cond c x y) Q F σ := zw hc (fun _ => h) (fun e => by cases e)
theorem zp {c : Operand} {x y : Code} (hc : ev F c = .bool false) (h : awp P n k y Q F σ) : awp P n k (.cond c x y) Q F σ := zw hc (fun e => by cases e) (fun _ => h)
theorem za {T : TT} (hT : TOK P T) (m : Nat) {ops : Array Oper} {l : List Oper} (h : Run (evOps T n ops (l.take m) F σ) fun l' F' σ' => l' = [] ∧ opsWp P n k ops (l.drop m) Q F' σ') : opsWp P n k ops l Q F σ := by
 unfold Run at h
 split at h
 · rename_i l' F' σ' he
   obtain ⟨rfl, h⟩ := h
   have key : ∀ (a b : List Oper) (F F' : Fr) (σ σ' : Store), evOps T n ops a F σ = some ([], F', σ') → opsWp P n k ops b Q F' σ' → opsWp P n k ops (a ++ b) Q F σ := by
    intro a
    induction a with
    | nil => intro b F F' σ σ' h1 h2; cases h1; exact h2
    | cons o a ih =>
     intro b F F' σ σ' h1 h2
     simp only [evOps] at h1
     split at h1
     · rename_i hg
       cases hc : isCall o with
       | true => rw [hc] at h1; cases h1
       | false =>
        rw [hc] at h1
        simp only [cond_false] at h1
        cases hdk : dstOk n o.dst with
        | false => rw [hdk] at h1; cases h1
        | true =>
         rw [hdk] at h1
         simp only [cond_true] at h1
         split at h1
         · rename_i r σ1 he'
           exact opsWp_op hT hg he' (dstOk_lt hdk) (ih b _ _ _ _ h1 h2)
         · cases h1
     · rename_i hg
       cases hdk : dstOk n o.dst with
       | false => rw [hdk] at h1; cases h1
       | true =>
        rw [hdk] at h1
        exact opsWp_skip hg (dstOk_lt hdk) (ih b _ _ _ _ h1 h2)
     · cases h1
   have := key (l.take m) (l.drop m) F F' σ σ' he h
   rwa [List.take_append_drop] at this
 · exact h.elim
theorem DW.if {T : TT} {id : Nat} {ops : List Oper} {es : List EK} {F0 : Fr} {σ0 : Store} {ex : List (Nat × List Nat)} {l : List Oper} {es' : List EK} {Ss : List Store} {rs : List AV} {b : Bool} {p q : Prop} [hp : BoolP b p q] (t : Tmp) (hb : F t = .bool b)
 (h1 : p → DW P n k T id ops es F0 σ0 ex Q l es' (upd F t (.bool true)) Ss rs) (h0 : q → DW P n k T id ops es F0 σ0 ex Q l es' (upd F t (.bool false)) Ss rs) : DW P n k T id ops es F0 σ0 ex Q l es' F Ss rs := by
 have e : F = upd F t (.bool b) := by
  funext x; unfold upd; split
  · rename_i h; rw [h, hb]
  · rfl
 rw [e]
 cases b with
 | true => exact h1 (hp.t rfl)
 | false => exact h0 (hp.f rfl)
theorem DW.at {T : TT} {id : Nat} {ops : List Oper} {es : List EK} {F0 : Fr} {σ0 : Store} {ex : List (Nat × List Nat)} {l : List Oper} {es' : List EK} {Ss : List Store} {rs : List AV} {b : Bool} (t : Tmp) (hb : F t = .bool b)
 (h1 : b = true → DW P n k T id ops es F0 σ0 ex Q l es' (upd F t (.bool true)) Ss rs) (h0 : b = false → DW P n k T id ops es F0 σ0 ex Q l es' (upd F t (.bool false)) Ss rs) : DW P n k T id ops es F0 σ0 ex Q l es' F Ss rs := by
 have e : F = upd F t (.bool b) := by
  funext x; unfold upd; split
  · rename_i h; rw [h, hb]
  · rfl
 rw [e]
 cases b with
 | true => exact h1 rfl
 | false => exact h0 rfl
end
theorem evLoad_op {T : TT} {t id ver off : Nat} {σ : Store} : evLoad T t (.op id ver off) σ = match T t, Store.at σ id ver with
 | some i, some cs => evRd cs off i.size i.agg
 | _, _ => none := by
 cases h : T t <;> cases h2 : Store.at σ id ver <;> simp [evLoad, h, h2]
theorem evRd_agg {cs : List AV} {off size : Nat} : evRd cs off size true = if off + size ≤ cs.length then some (.agg ((cs.drop off).take size)) else none := rfl
theorem evRd_one {cs : List AV} {off size : Nat} : evRd cs off size false = if off < cs.length then some (gc cs off) else none := rfl
theorem gc_hd {a : AV} {l : List AV} : gc (a :: l) 0 = a := rfl
theorem gc_tl {a : AV} {l : List AV} {i : Nat} : gc (a :: l) (i + 1) = gc l i := by simp [gc]
theorem fr_hd {a : AV} {l : List AV} : fr (a :: l) 0 = a := rfl
theorem fr_nil {i : Nat} : fr [] i = .u := rfl
attribute [go_sem] Run_some evOps guardA isCall dstOk evOp ev updO upd fr_hd fr_nil constAV constCell pureR cond_true cond_false decide_true decide_false if_true if_false Option.getD_some Option.getD_none Option.bind_some List.getElem?_cons_zero List.getElem?_cons_succ List.getElem?_nil List.getElem?_toArray true_and and_true List.map_cons List.map_nil Option.map_some Option.map_none List.toList_toArray Bool.true_eq_false Bool.false_eq_true Bool.not_true Bool.not_false beq_self_eq_true beq_tr beq_fa evBinA evBin evInt evUn evStr evPick evNil evExtract evIface evAlloc evBox evStore evLoad_op evRd_agg evRd_one TypeDesc.isAgg TI.agg AV.okc AV.one AV.cells gc_hd gc_tl setRun Store.at_hd Store.at_tl Store.mapAt_hd Store.mapAt_tl Store.iterAt_hd Store.iterAt_tl List.length_cons List.length_nil List.set_cons_zero List.set_cons_succ List.cons_append List.nil_append List.all_cons List.all_nil Bool.and_true Bool.true_and and_self List.drop_zero List.drop_succ_cons List.take_succ_cons List.take_zero List.take_nil List.drop_nil Nat.zero_add Nat.add_zero ne_eq not_true_eq_false not_false_eq_true evBuiltin evFold foldO evMax2 evMin2 evMakeMap evRange exists_eq exists_eq' RunD_some evD memFree stabs agr agrs isAlloc hasN ownL ownA refs readRefs List.flatMap_cons List.flatMap_nil or_true true_or or_false false_or Option.some.injEq Prod.mk.injEq implies_true forall_const noGotoQ_normal noGotoQ_ret noGotoQ_exit zd thenQ_ret thenQ_exit thenQ_goto blockQ_normal blockQ_ret blockQ_exit evBuild fillRun placeOf Option.isSome_some List.getElem_toArray List.size_toArray List.getElem_cons_zero List.getElem_cons_succ
end AM
end Go.Proofs.YtaddlmlpeghonaaDoor
