import Derived.Test.YtaddlmlpeghonaaDoorUBi
set_option linter.unusedSimpArgs false
set_option linter.unusedVariables false
set_option linter.constructorNameAsVariable false
namespace Go.Proofs.YtaddlmlpeghonaaDoor
namespace AM
open Go.RowKit
def post (n k : Nat) (Q : Exit → Fr → Store → Prop) (E : Env) : Exit → Act → World → Prop :=
 fun e a w => ∃ E' F σ, E'.w = w ∧ SR E' σ ∧ FR E' n F a ∧ ExtK k E E' ∧ Q e F σ
theorem post_trans {n k : Nat} {Q : Exit → Fr → Store → Prop} {E E' : Env} (hx : ExtK k E E') {e : Exit} {a : Act} {w : World} (h : post n k Q E' e a w) : post n k Q E e a w := by
 obtain ⟨E2, F, σ, h1, h2, h3, h4, h5⟩ := h
 exact ⟨E2, F, σ, h1, h2, h3, hx.trans h4, h5⟩
def awp (P : Program) (n k : Nat) (c : Code) (Q : Exit → Fr → Store → Prop) (F : Fr) (σ : Store) : Prop :=
 ∀ E a, k ≤ E.n → SR E σ → FR E n F a → c.wp P (post n k Q E) a E.w
def ACalls (P : Program) (f : FuncId) (args : List AV) (σ : Store) (R : AV → Store → Prop) : Prop :=
 (∀ vs w, (callFunc f vs).run P w = .ok (.enter f vs) w) ∧
  ∀ E (vs : Array Value), SR E σ → ListR E args vs.toList → Calls P f vs E.w fun e w => ∃ v r σ' E', e = .returned v ∧ E'.w = w ∧ VR E' r v ∧ SR E' σ' ∧ Ext E E' ∧ R r σ'
theorem ACalls.mono {P : Program} {f : FuncId} {args : List AV} {σ : Store} {R R' : AV → Store → Prop} (h : ACalls P f args σ R) (hr : ∀ r σ', R r σ' → R' r σ') : ACalls P f args σ R' :=
 ⟨h.1, fun E vs hS hl => (h.2 E vs hS hl).mono fun _ _ ⟨v, r, σ', E', h1, h2, h3, h4, h5, h6⟩ => ⟨v, r, σ', E', h1, h2, h3, h4, h5, hr _ _ h6⟩⟩
theorem awp_mono {P : Program} {n k : Nat} {c : Code} {Q Q' : Exit → Fr → Store → Prop} {F : Fr} {σ : Store} (h : awp P n k c Q F σ) (hq : ∀ e F σ, Q e F σ → Q' e F σ) : awp P n k c Q' F σ :=
 fun E a hk hS hF => wp_mono (h E a hk hS hF) fun _ _ _ ⟨E', F', σ', h1, h2, h3, h4, h5⟩ => ⟨E', F', σ', h1, h2, h3, h4, hq _ _ _ h5⟩
section rules
variable {P : Program} {n k : Nat} {Q : Exit → Fr → Store → Prop} {F : Fr} {σ : Store}
theorem zh (h : Q .normal F σ) : awp P n k .skip Q F σ := fun E a hk hS hF => wp_skip ⟨E, F, σ, rfl, hS, hF, ExtK.refl E hk, h⟩
theorem zx {i : Nat} (h : Q (.exit i) F σ) : awp P n k (.exit i) Q F σ := fun E a hk hS hF => wp_exit ⟨E, F, σ, rfl, hS, hF, ExtK.refl E hk, h⟩
theorem zi (h : Q .ret F σ) : awp P n k .ret Q F σ := fun E a hk hS hF => wp_ret ⟨E, F, σ, rfl, hS, hF, ExtK.refl E hk, h⟩
def thenQ (next : Fr → Store → Prop) (Q : Exit → Fr → Store → Prop) : Exit → Fr → Store → Prop
 | .normal, F, σ => next F σ
 | e, F, σ => Q e F σ
theorem awp_seq {x y : Code} (h : awp P n k x (thenQ (awp P n k y Q) Q) F σ) : awp P n k (.seq x y) Q F σ := by
 intro E a hk hS hF
 refine wp_seq (wp_mono (h E a hk hS hF) ?_)
 rintro e a' w' ⟨E', F', σ', rfl, h2, h3, h4, h5⟩
 cases e with
 | normal => exact wp_mono (h5 E' a' h4.n h2 h3) fun e a w hp => post_trans h4 hp
 | exit i => exact ⟨E', F', σ', rfl, h2, h3, h4, h5⟩
 | goto l => exact ⟨E', F', σ', rfl, h2, h3, h4, h5⟩
 | ret => exact ⟨E', F', σ', rfl, h2, h3, h4, h5⟩
 | panic c => exact ⟨E', F', σ', rfl, h2, h3, h4, h5⟩
 | outgrown => exact ⟨E', F', σ', rfl, h2, h3, h4, h5⟩
theorem zw {c : Operand} {x y : Code} {b : Bool} (hc : ev F c = .bool b) (ht : b = true → awp P n k x Q F σ) (hf : b = false → awp P n k y Q F σ) : awp P n k (.cond c x y) Q F σ := by
 intro E a hk hS hF
 have hv := hF.ev c
 rw [hc] at hv
 generalize hq : a.eval c = q at hv
 cases hv
 exact wp_cond_split hq (fun h => ht h E a hk hS hF) (fun h => hf h E a hk hS hF)
def blockQ (id : Nat) (Q : Exit → Fr → Store → Prop) : Exit → Fr → Store → Prop
 | .exit i, F, σ => if i = id then Q .normal F σ else Q (.exit i) F σ
 | e, F, σ => Q e F σ
theorem zj {id : Nat} {c : Code} (h : awp P n k c (blockQ id Q) F σ) : awp P n k (.block id c) Q F σ := by
 intro E a hk hS hF
 refine wp_block (wp_mono (h E a hk hS hF) ?_)
 rintro e a' w' ⟨E', F', σ', rfl, h2, h3, h4, h5⟩
 cases e with
 | exit i =>
  show if i = id then post n k Q E .normal a' E'.w else post n k Q E (.exit i) a' E'.w
  simp only [blockQ] at h5
  split
  · rename_i hi; rw [if_pos hi] at h5; exact ⟨E', F', σ', rfl, h2, h3, h4, h5⟩
  · rename_i hi; rw [if_neg hi] at h5; exact ⟨E', F', σ', rfl, h2, h3, h4, h5⟩
 | normal => exact ⟨E', F', σ', rfl, h2, h3, h4, h5⟩
 | goto l => exact ⟨E', F', σ', rfl, h2, h3, h4, h5⟩
 | ret => exact ⟨E', F', σ', rfl, h2, h3, h4, h5⟩
 | panic c => exact ⟨E', F', σ', rfl, h2, h3, h4, h5⟩
 | outgrown => exact ⟨E', F', σ', rfl, h2, h3, h4, h5⟩
theorem awp_loop {c : Code} (I : Nat → Fr → Store → Prop) (m : Nat) (h0 : I m F σ)
 (round : ∀ m F σ, I m F σ → awp P n k c (thenQ (fun F' σ' => ∃ m', m' < m ∧ I m' F' σ') Q) F σ) : awp P n k (.loop c) Q F σ := by
 intro E a hk0 hS hF b kk cs
 have key : ∀ m F σ E1 a1, SR E1 σ → FR E1 n F a1 → ExtK k E E1 → I m F σ →
  ∃ e a' w', post n k Q E e a' w' ∧ Arrives P (lone (b.at a1 (.code c :: .inLoop c :: kk)) cs E1.w) b kk cs e a' w' := by
  intro m
  induction m using Nat.strongRecOn with
  | _ m ih =>
   intro F σ E1 a1 hS1 hF1 hx1 hI
   have hr := round m F σ hI E1 a1 hx1.n hS1 hF1
   obtain ⟨e, a2, w2, ⟨E2, F2, σ2, rfl, hS2, hF2, hx2, hQ⟩, harr⟩ := hr b (.inLoop c :: kk) cs
   cases e with
   | normal =>
    obtain ⟨m', hm, hI'⟩ := hQ
    obtain ⟨e3, a3, w3, hq3, harr3⟩ := ih m' hm F2 σ2 E2 a2 hS2 hF2 (hx1.trans hx2) hI'
    exact ⟨e3, a3, w3, hq3, .of_steps (Steps.trans harr (.one step_inLoop)) harr3⟩
   | exit i => exact ⟨_, a2, E2.w, ⟨E2, F2, σ2, rfl, hS2, hF2, hx1.trans hx2, hQ⟩, .pass (x := .inLoop c) rfl (fun _ _ => .inl (by simp)) harr⟩
   | goto l => exact ⟨_, a2, E2.w, ⟨E2, F2, σ2, rfl, hS2, hF2, hx1.trans hx2, hQ⟩, .pass (x := .inLoop c) rfl (fun _ _ => .inl (by simp)) harr⟩
   | ret => exact ⟨_, a2, E2.w, ⟨E2, F2, σ2, rfl, hS2, hF2, hx1.trans hx2, hQ⟩, .pass (x := .inLoop c) rfl (fun _ _ => .inl (by simp)) harr⟩
   | panic ch => exact ⟨_, a2, E2.w, ⟨E2, F2, σ2, rfl, hS2, hF2, hx1.trans hx2, hQ⟩, .pass (x := .inLoop c) rfl (fun _ _ => .inl (by simp)) harr⟩
   | outgrown => exact ⟨_, a2, E2.w, ⟨E2, F2, σ2, rfl, hS2, hF2, hx1.trans hx2, hQ⟩, .pass (x := .inLoop c) rfl (fun _ _ => .inl (by simp)) harr⟩
 obtain ⟨e, a', w', hq, harr⟩ := key m F σ E a hS hF (ExtK.refl E hk0) h0
 exact ⟨e, a', w', hq, .of_steps (.one step_loop) harr⟩
def fr (l : List AV) : Fr := fun t => l.getD t .u
def Keeps (F : Fr) : Nat → List AV → Prop
 | _, [] => True
 | i, a :: l => F i = a ∧ Keeps F (i + 1) l
theorem Keeps.get {F : Fr} {l : List AV} : ∀ {i : Nat}, Keeps F i l → ∀ j, j < l.length → F (i + j) = l.getD j .u := by
 induction l with
 | nil => intro i _ j hj; simp at hj
 | cons a l ih =>
  intro i h j hj
  cases j with
  | zero => exact h.1
  | succ j =>
   have := ih h.2 j (by simpa using hj)
   rw [show i + (j + 1) = i + 1 + j by omega, this]
   simp
theorem FR.keep {E : Env} {F : Fr} {a : Act} (h : FR E n F a) {l : List AV} (hl : Keeps F 0 l) : FR E n (fr l) a := by
 refine ⟨h.size, h.defers, fun t => ?_⟩
 by_cases ht : t < l.length
 · have := hl.get t ht
   rw [Nat.zero_add] at this
   unfold fr
   rw [← this]; exact h.tmps t
 · unfold fr
   rw [List.getD_eq_getElem?_getD, List.getElem?_eq_none (Nat.le_of_not_lt ht)]
   exact .u _
def opsWp (P : Program) (n k : Nat) (ops : Array Oper) (l : List Oper) (Q : Exit → Fr → Store → Prop) (F : Fr) (σ : Store) : Prop :=
 ∀ E a, k ≤ E.n → SR E σ → FR E n F a → wpList P ops (post n k Q E) l a E.w
theorem awp_region {id : Nat} {l : List Oper} (h : opsWp P n k l.toArray l Q F σ) : awp P n k (.region id l.toArray false) Q F σ :=
 fun E a hk hS hF => wp_region_lit (h E a hk hS hF)
theorem zb {ops : Array Oper} (h : Q .normal F σ) : opsWp P n k ops [] Q F σ := fun E a hk hS hF => ⟨E, F, σ, rfl, hS, hF, ExtK.refl E hk, h⟩
theorem wpList_post {ops : Array Oper} {E E' : Env} (hx : ExtK k E E') : ∀ (l : List Oper) (a : Act) (w : World), wpList P ops (post n k Q E') l a w → wpList P ops (post n k Q E) l a w := by
 have mono : ∀ (o : Oper) (K K' : Act → World → Prop) (a : Act) (w : World), (∀ a w, K a w → K' a w) → o.wp P a w K (post n k Q E') → o.wp P a w K' (post n k Q E) := by
  intro o K K' a w hK h
  unfold Oper.wp at *
  generalize (execOp a.eval o).run P w = r at *
  cases r with
  | ok x w' =>
   cases x <;> simp only [Oper.upon] at h ⊢
   case value v => exact hK _ _ h
   case skip => exact hK _ _ h
   case defer d => exact hK _ _ h
   case enter f args =>
    refine h.mono fun e w'' he => ?_
    cases e with
    | returned v => exact hK _ _ he
    | panicked c => exact post_trans hx he
    | outgrown => obtain ⟨a, w, hp⟩ := he; exact ⟨a, w, post_trans hx hp⟩
   case row row args => exact h.mono fun v w'' he => hK _ _ he
  | halt x w' =>
   cases x <;> simp only [Oper.upon] at h ⊢
   case panic v => exact post_trans hx h
 intro l
 induction l with
 | nil => intro a w h; exact post_trans hx h
 | cons o l ih =>
  intro a w h
  unfold wpList at h ⊢
  split
  · rename_i hw
    rw [if_pos hw] at h
    rcases h with h | ⟨h1, a', w', h2⟩
    · exact .inl (mono o _ _ a w (fun a w => ih a w) h)
    · exact .inr ⟨h1, a', w', post_trans hx h2⟩
  · rename_i hw
    rw [if_neg hw] at h
    exact ih _ _ h
def guardA (ops : Array Oper) (F : Fr) (o : Oper) : Option Bool :=
 match o.guard with
 | none => some true
 | some (j, want) => match (ops[j]?).bind (·.dst) with
  | some t => match F t with
   | .bool b => some (b == want)
   | .tup _ => some false
   | _ => none
  | none => none
theorem guardA_wanted {E : Env} {a : Act} {ops : Array Oper} {o : Oper} {b : Bool} (hF : FR E n F a) (h : guardA ops F o = some b) : Region.wanted o (yielded ops a.tmps) = b := by
 unfold guardA at h
 unfold Region.wanted
 split at h
 · rename_i hg; cases h; simp only [hg]
 · rename_i j want hg
   simp only [hg]
   split at h
   · rename_i t ht
     split at h
     · rename_i q hq
       cases h
       have hv := hF.tmps t
       rw [hq] at hv
       have : yielded ops a.tmps j = some q := by
        unfold yielded
        rw [ht]
        generalize hx : a.tmps.getD t undef = x at hv
        cases hv
        have hlt : t < a.tmps.size := by
         rcases Nat.lt_or_ge t a.tmps.size with h | h
         · exact h
         · rw [Array.getD_eq_getD_getElem?, Array.getElem?_eq_none h] at hx; cases hx
        rw [Array.getD_eq_getD_getElem?, Array.getElem?_eq_getElem hlt] at hx
        simp only [Option.getD_some] at hx
        simp only [Option.bind_some, Array.getElem?_eq_getElem hlt, hx]
       rw [this]
       cases q <;> cases want <;> rfl
     · rename_i l hq
       cases h
       have hv := hF.tmps t
       rw [hq] at hv
       have : yielded ops a.tmps j = none := by
        unfold yielded
        rw [ht]
        generalize hx : a.tmps.getD t undef = x at hv
        cases hv with | tup _ vs _ _ =>
        rcases Nat.lt_or_ge t a.tmps.size with h | h
        · rw [Array.getD_eq_getD_getElem?, Array.getElem?_eq_getElem h] at hx
          simp only [Option.getD_some] at hx
          simp only [Option.bind_some, Array.getElem?_eq_getElem h, hx]
        · simp only [Option.bind_some, Array.getElem?_eq_none h]
       rw [this]; rfl
     · cases h
   · cases h
theorem opsWp_skip {ops : Array Oper} {o : Oper} {l : List Oper} (hg : guardA ops F o = some false) (hd : ∀ t, o.dst = some t → t < n) (h : opsWp P n k ops l Q (updO F o.dst (.tup [])) σ) : opsWp P n k ops (o :: l) Q F σ := by
 intro E a hk hS hF
 unfold wpList
 rw [if_neg (by rw [guardA_wanted hF hg]; simp)]
 exact h E _ hk hS (hF.put hd (.tup [] #[] rfl (fun i h => absurd h (by simp))))
theorem op_wp {T : TT} (hT : TOK P T) {o : Oper} {r : AV} {σ' : Store} (h : evOp T o.op (ev F) σ = some (r, σ')) (hd : ∀ t, o.dst = some t → t < n) {E : Env} {a : Act} (hS : SR E σ) (hF : FR E n F a) {next : Act → World → Prop} {Qc : Exit → Act → World → Prop}
 (hn : ∀ E' a', SR E' σ' → FR E' n (updO F o.dst r) a' → Ext E E' → next a' E'.w) : o.wp P a E.w next Qc := by
 obtain ⟨E', h1, h2, h3⟩ := run_evOp hT hS (o := o) (fun x => hF.ev x) h
 unfold Oper.wp
 rcases h3 with ⟨cv, h4, h5⟩ | ⟨h4, h5⟩
 · rw [h4]
   exact hn E' _ h1 ((hF.ext h2).put hd h5) h2
 · subst h5
   rw [h4]
   exact hn E' _ h1 ((hF.ext h2).putU _ _ hd) h2
theorem opsWp_op {T : TT} (hT : TOK P T) {ops : Array Oper} {o : Oper} {l : List Oper} {r : AV} {σ' : Store} (hg : guardA ops F o = some true) (h : evOp T o.op (ev F) σ = some (r, σ')) (hd : ∀ t, o.dst = some t → t < n)
 (kk : opsWp P n k ops l Q (updO F o.dst r) σ') : opsWp P n k ops (o :: l) Q F σ := by
 intro E a hk hS hF
 unfold wpList
 rw [if_pos (guardA_wanted hF hg)]
 exact .inl (op_wp hT h hd hS hF fun E' a' h1 h2 h3 => wpList_post (h3.mono hk) l a' E'.w (kk E' a' (Nat.le_trans hk h3.n) h1 h2))
def callee (F : Fr) (o : Oper) : Option (FuncId × List AV) :=
 match o.op with
 | .call { callee := .value f, args := args, argTypes := _ } => match ev F f with
  | .fn (.func g) first cap => some (g, first ++ args.toList.map (ev F) ++ cap)
  | _ => none
 | _ => none
theorem toList_getD (a : Array Value) (i : Nat) : a.toList.getD i undef = a.getD i undef := by
 rw [List.getD_eq_getElem?_getD, Array.getElem?_toList, Array.getD_eq_getD_getElem?]
theorem listR_append {E : Env} {l m : List AV} {vs ws : Array Value} (h : ListR E l vs.toList) (k : ListR E m ws.toList) : ListR E (l ++ m) (vs ++ ws).toList := by
 obtain ⟨a1, a2⟩ := h.arr
 obtain ⟨b1, b2⟩ := k.arr
 have := told_append (E := E) (vs := vs) (ws := ws) ⟨a1, a2⟩ ⟨b1, b2⟩
 refine ⟨by simpa using this.1, fun i hi => ?_⟩
 rw [toList_getD]
 exact this.2 i hi
theorem listR_of {E : Env} {l : List AV} {vs : Array Value} (h : vs.size = l.length) (k : ∀ i, i < l.length → VR E (gc l i) (vs.getD i undef)) : ListR E l vs.toList :=
 ⟨by simpa using h, fun i hi => by have := k i hi; simpa using this⟩
theorem call_wp {o : Oper} {f : FuncId} {args : List AV} {R : AV → Store → Prop} (hc : callee F o = some (f, args)) (h : ACalls P f args σ R) (hd : ∀ t, o.dst = some t → t < n) {E : Env} {a : Act} (hS : SR E σ) (hF : FR E n F a)
 {next : Act → World → Prop} {Qc : Exit → Act → World → Prop} (hn : ∀ E' a' r σ', SR E' σ' → FR E' n (updO F o.dst r) a' → Ext E E' → R r σ' → next a' E'.w) : o.wp P a E.w next Qc := by
 obtain ⟨dst, op, ty, pos, after, guard⟩ := o
 unfold callee at hc
 simp only at hc
 split at hc
 · rename_i fo ao ats
   split at hc
   · rename_i g first cap hfo
     cases hc
     have hv := hF.ev fo
     rw [hfo] at hv
     generalize hfv : a.eval fo = fv at hv
     cases hv with | fn _ _ _ vf vc h1 h2 h3 h4 =>
     have hargs := listR_append (listR_append (listR_of h1 h3) (list_ev (fun x => hF.ev x) ao)) (listR_of h2 h4)
     unfold Oper.wp
     have hrun : (execOp a.eval { dst := dst, op := .call { callee := .value fo, args := ao, argTypes := ats }, type := ty, pos := pos, after := after, guard := guard }).run P E.w = .ok (.enter f (vf ++ ao.map a.eval ++ vc)) E.w := by
      simp only [execOp, resolve, hfv, Deferred.ofValue, Sem.run_bind, Sem.run_pure, Result.andThen_ok, invoke]
      exact h.1 _ _
     rw [hrun]
     refine (h.2 E _ hS hargs).mono ?_
     rintro e w' ⟨v, r, σ', E', rfl, rfl, h5, h6, h7, h8⟩
     exact hn E' _ r σ' h6 ((hF.ext h7).put hd h5) h7 h8
   · cases hc
 · cases hc
theorem opsWp_call {ops : Array Oper} {o : Oper} {l : List Oper} {f : FuncId} {args : List AV} {R : AV → Store → Prop} (hg : guardA ops F o = some true) (hc : callee F o = some (f, args)) (h : ACalls P f args σ R) (hd : ∀ t, o.dst = some t → t < n)
 (kk : ∀ r σ', R r σ' → opsWp P n k ops l Q (updO F o.dst r) σ') : opsWp P n k ops (o :: l) Q F σ := by
 intro E a hk hS hF
 unfold wpList
 rw [if_pos (guardA_wanted hF hg)]
 exact .inl (call_wp hc h hd hS hF fun E' a' r σ' h1 h2 h3 h4 => wpList_post (h3.mono hk) l a' E'.w (kk r σ' h4 E' a' (Nat.le_trans hk h3.n) h1 h2))
def isCall (o : Oper) : Bool :=
 match o.op with
 | .call { callee := .builtin _, args := _, argTypes := _ } => false
 | .call _ => true
 | _ => false
def dstOk (n : Nat) : Option Tmp → Bool
 | some t => decide (t < n)
 | none => true
theorem dstOk_lt {d : Option Tmp} (h : dstOk n d = true) : ∀ t, d = some t → t < n := by
 intro t ht; subst ht; simpa [dstOk] using h
def evOps (T : TT) (n : Nat) (ops : Array Oper) : List Oper → Fr → Store → Option (List Oper × Fr × Store)
 | [], F, σ => some ([], F, σ)
 | o :: l, F, σ =>
  match guardA ops F o with
  | some true => bif isCall o then some (o :: l, F, σ) else
   bif dstOk n o.dst then
    match evOp T o.op (ev F) σ with
    | some (r, σ') => evOps T n ops l (updO F o.dst r) σ'
    | none => none
   else none
  | some false => bif dstOk n o.dst then evOps T n ops l (updO F o.dst (.tup [])) σ else none
  | none => none
theorem opsWp_run {T : TT} (hT : TOK P T) {ops : Array Oper} : ∀ {l l' : List Oper} {F F' : Fr} {σ σ' : Store}, evOps T n ops l F σ = some (l', F', σ') → opsWp P n k ops l' Q F' σ' → opsWp P n k ops l Q F σ := by
 intro l
 induction l with
 | nil => intro l' F F' σ σ' h kk; cases h; exact kk
 | cons o l ih =>
  intro l' F F' σ σ' h kk
  simp only [evOps] at h
  split at h
  · rename_i hg
    cases hc : isCall o with
    | true => rw [hc] at h; cases h; exact kk
    | false =>
     rw [hc] at h
     simp only [cond_false] at h
     cases hdk : dstOk n o.dst with
     | false => rw [hdk] at h; cases h
     | true =>
      rw [hdk] at h
      simp only [cond_true] at h
      split at h
      · rename_i r σ1 he
        exact opsWp_op hT hg he (dstOk_lt hdk) (ih h kk)
      · cases h
  · rename_i hg
    cases hdk : dstOk n o.dst with
    | false => rw [hdk] at h; cases h
    | true =>
     rw [hdk] at h
     exact opsWp_skip hg (dstOk_lt hdk) (ih h kk)
  · cases h
theorem zf {ops : Array Oper} {o : Oper} {l : List Oper} {f : FuncId} {args : List AV} {R : AV → Store → Prop} (hg : guardA ops F o = some true) (hc : callee F o = some (f, args)) (hd : dstOk n o.dst = true) (h : ACalls P f args σ R)
 (kk : ∀ r σ', R r σ' → opsWp P n k ops l Q (updO F o.dst r) σ') : opsWp P n k ops (o :: l) Q F σ := opsWp_call hg hc h (dstOk_lt hd) kk
end rules
end AM
end Go.Proofs.YtaddlmlpeghonaaDoor
