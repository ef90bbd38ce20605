/- The abstract machine: regions whose order is open, reckoned in the order of the text: the rules that proofs use. -/
import Derived.Test.YtplddidoobjcnaaAm
set_option linter.unusedSimpArgs false
set_option linter.unusedVariables false
set_option linter.constructorNameAsVariable false
namespace Go.Proofs.Ytplddidoobjcnaa
namespace AM
open Go.RowKit

/-- Does what an operation yields hang on the store? -/
def memFree (o : Op) : Bool :=
  match o with
  | .move _ | .assign _ | .pick .. | .build .. | .nilCheck _ | .binOp .. | .unOp .. | .makeInterface .. | .makeFunc .. | .slice .. | .fieldAddr .. | .field .. | .indexAddr .. | .index .. | .typeAssert .. | .extract .. => true
  | _ => false

theorem memFree_any {T : TT} {o : Op} {ρ : Operand → AV} {σ σ' : Store} {r : AV} (h : evOp T o ρ σ = some (r, σ')) (hm : memFree o = true) (τ : Store) : evOp T o ρ τ = some (r, τ) := by
  have key : ∀ x : Option AV, pureR σ x = some (r, σ') → pureR τ x = some (r, τ) := by
    intro x hx; rw [(pureR_some hx).1]; rfl
  cases o <;> simp only [memFree, Bool.false_eq_true] at hm <;> simp only [evOp, Option.some.injEq, Prod.mk.injEq] at h ⊢
  all_goals first
    | exact key _ h
    | exact ⟨h.1, trivial⟩

/-- What is claimed of an operation: it changes the store; it yields the same from every store; or from the store it finds in the text's order and from those so many effects back. -/
inductive EK where
  | eff
  | any
  | at (bs : List Nat)

def stabs (T : TT) (o : Op) (ρ : Operand → AV) (r : AV) (Ss : List Store) : List Nat → Prop
  | [] => True
  | b :: bs => (∃ τ, Ss[b]? = some τ ∧ evOp T o ρ τ = some (r, τ)) ∧ stabs T o ρ r Ss bs

/-- Operations in the text's order, as far as the next call; the stores and what was yielded, newest first; what must hold besides. -/
def evD (T : TT) (n : Nat) (ops : Array Oper) : List Oper → List EK → Fr → List Store → List AV → Prop → Option (List Oper × List EK × Fr × List Store × List AV × Prop)
  | [], es, F, Ss, rs, C => some ([], es, F, Ss, rs, C)
  | o :: l, e :: es, F, σ :: Ss, rs, C =>
    match guardA ops F o with
    | some true => bif isCall o then some (o :: l, e :: es, F, σ :: Ss, rs, C) else
      bif dstOk n o.dst then
        match evOp T o.op (ev F) σ with
        | some (r, σ') => match e with
          | .eff => evD T n ops l es (updO F o.dst r) (σ' :: σ :: Ss) (r :: rs) C
          | .any => bif memFree o.op then evD T n ops l es (updO F o.dst r) (σ :: Ss) (r :: rs) C else evD T n ops l es (updO F o.dst r) (σ :: Ss) (r :: rs) (C ∧ ∀ τ, evOp T o.op (ev F) τ = some (r, τ))
          | .at bs => evD T n ops l es (updO F o.dst r) (σ :: Ss) (r :: rs) (C ∧ σ' = σ ∧ stabs T o.op (ev F) r (σ :: Ss) bs)
        | none => none
      else none
    | some false => bif dstOk n o.dst then
      match e with
      | .eff => evD T n ops l es (updO F o.dst .u) (σ :: σ :: Ss) (.u :: rs) C
      | _ => evD T n ops l es (updO F o.dst .u) (σ :: Ss) (.u :: rs) C
      else none
    | none => none
  | _ :: _, _, _, _, _, _ => none

/-- The frame behind so many operations. -/
def foldU : List Oper → List AV → Fr → Fr
  | o :: l, r :: rs, F => foldU l rs (updO F o.dst r)
  | _, _, F => F

def kOf (es : List EK) (i : Nat) : EK := es.getD i .any

def isE (es : List EK) (i : Nat) : Bool :=
  match kOf es i with
  | .eff => true
  | _ => false

/-- The claims cover every order. -/
def chkD (ops : List Oper) (es : List EK) : Bool :=
  chkAll ops (isE es) && (List.range ops.length).all fun j => match kOf es j with
    | .at bs => (List.range (cnt (isE es) ops.length + 1)).all fun k => !meets ops (isE es) j k || k == cnt (isE es) j || bs.any fun b => k + b == cnt (isE es) j
    | _ => true

section
variable {P : Program} {n : Nat} {Q : Exit → Fr → Store → Prop}

def PureFact (T : TT) (ops : List Oper) (es : List EK) (i : Nat) (o : Oper) (F : Fr) (r : AV) (S : Nat → Store) : Prop :=
  (guardA ops.toArray F o = some false ∧ r = .u) ∨
  (guardA ops.toArray F o = some true ∧ match kOf es i with
    | .at bs => ∀ k, (k = cnt (isE es) i ∨ ∃ b ∈ bs, k + b = cnt (isE es) i) → evOp T o.op (ev F) (S k) = some (r, S k)
    | _ => ∀ τ, evOp T o.op (ev F) τ = some (r, τ))

theorem PureFact.congr {T : TT} {ops : List Oper} {es : List EK} {i : Nat} {o : Oper} {F : Fr} {r : AV} {S S' : Nat → Store} (h : PureFact T ops es i o F r S) (hS : ∀ k, k ≤ cnt (isE es) i → S' k = S k) : PureFact T ops es i o F r S' := by
  rcases h with h | ⟨h1, h2⟩
  · exact .inl h
  · refine .inr ⟨h1, ?_⟩
    generalize kOf es i = q at h2
    cases q with
    | eff => exact h2
    | any => exact h2
    | «at» bs =>
      intro k hk
      rw [hS k (by rcases hk with h | ⟨b, _, h⟩ <;> omega)]
      exact h2 k hk

/-- The stores, by the number of effects behind them. -/
def stk (Ss : List Store) (k : Nat) : Store := Ss.reverse.getD k []

theorem stk_cons {Ss : List Store} {σ : Store} {k : Nat} (h : k < Ss.length) : stk (σ :: Ss) k = stk Ss k := by
  unfold stk
  rw [List.reverse_cons, List.getD_eq_getElem?_getD, List.getElem?_append_left (by rw [List.length_reverse]; exact h), ← List.getD_eq_getElem?_getD]

theorem stk_top {Ss : List Store} {σ : Store} {k : Nat} (h : k = Ss.length) : stk (σ :: Ss) k = σ := by
  unfold stk
  rw [List.reverse_cons, List.getD_eq_getElem?_getD, List.getElem?_append_right (by simp [h])]
  subst h; simp

theorem stk_back {Ss : List Store} {b k : Nat} {τ : Store} (h : Ss[b]? = some τ) (hk : k + b + 1 = Ss.length) : stk Ss k = τ := by
  unfold stk
  rw [List.getD_eq_getElem?_getD, List.getElem?_reverse (by omega), show Ss.length - 1 - k = b by omega, h]; rfl

def nth (rs : List AV) (i : Nat) : AV := rs.reverse.getD i .u

theorem nth_cons {rs : List AV} {r : AV} {i : Nat} (h : i < rs.length) : nth (r :: rs) i = nth rs i := by
  unfold nth
  rw [List.reverse_cons, List.getD_eq_getElem?_getD, List.getElem?_append_left (by rw [List.length_reverse]; exact h), ← List.getD_eq_getElem?_getD]

theorem nth_top {rs : List AV} {r : AV} {i : Nat} (h : i = rs.length) : nth (r :: rs) i = r := by
  unfold nth
  rw [List.reverse_cons, List.getD_eq_getElem?_getD, List.getElem?_append_right (by simp [h])]
  subst h; simp

def frs (ops : List Oper) (rs : List AV) (F : Fr) (i : Nat) : Fr := foldU (ops.take i) (rs.reverse.take i) F

theorem frs_cons {ops : List Oper} {rs : List AV} {F : Fr} {r : AV} {i : Nat} (h : i ≤ rs.length) : frs ops (r :: rs) F i = frs ops rs F i := by
  unfold frs
  rw [List.reverse_cons, List.take_append_of_le_length (by simpa using h)]

theorem foldU_snoc : ∀ (l : List Oper) (rs : List AV) (F : Fr) (o : Oper) (r : AV), rs.length = l.length → foldU (l ++ [o]) (rs ++ [r]) F = updO (foldU l rs F) o.dst r := by
  intro l
  induction l with
  | nil => intro rs F o r h; have : rs = [] := List.length_eq_zero_iff.1 h; subst this; rfl
  | cons x l ih =>
    intro rs F o r h
    cases rs with
    | nil => simp at h
    | cons y rs => exact ih rs _ o r (by simpa using h)

theorem take_snoc' {α : Type} {l : List α} {j : Nat} {x : α} (h : l[j]? = some x) : l.take (j + 1) = l.take j ++ [x] := by
  rw [List.take_add_one, h]; rfl

theorem frs_step {ops : List Oper} {rs : List AV} {F : Fr} {o : Oper} (ho : ops[rs.length]? = some o) (r : AV) : frs ops (r :: rs) F (rs.length + 1) = updO (frs ops rs F rs.length) o.dst r := by
  have hjl : rs.length < ops.length := (List.getElem?_eq_some_iff.1 ho).1
  unfold frs
  have e1 : (rs.reverse ++ [r]).take (rs.length + 1) = rs.reverse ++ [r] := List.take_of_length_le (by simp)
  have e2 : rs.reverse.take rs.length = rs.reverse := List.take_of_length_le (by simp)
  rw [take_snoc' ho, List.reverse_cons, e1, e2]
  exact foldU_snoc _ _ _ _ _ (by simp; omega)

/-- What is known behind the operations before place j: their facts, in the text's order. -/
structure Past (P : Program) (n : Nat) (T : TT) (ops : List Oper) (es : List EK) (F0 : Fr) (σ0 : Store) (j : Nat) (F : Fr) (Ss : List Store) (rs : List AV) : Prop where
  len : rs.length = j
  lenS : Ss.length = cnt (isE es) j + 1
  first : stk Ss 0 = σ0
  frame : F = frs ops rs F0 j
  dst : ∀ i o, i < j → ops[i]? = some o → dstOk n o.dst = true
  eff : ∀ i o, i < j → ops[i]? = some o → isE es i = true → SF P n ops o (frs ops rs F0 i) (stk Ss (cnt (isE es) i)) (nth rs i) (stk Ss (cnt (isE es) i + 1))
  pure : ∀ i o, i < j → ops[i]? = some o → isE es i = false → PureFact T ops es i o (frs ops rs F0 i) (nth rs i) (stk Ss)

theorem Past.start (T : TT) (ops : List Oper) (es : List EK) (F0 : Fr) (σ0 : Store) : Past P n T ops es F0 σ0 0 F0 [σ0] [] where
  len := rfl
  lenS := rfl
  first := rfl
  frame := rfl
  dst := fun i o h => by omega
  eff := fun i o h => by omega
  pure := fun i o h => by omega

/-- One operation more. -/
theorem Past.step {T : TT} {ops : List Oper} {es : List EK} {F0 : Fr} {σ0 : Store} {j : Nat} {F : Fr} {σ : Store} {Ss : List Store} {rs : List AV} (h : Past P n T ops es F0 σ0 j F (σ :: Ss) rs) {o : Oper} (ho : ops[j]? = some o) (hd : dstOk n o.dst = true) {r : AV} {Ss' : List Store}
    (he : isE es j = true → ∃ σ', Ss' = σ' :: σ :: Ss ∧ SF P n ops o F σ r σ')
    (hp : isE es j = false → Ss' = σ :: Ss ∧ PureFact T ops es j o F r (stk (σ :: Ss))) :
    Past P n T ops es F0 σ0 (j + 1) (updO F o.dst r) Ss' (r :: rs) := by
  have hlen := h.len
  have hlS := h.lenS
  simp only [List.length_cons] at hlS
  have hcur : stk (σ :: Ss) (cnt (isE es) j) = σ := stk_top (by omega)
  have hS : ∀ k, k ≤ cnt (isE es) j → stk Ss' k = stk (σ :: Ss) k := by
    intro k hk
    cases hej : isE es j with
    | true =>
      obtain ⟨σ', e1, _⟩ := he hej
      rw [e1]; exact stk_cons (by simp; omega)
    | false => rw [(hp hej).1]
  subst hlen
  refine ⟨rfl, ?_, ?_, ?_, fun i p hi hpp => ?_, fun i p hi hpp hei => ?_, fun i p hi hpp hei => ?_⟩
  · cases hej : isE es rs.length with
    | true => obtain ⟨σ', e1, _⟩ := he hej; rw [e1]; simp only [cnt, hej, if_true, List.length_cons]; omega
    | false => rw [(hp hej).1]; simp only [cnt, hej, List.length_cons]; simp; omega
  · rw [hS 0 (Nat.zero_le _)]; exact h.first
  · rw [frs_step ho, ← h.frame]
  · by_cases e : i = rs.length
    · subst e; rw [ho] at hpp; cases hpp; exact hd
    · exact h.dst i p (by omega) hpp
  · by_cases e : i = rs.length
    · subst e
      rw [ho] at hpp; cases hpp
      obtain ⟨σ', e1, e2⟩ := he hei
      rw [frs_cons (Nat.le_refl _), ← h.frame, nth_top rfl, hS _ (Nat.le_refl _), hcur]
      have : stk Ss' (cnt (isE es) rs.length + 1) = σ' := by
        rw [e1]; exact stk_top (by simp; omega)
      rw [this]; exact e2
    · have h1 := h.eff i p (by omega) hpp hei
      have hc : cnt (isE es) i + 1 ≤ cnt (isE es) rs.length := by
        have := cnt_lt (isE es) (show i < rs.length by omega) hei; omega
      rw [frs_cons (by omega), nth_cons (by omega), hS _ (by omega), hS _ hc]
      exact h1
  · by_cases e : i = rs.length
    · subst e
      rw [ho] at hpp; cases hpp
      obtain ⟨e1, e2⟩ := hp hei
      rw [frs_cons (Nat.le_refl _), ← h.frame, nth_top rfl]
      exact e2.congr hS
    · have h1 := h.pure i p (by omega) hpp hei
      have hc := cnt_mono (isE es) (show i ≤ rs.length by omega)
      rw [frs_cons (by omega), nth_cons (by omega)]
      exact h1.congr fun k hk => hS k (by omega)

/-- What is left to be reckoned of a region whose order is open. -/
def DW (P : Program) (n : Nat) (T : TT) (id : Nat) (ops : List Oper) (es : List EK) (F0 : Fr) (σ0 : Store) (Q : Exit → Fr → Store → Prop) (l : List Oper) (es' : List EK) (F : Fr) (Ss : List Store) (rs : List AV) : Prop :=
  (∃ j, ops.drop j = l ∧ es.drop j = es' ∧ Past P n T ops es F0 σ0 j F Ss rs) → awp P n (.region id ops.toArray true) Q F0 σ0

theorem DW.start {T : TT} {id : Nat} {ops : List Oper} (es : List EK) {F0 : Fr} {σ0 : Store} (h : DW P n T id ops es F0 σ0 Q ops es F0 [σ0] []) : awp P n (.region id ops.toArray true) Q F0 σ0 :=
  h ⟨0, rfl, rfl, Past.start T ops es F0 σ0⟩

theorem drop_cons {α : Type} {l : List α} {j : Nat} {x : α} {m : List α} (h : l.drop j = x :: m) : l[j]? = some x ∧ l.drop (j + 1) = m := by
  constructor
  · have := List.getElem?_drop (xs := l) (i := j) (j := 0)
    rw [h] at this; simpa using this.symm
  · have := List.drop_drop (i := 1) (j := j) (l := l)
    rw [h] at this; simpa using this.symm

theorem isE_of {es es' : List EK} {j : Nat} {e : EK} (h : es.drop j = e :: es') : kOf es j = e := by
  have := (drop_cons h).1
  simp [kOf, List.getD_eq_getElem?_getD, this]

theorem stabs_spec {T : TT} {o : Op} {ρ : Operand → AV} {r : AV} {Ss : List Store} : ∀ {bs : List Nat}, stabs T o ρ r Ss bs → ∀ b ∈ bs, ∃ τ, Ss[b]? = some τ ∧ evOp T o ρ τ = some (r, τ) := by
  intro bs
  induction bs with
  | nil => intro _ b hb; cases hb
  | cons c bs ih =>
    intro h b hb
    rcases List.mem_cons.1 hb with rfl | hb
    · exact h.1
    · exact ih h.2 b hb

/-- What a batch of operations has come to. -/
def RunD (x : Option (List Oper × List EK × Fr × List Store × List AV × Prop)) (K : List Oper → List EK → Fr → List Store → List AV → Prop) : Prop :=
  match x with
  | some (l, es, F, Ss, rs, C) => C ∧ K l es F Ss rs
  | none => False

theorem RunD_some (l : List Oper) (es : List EK) (F : Fr) (Ss : List Store) (rs : List AV) (C : Prop) (K : List Oper → List EK → Fr → List Store → List AV → Prop) : RunD (some (l, es, F, Ss, rs, C)) K = (C ∧ K l es F Ss rs) := rfl

theorem evD_past {T : TT} (hT : TOK P T) {ops : List Oper} {es : List EK} {F0 : Fr} {σ0 : Store} : ∀ (l : List Oper) (es' : List EK) (F : Fr) (Ss : List Store) (rs : List AV) (C : Prop) (l' : List Oper) (es'' : List EK) (F' : Fr) (Ss' : List Store) (rs' : List AV) (C' : Prop),
    evD T n ops.toArray l es' F Ss rs C = some (l', es'', F', Ss', rs', C') → C' → C ∧ ((∃ j, ops.drop j = l ∧ es.drop j = es' ∧ Past P n T ops es F0 σ0 j F Ss rs) → ∃ j, ops.drop j = l' ∧ es.drop j = es'' ∧ Past P n T ops es F0 σ0 j F' Ss' rs') := by
  intro l
  induction l with
  | nil => intro es' F Ss rs C l' es'' F' Ss' rs' C' h hC; simp only [evD] at h; cases h; exact ⟨hC, id⟩
  | cons o l ih =>
    intro es' F Ss rs C l' es'' F' Ss' rs' C' h hC
    cases es' with
    | nil => simp [evD] at h
    | cons e es' =>
    cases Ss with
    | nil => simp [evD] at h
    | cons σ Ss =>
    simp only [evD] at h
    have next : ∀ (r : AV) (Ss1 : List Store), dstOk n o.dst = true → (e = .eff → ∃ σ', Ss1 = σ' :: σ :: Ss ∧ SF P n ops o F σ r σ') → (e ≠ .eff → Ss1 = σ :: Ss ∧ ∀ j, es.drop j = e :: es' → cnt (isE es) j = Ss.length → PureFact T ops es j o F r (stk (σ :: Ss))) →
        (∃ j, ops.drop j = o :: l ∧ es.drop j = e :: es' ∧ Past P n T ops es F0 σ0 j F (σ :: Ss) rs) → ∃ j, ops.drop j = l ∧ es.drop j = es' ∧ Past P n T ops es F0 σ0 j (updO F o.dst r) Ss1 (r :: rs) := by
      rintro r Ss1 hd h1 h2 ⟨j, e1, e2, e3⟩
      have hk := isE_of e2
      refine ⟨j + 1, (drop_cons e1).2, (drop_cons e2).2, e3.step (drop_cons e1).1 hd (fun hE => ?_) (fun hE => ?_)⟩
      · refine h1 ?_
        simp only [isE, hk] at hE
        split at hE
        · rfl
        · cases hE
      · have hne : e ≠ .eff := by rintro rfl; simp [isE, hk] at hE
        have := e3.lenS
        simp only [List.length_cons] at this
        exact ⟨(h2 hne).1, (h2 hne).2 j e2 (by omega)⟩
    split at h
    · rename_i hg
      rw [Bool.cond_eq_ite] at h
      split at h
      · cases h; exact ⟨hC, id⟩
      · rw [Bool.cond_eq_ite] at h
        split at h
        case isFalse => cases h
        rename_i hd
        split at h
        case h_2 => cases h
        rename_i r σ' hr
        split at h
        · obtain ⟨h1, h2⟩ := ih _ _ _ _ _ _ _ _ _ _ _ h hC
          exact ⟨h1, fun hj => h2 (next r _ hd (fun _ => ⟨σ', rfl, SF.op hT hg hr⟩) (fun hne => absurd rfl hne) hj)⟩
        · rw [Bool.cond_eq_ite] at h
          split at h
          · rename_i hm
            obtain ⟨h1, h2⟩ := ih _ _ _ _ _ _ _ _ _ _ _ h hC
            refine ⟨h1, fun hj => h2 (next r _ hd (fun e => by cases e) (fun _ => ⟨rfl, fun j hj _ => .inr ⟨hg, ?_⟩⟩) hj)⟩
            rw [isE_of hj]
            exact fun τ => memFree_any hr hm τ
          · obtain ⟨⟨h1, h3⟩, h2⟩ := ih _ _ _ _ _ _ _ _ _ _ _ h hC
            refine ⟨h1, fun hj => h2 (next r _ hd (fun e => by cases e) (fun _ => ⟨rfl, fun j hj _ => .inr ⟨hg, ?_⟩⟩) hj)⟩
            rw [isE_of hj]
            exact h3
        · rename_i bs
          obtain ⟨⟨h1, h3, h4⟩, h2⟩ := ih _ _ _ _ _ _ _ _ _ _ _ h hC
          refine ⟨h1, fun hj => h2 (next r _ hd (fun e => by cases e) (fun _ => ⟨rfl, fun j hj hc => .inr ⟨hg, ?_⟩⟩) hj)⟩
          rw [isE_of hj]
          rintro k (hk | ⟨b, hb, hk⟩)
          · rw [stk_top (by omega)]; rw [h3] at hr; exact hr
          · obtain ⟨τ, e1, e2⟩ := stabs_spec h4 b hb
            rw [stk_back e1 (by simp; omega)]; exact e2
    · rename_i hg
      rw [Bool.cond_eq_ite] at h
      split at h
      case isFalse => cases h
      rename_i hd
      split at h
      · obtain ⟨h1, h2⟩ := ih _ _ _ _ _ _ _ _ _ _ _ h hC
        exact ⟨h1, fun hj => h2 (next .u _ hd (fun _ => ⟨σ, rfl, SF.skip hg⟩) (fun hne => absurd rfl hne) hj)⟩
      · rename_i hne
        obtain ⟨h1, h2⟩ := ih _ _ _ _ _ _ _ _ _ _ _ h hC
        exact ⟨h1, fun hj => h2 (next .u _ hd (fun e => absurd e hne) (fun _ => ⟨rfl, fun j hj _ => .inl ⟨hg, rfl⟩⟩) hj)⟩
    · cases h

/-- A batch of operations, as far as the next call. -/
theorem DW.run {T : TT} (hT : TOK P T) {id : Nat} {ops : List Oper} {es : List EK} {F0 : Fr} {σ0 : Store} {l : List Oper} {es' : List EK} {F : Fr} {Ss : List Store} {rs : List AV}
    (h : RunD (evD T n ops.toArray l es' F Ss rs True) fun l' es'' F' Ss' rs' => DW P n T id ops es F0 σ0 Q l' es'' F' Ss' rs') : DW P n T id ops es F0 σ0 Q l es' F Ss rs := by
  intro hp
  unfold RunD at h
  split at h
  · rename_i l' es'' F' Ss' rs' C he
    exact h.2 ((evD_past hT _ _ _ _ _ _ _ _ _ _ _ _ he h.1).2 hp)
  · exact h.elim

/-- A call that answers in one way. -/
theorem DW.call {T : TT} {id : Nat} {ops : List Oper} {es : List EK} {F0 : Fr} {σ0 : Store} {o : Oper} {l : List Oper} {es' : List EK} {F : Fr} {σ : Store} {Ss : List Store} {rs : List AV} {f : FuncId} {args : List AV} {r : AV} {σ' : Store}
    (hg : guardA ops.toArray F o = some true) (hc : callee F o = some (f, args)) (hd : dstOk n o.dst = true) (hf : ACalls P f args σ fun r' s => r' = r ∧ s = σ') (h : DW P n T id ops es F0 σ0 Q l es' (updO F o.dst r) (σ' :: σ :: Ss) (r :: rs)) :
    DW P n T id ops es F0 σ0 Q (o :: l) (.eff :: es') F (σ :: Ss) rs := by
  rintro ⟨j, e1, e2, e3⟩
  have hk := isE_of e2
  exact h ⟨j + 1, (drop_cons e1).2, (drop_cons e2).2, e3.step (drop_cons e1).1 hd (fun _ => ⟨σ', rfl, SF.call hg hc hf⟩) (fun hE => by simp [isE, hk] at hE)⟩

/-- The end of the region. -/
theorem DW.fin {T : TT} (hT : TOK P T) {id : Nat} {ops : List Oper} {es : List EK} (hchk : chkD ops es = true) {F0 : Fr} {σ0 : Store} {es' : List EK} {F : Fr} {σ : Store} {Ss : List Store} {rs : List AV} (hl : rs.length = ops.length) (h : Q .normal F σ) :
    DW P n T id ops es F0 σ0 Q [] es' F (σ :: Ss) rs := by
  rintro ⟨j, e1, e2, e3⟩
  have hj : j = ops.length := by rw [← e3.len, hl]
  subst hj
  simp only [chkD, Bool.and_eq_true] at hchk
  have hlS := e3.lenS
  simp only [List.length_cons] at hlS
  have h0 : frs ops rs F0 0 = F0 := by simp [frs, foldU]
  have := awp_drawn (P := P) (n := n) (Q := Q) (id := id) (ops := ops) (eff := isE es) (F := fun j => frs ops rs F0 j) (r := nth rs) (S := stk (σ :: Ss)) hchk.1 (fun j o ho => ?_) (fun o ho t ht => ?_) (fun j o ho he => e3.eff j o (List.getElem?_eq_some_iff.1 ho).1 ho he) (fun j o ho he k hk hm => ?_) ?_
  · rw [e3.first, h0] at this; exact this
  · -- the frames
    have hjl : j < ops.length := (List.getElem?_eq_some_iff.1 ho).1
    show foldU (ops.take (j + 1)) (rs.reverse.take (j + 1)) F0 = updO (foldU (ops.take j) (rs.reverse.take j) F0) o.dst (nth rs j)
    have hr : rs.reverse[j]? = some (nth rs j) := by
      unfold nth
      rw [List.getD_eq_getElem?_getD, List.getElem?_eq_getElem (by simp; omega)]; rfl
    rw [take_snoc' ho, take_snoc' hr, foldU_snoc _ _ _ _ _ (by simp; omega)]
  · obtain ⟨i, hi, rfl⟩ := List.getElem_of_mem ho
    exact dstOk_lt (e3.dst i _ hi (List.getElem?_eq_getElem hi)) t ht
  · rcases e3.pure j o (List.getElem?_eq_some_iff.1 ho).1 ho he with ⟨h1, h2⟩ | ⟨h1, h2⟩
    · rw [h2]; exact SF.skip h1
    · refine SF.op hT h1 ?_
      have h3 := List.all_eq_true.1 hchk.2 j (by simpa using (List.getElem?_eq_some_iff.1 ho).1)
      generalize kOf es j = q at h2 h3
      cases q with
      | eff => exact h2 _
      | any => exact h2 _
      | «at» bs =>
        have h4 := List.all_eq_true.1 h3 k (by simp; omega)
        simp only [hm, Bool.not_true, Bool.false_or, Bool.or_eq_true, beq_iff_eq, List.any_eq_true] at h4
        exact h2 k h4
  · show Q .normal (frs ops rs F0 ops.length) (stk (σ :: Ss) (cnt (isE es) ops.length))
    rw [stk_top (by omega), ← e3.frame]; exact h

end

end AM
end Go.Proofs.Ytplddidoobjcnaa
