import Derived.Test.YtaddlmlpeghonaaDoorUBm
set_option linter.unusedSimpArgs false
set_option linter.unusedVariables false
set_option linter.constructorNameAsVariable false
namespace Go.Proofs.YtaddlmlpeghonaaDoor
namespace AM
open Go.RowKit
def memFree (o : Op) : Bool :=
 match o with
 | .move _ | .assign _ | .pick .. | .build .. | .nilCheck _ | .binOp .. | .unOp .. | .makeInterface .. | .makeFunc .. | .slice .. | .fieldAddr .. | .field .. | .indexAddr .. | .index .. | .typeAssert .. | .extract .. => true
 | _ => false
theorem memFree_any {T : TT} {o : Op} {ρ : Operand → AV} {σ σ' : Store} {r : AV} (h : evOp T o ρ σ = some (r, σ')) (hm : memFree o = true) (τ : Store) : evOp T o ρ τ = some (r, τ) := by
 have key : ∀ x : Option AV, pureR σ x = some (r, σ') → pureR τ x = some (r, τ) := by
  intro x hx; rw [(pureR_some hx).1]; rfl
 cases o <;> simp only [memFree, Bool.false_eq_true] at hm <;> simp only [evOp, Option.some.injEq, Prod.mk.injEq] at h ⊢
 all_goals first
  | exact key _ h
  | exact ⟨h.1, trivial⟩
inductive EK where
 | eff
 | flt
 | any
 | own (m : Nat) (x : List Nat)
 | at (bs : List Nat)
def stabs (T : TT) (o : Op) (ρ : Operand → AV) (r : AV) (Ss : List Store) : List Nat → Prop
 | [] => True
 | b :: bs => (∃ τ, Ss[b]? = some τ ∧ evOp T o ρ τ = some (r, τ)) ∧ stabs T o ρ r Ss bs
def refs : AV → List Nat
 | .op a _ _ => [a]
 | .os _ _ a _ _ _ _ => [a]
 | .mp a => [a]
 | _ => []
def readRefs (o : Op) (ρ : Operand → AV) : Option (List Nat) :=
 match o with
 | .load _ a => some (refs (ρ a))
 | .lookup _ m _ _ => some (refs (ρ m))
 | .convert _ _ x => some (refs (ρ x))
 | .call { callee := .builtin .len, args := args, .. } => some ((args.toList.map ρ).flatMap refs)
 | _ => none
def hasN : List Nat → Nat → Bool
 | [], _ => false
 | b :: l, a => bif decide (a = b) then true else hasN l a
def ownA (N : Nat) (ex : List Nat) : List Nat → Prop
 | [] => True
 | a :: l => (a < N ∧ hasN ex a = false) ∧ ownA N ex l
def ownL (N : Nat) (ex : List Nat) : Option (List Nat) → Prop
 | none => False
 | some l => ownA N ex l
theorem ownA_spec {N : Nat} {ex : List Nat} : ∀ {l : List Nat}, ownA N ex l → ∀ id ∈ l, id < N ∧ hasN ex id = false := by
 intro l
 induction l with
 | nil => intro _ id h; cases h
 | cons a l ih =>
  intro h id hid
  have h' : (a < N ∧ hasN ex a = false) ∧ ownA N ex l := h
  rcases List.mem_cons.1 hid with rfl | hid
  · exact h'.1
  · exact ih h'.2 id hid
theorem ownL_spec {N : Nat} {ex : List Nat} {x : Option (List Nat)} (h : ownL N ex x) : ∃ l, x = some l ∧ ∀ id ∈ l, id < N ∧ hasN ex id = false := by
 cases x with
 | none => exact False.elim h
 | some l => exact ⟨l, rfl, ownA_spec h⟩
def agr (ex : List Nat) : Nat → Store → Store → Store → Prop
 | _, [], _, _ => True
 | i, _ :: z, a :: s, b :: s' => (hasN ex i = true ∨ b = a) ∧ agr ex (i + 1) z s s'
 | _, _ :: _, _, _ => False
def Agr (ex : List Nat) (N : Nat) (σ σ' : Store) : Prop := ∀ id, id < N → hasN ex id = false → σ'[id]? = σ[id]?
theorem agr_spec {ex : List Nat} : ∀ {z s s' : Store} {i : Nat}, agr ex i z s s' → ∀ id, id < z.length → hasN ex (i + id) = false → s'[id]? = s[id]? := by
 intro z
 induction z with
 | nil => intro s s' i _ id h; simp at h
 | cons o z ih =>
  intro s s' i h id hid hx
  cases s with
  | nil => simp [agr] at h
  | cons a s =>
  cases s' with
  | nil => simp [agr] at h
  | cons b s' =>
  cases id with
  | zero =>
   rcases h.1 with h1 | h1
   · rw [Nat.add_zero] at hx; rw [hx] at h1; cases h1
   · simp [h1]
  | succ id =>
   simp only [List.getElem?_cons_succ]
   exact ih h.2 id (by simpa using hid) (by rw [← hx]; congr 1; omega)
theorem agr_Agr {ex : List Nat} {z s s' : Store} (h : agr ex 0 z s s') : Agr ex z.length s s' := fun id h1 h2 => agr_spec h id h1 (by rw [Nat.zero_add]; exact h2)
def agrs (k : Nat) (z s s' : Store) : List (Nat × List Nat) → Prop
 | [] => True
 | (m, x) :: l => (if k ≤ m then agr x 0 z s s' else True) ∧ agrs k z s s' l
def Agrs (ex : List (Nat × List Nat)) (k N : Nat) (s s' : Store) : Prop := ∀ m x, (m, x) ∈ ex → k ≤ m → Agr x N s s'
theorem agrs_Agrs {k : Nat} {z s s' : Store} : ∀ {ex : List (Nat × List Nat)}, agrs k z s s' ex → Agrs ex k z.length s s' := by
 intro ex
 induction ex with
 | nil => intro _ m x h; cases h
 | cons p ex ih =>
  intro h m x hm hk
  obtain ⟨q, y⟩ := p
  rcases List.mem_cons.1 hm with e | hm
  · cases e
    have := h.1
    rw [if_pos hk] at this
    exact agr_Agr this
  · exact ih h.2 m x hm hk
def inEx : List (Nat × List Nat) → Nat → List Nat → Bool
 | [], _, _ => false
 | (m, x) :: l, q, y => (m == q && x == y) || inEx l q y
theorem inEx_mem : ∀ {ex : List (Nat × List Nat)} {q : Nat} {y : List Nat}, inEx ex q y = true → (q, y) ∈ ex := by
 intro ex
 induction ex with
 | nil => intro q y h; cases h
 | cons p ex ih =>
  intro q y h
  obtain ⟨m, x⟩ := p
  simp only [inEx, Bool.or_eq_true, Bool.and_eq_true, beq_iff_eq] at h
  rcases h with ⟨rfl, rfl⟩ | h
  · exact List.mem_cons_self ..
  · exact List.mem_cons_of_mem _ (ih h)
theorem Store.at_eq {σ τ : Store} {id ver : Nat} (h : τ[id]? = σ[id]?) : Store.at τ id ver = Store.at σ id ver := by unfold Store.at; rw [h]
theorem Store.mapAt_eq {σ τ : Store} {id : Nat} (h : τ[id]? = σ[id]?) : Store.mapAt τ id = Store.mapAt σ id := by unfold Store.mapAt; rw [h]
theorem srcCells_eq {σ τ : Store} {n : Nat} {x : AV} (ha : ∀ id ∈ refs x, τ[id]? = σ[id]?) : srcCells τ n x = srcCells σ n x := by
 cases x <;> try rfl
 simp only [srcCells, Store.at_eq (ha _ (List.mem_singleton.2 rfl))]
theorem evLoad_own {T : TT} {t : TypeId} {x : AV} {σ τ : Store} (ha : ∀ id ∈ refs x, τ[id]? = σ[id]?) : evLoad T t x τ = evLoad T t x σ := by
 unfold evLoad
 cases T t with
 | none => rfl
 | some i =>
  cases x <;> try rfl
  simp only [Store.at_eq (ha _ (List.mem_singleton.2 rfl))]
theorem evLen_own {T : TT} {t : TypeId} {x : AV} {σ τ : Store} (ha : ∀ id ∈ refs x, τ[id]? = σ[id]?) : evLen T t x τ = evLen T t x σ := by
 unfold evLen
 cases T t with
 | none => rfl
 | some i =>
  simp only
  cases i.desc <;> cases x <;> try rfl
  simp only [ha _ (List.mem_singleton.2 rfl)]
theorem evLookup_own {T : TT} {t : TypeId} {x k : AV} {ok : Bool} {σ τ : Store} (ha : ∀ id ∈ refs x, τ[id]? = σ[id]?) : evLookup T t x k ok τ = evLookup T t x k ok σ := by
 unfold evLookup
 cases x <;> try rfl
 simp only [Store.mapAt_eq (ha _ (List.mem_singleton.2 rfl))]
theorem evConv_own {T : TT} {s d : TypeId} {x : AV} {σ τ : Store} {r : AV} (h : evConv T s d x σ = some (r, σ)) (ha : ∀ id ∈ refs x, τ[id]? = σ[id]?) : evConv T s d x τ = some (r, τ) := by
 unfold evConv at h ⊢
 cases h1 : T s with
 | none => simp only [h1] at h; cases h
 | some i =>
 cases h2 : T d with
 | none => simp only [h1, h2] at h; cases h
 | some k =>
 simp only [h1, h2] at h ⊢
 split at h
 · cases h; rfl
 · cases h; rfl
 · split at h
   · split at h
     · split at h
       · simp only [Option.some.injEq, Prod.mk.injEq, List.append_right_eq_self] at h
         cases h.2
       · cases h
     · cases h
   · cases h
 · rename_i nl cells len t hk
   split at h
   · rename_i e he
     split at h
     · rename_i j hj
       split at h
       · rename_i q cs hd hs
         have hs' : srcCells τ 1 (.ds nl cells len t) = some (q, cs) := (srcCells_eq ha).trans hs
         simp only [hd, hs']
         cases hu : unbs cs with
         | none => rw [hu] at h; cases h
         | some l => rw [hu] at h; simp only [Option.map_some, Option.some.injEq, Prod.mk.injEq] at h ⊢; exact ⟨h.1, trivial⟩
       · cases h
     · cases h
   · cases h
 · rename_i nl sz id ver off len t hk
   split at h
   · rename_i e he
     split at h
     · rename_i j hj
       split at h
       · rename_i q cs hd hs
         have hs' : srcCells τ 1 (.os nl sz id ver off len t) = some (q, cs) := (srcCells_eq ha).trans hs
         simp only [hd, hs']
         cases hu : unbs cs with
         | none => rw [hu] at h; cases h
         | some l => rw [hu] at h; simp only [Option.map_some, Option.some.injEq, Prod.mk.injEq] at h ⊢; exact ⟨h.1, trivial⟩
       · cases h
     · cases h
   · cases h
 · rename_i e nl sz id ver off len t hk
   split at h
   · rename_i e' he
     split at h
     · rename_i hsd
       rw [if_pos hsd]
       split at h
       · rename_i j hj
         split at h
         · rename_i cs hd hs
           have hs' : Store.at τ id ver = some cs := (Store.at_eq (ha _ (by simp [refs]))).trans hs
           simp only [hd, hs']
           split at h
           · rename_i hq
             rw [if_pos hq]
             simp only [Option.some.injEq, Prod.mk.injEq] at h ⊢
             exact ⟨h.1, trivial⟩
           · cases h
         · cases h
       · cases h
     · cases h
   · cases h
 · cases h
theorem evOp_own {T : TT} {o : Op} {ρ : Operand → AV} {σ τ : Store} {r : AV} {l : List Nat} (hl : readRefs o ρ = some l) (h : evOp T o ρ σ = some (r, σ)) (ha : ∀ id ∈ l, τ[id]? = σ[id]?) : evOp T o ρ τ = some (r, τ) := by
 have key : ∀ x y : Option AV, y = x → pureR σ x = some (r, σ) → pureR τ y = some (r, τ) := by
  rintro x _ rfl hx; rw [(pureR_some hx).1]; rfl
 unfold readRefs at hl
 split at hl
 · rename_i t a
   cases hl
   simp only [evOp] at h ⊢
   split
   · rename_i hs
     rw [if_pos hs] at h
     exact key _ _ (evLoad_own ha) h
   · rename_i hs; rw [if_neg hs] at h; cases h
 · rename_i t m k ok
   cases hl
   simp only [evOp] at h ⊢
   exact key _ _ (evLookup_own ha) h
 · rename_i s d x
   cases hl
   simp only [evOp] at h ⊢
   exact evConv_own h ha
 · rename_i args ats
   cases hl
   simp only [evOp] at h ⊢
   unfold evBuiltin at h ⊢
   revert ha h
   generalize args.toList.map ρ = l
   generalize ats.toList = m
   intro h ha
   match m, l with
   | [t], [x] =>
    exact key _ _ (evLen_own fun id hid => ha id (by simpa using hid)) h
   | [], _ => cases h
   | _ :: _ :: _, _ => cases h
   | [_], [] => cases h
   | [_], _ :: _ :: _ => cases h
 · cases hl
def isAlloc (o : Oper) : Bool :=
 match o.op, o.guard with
 | .alloc _, none => true
 | _, _ => false
theorem isAlloc_spec {o : Oper} (h : isAlloc o = true) : o.guard = none ∧ ∃ e, o.op = .alloc e := by
 unfold isAlloc at h
 split at h
 · rename_i e h1 h2; exact ⟨h2, e, h1⟩
 · cases h
def evD (T : TT) (n : Nat) (ops : Array Oper) (z : Store) (ex : List (Nat × List Nat)) : List Oper → List EK → Fr → List Store → List AV → Prop → Option (List Oper × List EK × Fr × List Store × List AV × Prop)
 | [], es, F, Ss, rs, C => some ([], es, F, Ss, rs, C)
 | o :: l, e :: es, F, σ :: Ss, rs, C =>
  match guardA ops F o with
  | some true => bif isCall o then some (o :: l, e :: es, F, σ :: Ss, rs, C) else
   bif dstOk n o.dst then
    match evOp T o.op (ev F) σ with
    | some (r, σ') => match e with
     | .eff => evD T n ops z ex l es (updO F o.dst r) (σ' :: σ :: Ss) (r :: rs) (C ∧ agrs (Ss.length + 1) z σ σ' ex)
     | .flt => bif isAlloc o then evD T n ops z ex l es (updO F o.dst r) (σ' :: σ :: Ss) (r :: rs) (C ∧ agrs (Ss.length + 1) z σ σ' ex) else none
     | .own _ x => evD T n ops z ex l es (updO F o.dst r) (σ :: Ss) (r :: rs) (C ∧ σ' = σ ∧ ownL z.length x (readRefs o.op (ev F)))
     | .any => bif memFree o.op then evD T n ops z ex l es (updO F o.dst r) (σ :: Ss) (r :: rs) C else evD T n ops z ex l es (updO F o.dst r) (σ :: Ss) (r :: rs) (C ∧ ∀ τ, evOp T o.op (ev F) τ = some (r, τ))
     | .at bs => evD T n ops z ex l es (updO F o.dst r) (σ :: Ss) (r :: rs) (C ∧ σ' = σ ∧ stabs T o.op (ev F) r (σ :: Ss) bs)
    | none => none
   else none
  | some false => bif dstOk n o.dst then
   match e with
   | .eff => evD T n ops z ex l es (updO F o.dst .u) (σ :: σ :: Ss) (.u :: rs) C
   | .flt => none
   | _ => evD T n ops z ex l es (updO F o.dst .u) (σ :: Ss) (.u :: rs) C
   else none
  | none => none
 | _ :: _, _, _, _, _, _ => none
def foldU : List Oper → List AV → Fr → Fr
 | o :: l, r :: rs, F => foldU l rs (updO F o.dst r)
 | _, _, F => F
def kOf (es : List EK) (i : Nat) : EK := es.getD i .any
def isE (es : List EK) (i : Nat) : Bool :=
 match kOf es i with
 | .eff => true
 | .flt => true
 | _ => false
def isF (es : List EK) (i : Nat) : Bool :=
 match kOf es i with
 | .flt => true
 | _ => false
def EffFact (P : Program) (n : Nat) (T : TT) (ops : List Oper) (es : List EK) (i : Nat) (o : Oper) (F : Fr) (σ : Store) (r : AV) (σ' : Store) : Prop :=
 (isF es i = false ∧ SF P n ops o F σ r σ') ∨ (isF es i = true ∧ o.guard = none ∧ ∃ e, o.op = .alloc e ∧ evAlloc T e σ = some (r, σ'))
def chkD (ops : List Oper) (es : List EK) (ex : List (Nat × List Nat)) : Bool :=
 chkAll ops (isE es) (isF es) && (List.range ops.length).all fun j => match kOf es j with
  | .at bs => (List.range (cnt (isE es) ops.length + 1)).all fun k => !meets ops (isE es) (isF es) j k || k == cnt (isE es) j || bs.any fun b => k + b == cnt (isE es) j
  | .own m x => inEx ex m x && Nat.ble (cnt (isE es) j) m && (List.range (cnt (isE es) ops.length + 1)).all fun k => !meets ops (isE es) (isF es) j k || Nat.ble k m
  | _ => true
section
variable {P : Program} {n k0 : Nat} {Q : Exit → Fr → Store → Prop}
def PureFact (T : TT) (z : Store) (ex : List (Nat × List Nat)) (ops : List Oper) (es : List EK) (i : Nat) (o : Oper) (F : Fr) (r : AV) (S : Nat → Store) : Prop :=
 (guardA ops.toArray F o = some false ∧ r = .u) ∨
 (guardA ops.toArray F o = some true ∧ match kOf es i with
  | .at bs => ∀ k, (k = cnt (isE es) i ∨ ∃ b ∈ bs, k + b = cnt (isE es) i) → evOp T o.op (ev F) (S k) = some (r, S k)
  | .own m x => (m, x) ∈ ex → cnt (isE es) i ≤ m → ∃ l, readRefs o.op (ev F) = some l ∧ (∀ id ∈ l, id < z.length ∧ hasN x id = false) ∧ evOp T o.op (ev F) z = some (r, z)
  | _ => ∀ τ, evOp T o.op (ev F) τ = some (r, τ))
theorem PureFact.congr {T : TT} {z : Store} {ex : List (Nat × List Nat)} {ops : List Oper} {es : List EK} {i : Nat} {o : Oper} {F : Fr} {r : AV} {S S' : Nat → Store} (h : PureFact T z ex ops es i o F r S) (hS : ∀ k, k ≤ cnt (isE es) i → S' k = S k) : PureFact T z ex ops es i o F r S' := by
 rcases h with h | ⟨h1, h2⟩
 · exact .inl h
 · refine .inr ⟨h1, ?_⟩
   generalize kOf es i = q at h2
   cases q with
   | eff => exact h2
   | flt => exact h2
   | any => exact h2
   | own m x => exact h2
   | «at» bs =>
    intro k hk
    rw [hS k (by rcases hk with h | ⟨b, _, h⟩ <;> omega)]
    exact h2 k hk
def stk (Ss : List Store) (k : Nat) : Store := Ss.reverse.getD k []
theorem stk_cons {Ss : List Store} {σ : Store} {k : Nat} (h : k < Ss.length) : stk (σ :: Ss) k = stk Ss k := by
 unfold stk
 rw [List.reverse_cons, List.getD_eq_getElem?_getD, List.getElem?_append_left (by rw [List.length_reverse]; exact h), ← List.getD_eq_getElem?_getD]
theorem stk_top {Ss : List Store} {σ : Store} {k : Nat} (h : k = Ss.length) : stk (σ :: Ss) k = σ := by
 unfold stk
 rw [List.reverse_cons, List.getD_eq_getElem?_getD, List.getElem?_append_right (by simp [h])]
 subst h; simp
theorem stk_back {Ss : List Store} {b k : Nat} {τ : Store} (h : Ss[b]? = some τ) (hk : k + b + 1 = Ss.length) : stk Ss k = τ := by
 unfold stk
 rw [List.getD_eq_getElem?_getD, List.getElem?_reverse (by omega), show Ss.length - 1 - k = b by omega, h]; rfl
def nth (rs : List AV) (i : Nat) : AV := rs.reverse.getD i .u
theorem nth_cons {rs : List AV} {r : AV} {i : Nat} (h : i < rs.length) : nth (r :: rs) i = nth rs i := by
 unfold nth
 rw [List.reverse_cons, List.getD_eq_getElem?_getD, List.getElem?_append_left (by rw [List.length_reverse]; exact h), ← List.getD_eq_getElem?_getD]
theorem nth_top {rs : List AV} {r : AV} {i : Nat} (h : i = rs.length) : nth (r :: rs) i = r := by
 unfold nth
 rw [List.reverse_cons, List.getD_eq_getElem?_getD, List.getElem?_append_right (by simp [h])]
 subst h; simp
def frs (ops : List Oper) (rs : List AV) (F : Fr) (i : Nat) : Fr := foldU (ops.take i) (rs.reverse.take i) F
theorem frs_cons {ops : List Oper} {rs : List AV} {F : Fr} {r : AV} {i : Nat} (h : i ≤ rs.length) : frs ops (r :: rs) F i = frs ops rs F i := by
 unfold frs
 rw [List.reverse_cons, List.take_append_of_le_length (by simpa using h)]
theorem foldU_snoc : ∀ (l : List Oper) (rs : List AV) (F : Fr) (o : Oper) (r : AV), rs.length = l.length → foldU (l ++ [o]) (rs ++ [r]) F = updO (foldU l rs F) o.dst r := by
 intro l
 induction l with
 | nil => intro rs F o r h; have : rs = [] := List.length_eq_zero_iff.1 h; subst this; rfl
 | cons x l ih =>
  intro rs F o r h
  cases rs with
  | nil => simp at h
  | cons y rs => exact ih rs _ o r (by simpa using h)
theorem take_snoc' {α : Type} {l : List α} {j : Nat} {x : α} (h : l[j]? = some x) : l.take (j + 1) = l.take j ++ [x] := by
 rw [List.take_add_one, h]; rfl
theorem frs_step {ops : List Oper} {rs : List AV} {F : Fr} {o : Oper} (ho : ops[rs.length]? = some o) (r : AV) : frs ops (r :: rs) F (rs.length + 1) = updO (frs ops rs F rs.length) o.dst r := by
 have hjl : rs.length < ops.length := (List.getElem?_eq_some_iff.1 ho).1
 unfold frs
 have e1 : (rs.reverse ++ [r]).take (rs.length + 1) = rs.reverse ++ [r] := List.take_of_length_le (by simp)
 have e2 : rs.reverse.take rs.length = rs.reverse := List.take_of_length_le (by simp)
 rw [take_snoc' ho, List.reverse_cons, e1, e2]
 exact foldU_snoc _ _ _ _ _ (by simp; omega)
structure Past (P : Program) (n : Nat) (T : TT) (ops : List Oper) (es : List EK) (F0 : Fr) (σ0 : Store) (ex : List (Nat × List Nat)) (j : Nat) (F : Fr) (Ss : List Store) (rs : List AV) : Prop where
 len : rs.length = j
 lenS : Ss.length = cnt (isE es) j + 1
 first : stk Ss 0 = σ0
 frame : F = frs ops rs F0 j
 dst : ∀ i o, i < j → ops[i]? = some o → dstOk n o.dst = true
 eff : ∀ i o, i < j → ops[i]? = some o → isE es i = true → EffFact P n T ops es i o (frs ops rs F0 i) (stk Ss (cnt (isE es) i)) (nth rs i) (stk Ss (cnt (isE es) i + 1))
 pure : ∀ i o, i < j → ops[i]? = some o → isE es i = false → PureFact T σ0 ex ops es i o (frs ops rs F0 i) (nth rs i) (stk Ss)
 agree : ∀ k, k < Ss.length → Agrs ex k σ0.length σ0 (stk Ss k)
theorem Past.start (T : TT) (ops : List Oper) (es : List EK) (F0 : Fr) (σ0 : Store) (ex : List (Nat × List Nat)) : Past P n T ops es F0 σ0 ex 0 F0 [σ0] [] where
 len := rfl
 lenS := rfl
 first := rfl
 frame := rfl
 dst := fun i o h => by omega
 eff := fun i o h => by omega
 pure := fun i o h => by omega
 agree := fun k h => by
  have : k = 0 := by simpa using h
  subst this; exact fun _ _ _ _ _ _ _ => rfl
theorem Past.step {T : TT} {ops : List Oper} {es : List EK} {F0 : Fr} {σ0 : Store} {ex : List (Nat × List Nat)} {j : Nat} {F : Fr} {σ : Store} {Ss : List Store} {rs : List AV} (h : Past P n T ops es F0 σ0 ex j F (σ :: Ss) rs) {o : Oper} (ho : ops[j]? = some o) (hd : dstOk n o.dst = true) {r : AV} {Ss' : List Store}
 (he : isE es j = true → ∃ σ', Ss' = σ' :: σ :: Ss ∧ Agrs ex (Ss.length + 1) σ0.length σ σ' ∧ EffFact P n T ops es j o F σ r σ')
 (hp : isE es j = false → Ss' = σ :: Ss ∧ PureFact T σ0 ex ops es j o F r (stk (σ :: Ss))) :
 Past P n T ops es F0 σ0 ex (j + 1) (updO F o.dst r) Ss' (r :: rs) := by
 have hlen := h.len
 have hlS := h.lenS
 simp only [List.length_cons] at hlS
 have hcur : stk (σ :: Ss) (cnt (isE es) j) = σ := stk_top (by omega)
 have hS : ∀ k, k ≤ cnt (isE es) j → stk Ss' k = stk (σ :: Ss) k := by
  intro k hk
  cases hej : isE es j with
  | true =>
   obtain ⟨σ', e1, _⟩ := he hej
   rw [e1]; exact stk_cons (by simp; omega)
  | false => rw [(hp hej).1]
 subst hlen
 refine ⟨rfl, ?_, ?_, ?_, fun i p hi hpp => ?_, fun i p hi hpp hei => ?_, fun i p hi hpp hei => ?_, fun k hk => ?_⟩
 · cases hej : isE es rs.length with
   | true => obtain ⟨σ', e1, _⟩ := he hej; rw [e1]; simp only [cnt, hej, if_true, List.length_cons]; omega
   | false => rw [(hp hej).1]; simp only [cnt, hej, List.length_cons]; simp; omega
 · rw [hS 0 (Nat.zero_le _)]; exact h.first
 · rw [frs_step ho, ← h.frame]
 · by_cases e : i = rs.length
   · subst e; rw [ho] at hpp; cases hpp; exact hd
   · exact h.dst i p (by omega) hpp
 · by_cases e : i = rs.length
   · subst e
     rw [ho] at hpp; cases hpp
     obtain ⟨σ', e1, _, e2⟩ := he hei
     rw [frs_cons (Nat.le_refl _), ← h.frame, nth_top rfl, hS _ (Nat.le_refl _), hcur]
     have : stk Ss' (cnt (isE es) rs.length + 1) = σ' := by
      rw [e1]; exact stk_top (by simp; omega)
     rw [this]; exact e2
   · have h1 := h.eff i p (by omega) hpp hei
     have hc : cnt (isE es) i + 1 ≤ cnt (isE es) rs.length := by
      have := cnt_lt (isE es) (show i < rs.length by omega) hei; omega
     rw [frs_cons (by omega), nth_cons (by omega), hS _ (by omega), hS _ hc]
     exact h1
 · by_cases e : i = rs.length
   · subst e
     rw [ho] at hpp; cases hpp
     obtain ⟨e1, e2⟩ := hp hei
     rw [frs_cons (Nat.le_refl _), ← h.frame, nth_top rfl]
     exact e2.congr hS
   · have h1 := h.pure i p (by omega) hpp hei
     have hc := cnt_mono (isE es) (show i ≤ rs.length by omega)
     rw [frs_cons (by omega), nth_cons (by omega)]
     exact h1.congr fun k hk => hS k (by omega)
 · cases hej : isE es rs.length with
   | true =>
    obtain ⟨σ', e1, e2, _⟩ := he hej
    rw [e1] at hk ⊢
    by_cases hkk : k = Ss.length + 1
    · intro m x hm hle id h1 h2
      rw [stk_top (by simpa using hkk)]
      have h3 := h.agree Ss.length (by simp) m x hm (by omega) id h1 h2
      rw [stk_top rfl] at h3
      exact (e2 m x hm (by omega) id h1 h2).trans h3
    · have hk' : k < (σ :: Ss).length := by simp only [List.length_cons] at hk ⊢; omega
      rw [stk_cons hk']; exact h.agree k hk'
   | false => rw [(hp hej).1] at hk ⊢; exact h.agree k hk
def DW (P : Program) (n k0 : Nat) (T : TT) (id : Nat) (ops : List Oper) (es : List EK) (F0 : Fr) (σ0 : Store) (ex : List (Nat × List Nat)) (Q : Exit → Fr → Store → Prop) (l : List Oper) (es' : List EK) (F : Fr) (Ss : List Store) (rs : List AV) : Prop :=
 (∃ j, ops.drop j = l ∧ es.drop j = es' ∧ Past P n T ops es F0 σ0 ex j F Ss rs) → awp P n k0 (.region id ops.toArray true) Q F0 σ0
theorem DW.start {T : TT} {id : Nat} {ops : List Oper} (es : List EK) (ex : List (Nat × List Nat)) {F0 : Fr} {σ0 : Store} (h : DW P n k0 T id ops es F0 σ0 ex Q ops es F0 [σ0] []) : awp P n k0 (.region id ops.toArray true) Q F0 σ0 :=
 h ⟨0, rfl, rfl, Past.start T ops es F0 σ0 ex⟩
theorem drop_cons {α : Type} {l : List α} {j : Nat} {x : α} {m : List α} (h : l.drop j = x :: m) : l[j]? = some x ∧ l.drop (j + 1) = m := by
 constructor
 · have := List.getElem?_drop (xs := l) (i := j) (j := 0)
   rw [h] at this; simpa using this.symm
 · have := List.drop_drop (i := 1) (j := j) (l := l)
   rw [h] at this; simpa using this.symm
theorem isE_of {es es' : List EK} {j : Nat} {e : EK} (h : es.drop j = e :: es') : kOf es j = e := by
 have := (drop_cons h).1
 simp [kOf, List.getD_eq_getElem?_getD, this]
theorem stabs_spec {T : TT} {o : Op} {ρ : Operand → AV} {r : AV} {Ss : List Store} : ∀ {bs : List Nat}, stabs T o ρ r Ss bs → ∀ b ∈ bs, ∃ τ, Ss[b]? = some τ ∧ evOp T o ρ τ = some (r, τ) := by
 intro bs
 induction bs with
 | nil => intro _ b hb; cases hb
 | cons c bs ih =>
  intro h b hb
  rcases List.mem_cons.1 hb with rfl | hb
  · exact h.1
  · exact ih h.2 b hb
def RunD (x : Option (List Oper × List EK × Fr × List Store × List AV × Prop)) (K : List Oper → List EK → Fr → List Store → List AV → Prop) : Prop :=
 match x with
 | some (l, es, F, Ss, rs, C) => C ∧ K l es F Ss rs
 | none => False
theorem RunD_some (l : List Oper) (es : List EK) (F : Fr) (Ss : List Store) (rs : List AV) (C : Prop) (K : List Oper → List EK → Fr → List Store → List AV → Prop) : RunD (some (l, es, F, Ss, rs, C)) K = (C ∧ K l es F Ss rs) := rfl
theorem evD_past {T : TT} (hT : TOK P T) {ops : List Oper} {es : List EK} {F0 : Fr} {σ0 : Store} {ex : List (Nat × List Nat)} (tl : List Oper) : ∀ (l : List Oper) (es' : List EK) (F : Fr) (Ss : List Store) (rs : List AV) (C : Prop) (l' : List Oper) (es'' : List EK) (F' : Fr) (Ss' : List Store) (rs' : List AV) (C' : Prop),
 evD T n ops.toArray σ0 ex l es' F Ss rs C = some (l', es'', F', Ss', rs', C') → C' → C ∧ ((∃ j, ops.drop j = l ++ tl ∧ es.drop j = es' ∧ Past P n T ops es F0 σ0 ex j F Ss rs) → ∃ j, ops.drop j = l' ++ tl ∧ es.drop j = es'' ∧ Past P n T ops es F0 σ0 ex j F' Ss' rs') := by
 intro l
 induction l with
 | nil => intro es' F Ss rs C l' es'' F' Ss' rs' C' h hC; simp only [evD] at h; cases h; exact ⟨hC, id⟩
 | cons o l ih =>
  intro es' F Ss rs C l' es'' F' Ss' rs' C' h hC
  cases es' with
  | nil => simp [evD] at h
  | cons e es' =>
  cases Ss with
  | nil => simp [evD] at h
  | cons σ Ss =>
  simp only [evD] at h
  have next : ∀ (r : AV) (Ss1 : List Store), dstOk n o.dst = true → (e = .eff ∨ e = .flt → ∃ σ', Ss1 = σ' :: σ :: Ss ∧ Agrs ex (Ss.length + 1) σ0.length σ σ' ∧ ∀ j, es.drop j = e :: es' → EffFact P n T ops es j o F σ r σ') → (e ≠ .eff ∧ e ≠ .flt → Ss1 = σ :: Ss ∧ ∀ j, es.drop j = e :: es' → cnt (isE es) j = Ss.length → Agrs ex Ss.length σ0.length σ0 σ → PureFact T σ0 ex ops es j o F r (stk (σ :: Ss))) →
   (∃ j, ops.drop j = o :: (l ++ tl) ∧ es.drop j = e :: es' ∧ Past P n T ops es F0 σ0 ex j F (σ :: Ss) rs) → ∃ j, ops.drop j = l ++ tl ∧ es.drop j = es' ∧ Past P n T ops es F0 σ0 ex j (updO F o.dst r) Ss1 (r :: rs) := by
   rintro r Ss1 hd h1 h2 ⟨j, e1, e2, e3⟩
   have hk := isE_of e2
   refine ⟨j + 1, (drop_cons e1).2, (drop_cons e2).2, e3.step (drop_cons e1).1 hd (fun hE => ?_) (fun hE => ?_)⟩
   · have he : e = .eff ∨ e = .flt := by
      simp only [isE, hk] at hE
      split at hE
      · exact .inl rfl
      · exact .inr rfl
      · cases hE
     obtain ⟨σ', a1, a2, a3⟩ := h1 he
     exact ⟨σ', a1, a2, a3 j e2⟩
   · have hne : e ≠ .eff ∧ e ≠ .flt := ⟨by rintro rfl; simp [isE, hk] at hE, by rintro rfl; simp [isE, hk] at hE⟩
     have := e3.lenS
     simp only [List.length_cons] at this
     have ha := e3.agree Ss.length (by simp)
     rw [stk_top rfl] at ha
     exact ⟨(h2 hne).1, (h2 hne).2 j e2 (by omega) ha⟩
  split at h
  · rename_i hg
    rw [Bool.cond_eq_ite] at h
    split at h
    · cases h; exact ⟨hC, id⟩
    · rw [Bool.cond_eq_ite] at h
      split at h
      case isFalse => cases h
      rename_i hd
      split at h
      case h_2 => cases h
      rename_i r σ' hr
      split at h
      · obtain ⟨⟨h1, h3⟩, h2⟩ := ih _ _ _ _ _ _ _ _ _ _ _ h hC
        exact ⟨h1, fun hj => h2 (next r _ hd (fun _ => ⟨σ', rfl, agrs_Agrs h3, fun j hj => .inl ⟨by simp [isF, isE_of hj], SF.op hT hg hr⟩⟩) (fun hne => absurd rfl hne.1) hj)⟩
      · rw [Bool.cond_eq_ite] at h
        split at h
        case isFalse => cases h
        rename_i hal
        obtain ⟨⟨h1, h3⟩, h2⟩ := ih _ _ _ _ _ _ _ _ _ _ _ h hC
        obtain ⟨g1, x, g2⟩ := isAlloc_spec hal
        exact ⟨h1, fun hj => h2 (next r _ hd (fun _ => ⟨σ', rfl, agrs_Agrs h3, fun j hj => .inr ⟨by simp [isF, isE_of hj], g1, x, g2, by rw [g2] at hr; exact hr⟩⟩) (fun hne => absurd rfl hne.2) hj)⟩
      · obtain ⟨⟨h1, h3, h4⟩, h2⟩ := ih _ _ _ _ _ _ _ _ _ _ _ h hC
        refine ⟨h1, fun hj => h2 (next r _ hd (fun e => by rcases e with e | e <;> cases e) (fun _ => ⟨rfl, fun j hj hc ha => .inr ⟨hg, ?_⟩⟩) hj)⟩
        rw [isE_of hj]
        subst h3
        obtain ⟨l0, e1, e2⟩ := ownL_spec h4
        exact fun hm hle => ⟨l0, e1, e2, evOp_own e1 hr fun id hid => (ha _ _ hm (by omega) id (e2 id hid).1 (e2 id hid).2).symm⟩
      · rw [Bool.cond_eq_ite] at h
        split at h
        · rename_i hm
          obtain ⟨h1, h2⟩ := ih _ _ _ _ _ _ _ _ _ _ _ h hC
          refine ⟨h1, fun hj => h2 (next r _ hd (fun e => by rcases e with e | e <;> cases e) (fun _ => ⟨rfl, fun j hj _ _ => .inr ⟨hg, ?_⟩⟩) hj)⟩
          rw [isE_of hj]
          exact fun τ => memFree_any hr hm τ
        · obtain ⟨⟨h1, h3⟩, h2⟩ := ih _ _ _ _ _ _ _ _ _ _ _ h hC
          refine ⟨h1, fun hj => h2 (next r _ hd (fun e => by rcases e with e | e <;> cases e) (fun _ => ⟨rfl, fun j hj _ _ => .inr ⟨hg, ?_⟩⟩) hj)⟩
          rw [isE_of hj]
          exact h3
      · rename_i bs
        obtain ⟨⟨h1, h3, h4⟩, h2⟩ := ih _ _ _ _ _ _ _ _ _ _ _ h hC
        refine ⟨h1, fun hj => h2 (next r _ hd (fun e => by rcases e with e | e <;> cases e) (fun _ => ⟨rfl, fun j hj hc _ => .inr ⟨hg, ?_⟩⟩) hj)⟩
        rw [isE_of hj]
        rintro k (hk | ⟨b, hb, hk⟩)
        · rw [stk_top (by omega)]; rw [h3] at hr; exact hr
        · obtain ⟨τ, e1, e2⟩ := stabs_spec h4 b hb
          rw [stk_back e1 (by simp; omega)]; exact e2
  · rename_i hg
    rw [Bool.cond_eq_ite] at h
    split at h
    case isFalse => cases h
    rename_i hd
    split at h
    · obtain ⟨h1, h2⟩ := ih _ _ _ _ _ _ _ _ _ _ _ h hC
      exact ⟨h1, fun hj => h2 (next .u _ hd (fun _ => ⟨σ, rfl, fun _ _ _ _ _ _ _ => rfl, fun j hj => .inl ⟨by simp [isF, isE_of hj], SF.skip hg⟩⟩) (fun hne => absurd rfl hne.1) hj)⟩
    · cases h
    · rename_i hne hnf
      obtain ⟨h1, h2⟩ := ih _ _ _ _ _ _ _ _ _ _ _ h hC
      exact ⟨h1, fun hj => h2 (next .u _ hd (fun e => e.elim (fun e => absurd e hne) (fun e => absurd e hnf)) (fun _ => ⟨rfl, fun j hj _ _ => .inl ⟨hg, rfl⟩⟩) hj)⟩
  · cases h
theorem DW.run {T : TT} (hT : TOK P T) {id : Nat} {ops : List Oper} {es : List EK} {F0 : Fr} {σ0 : Store} {ex : List (Nat × List Nat)} {l : List Oper} {es' : List EK} {F : Fr} {Ss : List Store} {rs : List AV}
 (h : RunD (evD T n ops.toArray σ0 ex l es' F Ss rs True) fun l' es'' F' Ss' rs' => DW P n k0 T id ops es F0 σ0 ex Q l' es'' F' Ss' rs') : DW P n k0 T id ops es F0 σ0 ex Q l es' F Ss rs := by
 intro hp
 unfold RunD at h
 split at h
 · rename_i l' es'' F' Ss' rs' C he
   refine h.2 ?_
   have := (evD_past hT [] _ _ _ _ _ _ _ _ _ _ _ _ he h.1).2 (by simpa using hp)
   simpa using this
 · exact h.elim
theorem DW.runN {T : TT} (hT : TOK P T) (m : Nat) {id : Nat} {ops : List Oper} {es : List EK} {F0 : Fr} {σ0 : Store} {ex : List (Nat × List Nat)} {l : List Oper} {es' : List EK} {F : Fr} {Ss : List Store} {rs : List AV}
 (h : RunD (evD T n ops.toArray σ0 ex (l.take m) es' F Ss rs True) fun l' es'' F' Ss' rs' => l' = [] ∧ DW P n k0 T id ops es F0 σ0 ex Q (l.drop m) es'' F' Ss' rs') : DW P n k0 T id ops es F0 σ0 ex Q l es' F Ss rs := by
 intro hp
 unfold RunD at h
 split at h
 · rename_i l' es'' F' Ss' rs' C he
   obtain ⟨hC, rfl, h⟩ := h
   refine h ?_
   have := (evD_past hT (l.drop m) _ _ _ _ _ _ _ _ _ _ _ _ he hC).2 (by simpa [List.take_append_drop] using hp)
   simpa using this
 · exact h.elim
theorem DW.callS {T : TT} {id : Nat} {ops : List Oper} {es : List EK} {F0 : Fr} {σ0 : Store} {ex : List (Nat × List Nat)} {o : Oper} {l : List Oper} {es' : List EK} {F : Fr} {σ : Store} {Ss : List Store} {rs : List AV} {f : FuncId} {args : List AV} {r : AV} {σ' : Store}
 (hg : guardA ops.toArray F o = some true) (hc : callee F o = some (f, args)) (hd : dstOk n o.dst = true) (hf : ACalls P f args σ fun r' s => r' = r ∧ s = σ') (ha : Agrs ex (Ss.length + 1) σ0.length σ σ') (h : DW P n k0 T id ops es F0 σ0 ex Q l es' (updO F o.dst r) (σ' :: σ :: Ss) (r :: rs)) :
 DW P n k0 T id ops es F0 σ0 ex Q (o :: l) (.eff :: es') F (σ :: Ss) rs := by
 rintro ⟨j, e1, e2, e3⟩
 have hk := isE_of e2
 exact h ⟨j + 1, (drop_cons e1).2, (drop_cons e2).2, e3.step (drop_cons e1).1 hd (fun _ => ⟨σ', rfl, ha, .inl ⟨by simp [isF, hk], SF.call hg hc hf⟩⟩) (fun hE => by simp [isE, hk] at hE)⟩
theorem DW.call {T : TT} {id : Nat} {ops : List Oper} {es : List EK} {F0 : Fr} {σ0 : Store} {ex : List (Nat × List Nat)} {o : Oper} {l : List Oper} {es' : List EK} {F : Fr} {σ : Store} {Ss : List Store} {rs : List AV} {f : FuncId} {args : List AV} {r : AV}
 (hg : guardA ops.toArray F o = some true) (hc : callee F o = some (f, args)) (hd : dstOk n o.dst = true) (hf : ACalls P f args σ fun r' s => r' = r ∧ s = σ) (h : DW P n k0 T id ops es F0 σ0 ex Q l es' (updO F o.dst r) (σ :: σ :: Ss) (r :: rs)) :
 DW P n k0 T id ops es F0 σ0 ex Q (o :: l) (.eff :: es') F (σ :: Ss) rs := DW.callS hg hc hd hf (fun _ _ _ _ _ _ _ => rfl) h
theorem DW.fin {T : TT} (hT : TOK P T) {id : Nat} {ops : List Oper} {es : List EK} {F0 : Fr} {σ0 : Store} {ex : List (Nat × List Nat)} (hchk : chkD ops es ex = true) {es' : List EK} {F : Fr} {σ : Store} {Ss : List Store} {rs : List AV} (hl : rs.length = ops.length) (h : Q .normal F σ) :
 DW P n k0 T id ops es F0 σ0 ex Q [] es' F (σ :: Ss) rs := by
 rintro ⟨j, e1, e2, e3⟩
 have hj : j = ops.length := by rw [← e3.len, hl]
 subst hj
 simp only [chkD, Bool.and_eq_true] at hchk
 have hlS := e3.lenS
 simp only [List.length_cons] at hlS
 have h0 : frs ops rs F0 0 = F0 := by simp [frs, foldU]
 have := awp_drawn (P := P) (n := n) (k0 := k0) (Q := Q) (id := id) (ops := ops) (eff := isE es) (flt := isF es) (F := fun j => frs ops rs F0 j) (r := nth rs) (S := stk (σ :: Ss)) hT hchk.1 (fun j o ho => ?_) (fun o ho t ht => ?_) (fun j o ho he => ?_) (fun j o ho hf => ?_) (fun j o ho he k hk hm => ?_) ?_
 · rw [e3.first, h0] at this; exact this
 · -- the frames
   have hjl : j < ops.length := (List.getElem?_eq_some_iff.1 ho).1
   show foldU (ops.take (j + 1)) (rs.reverse.take (j + 1)) F0 = updO (foldU (ops.take j) (rs.reverse.take j) F0) o.dst (nth rs j)
   have hr : rs.reverse[j]? = some (nth rs j) := by
    unfold nth
    rw [List.getD_eq_getElem?_getD, List.getElem?_eq_getElem (by simp; omega)]; rfl
   rw [take_snoc' ho, take_snoc' hr, foldU_snoc _ _ _ _ _ (by simp; omega)]
 · obtain ⟨i, hi, rfl⟩ := List.getElem_of_mem ho
   exact dstOk_lt (e3.dst i _ hi (List.getElem?_eq_getElem hi)) t ht
 · simp only [hard, Bool.and_eq_true, Bool.not_eq_true'] at he
   rcases e3.eff j o (List.getElem?_eq_some_iff.1 ho).1 ho he.1 with ⟨_, h1⟩ | ⟨h1, _⟩
   · exact h1
   · rw [he.2] at h1; cases h1
 · rcases e3.eff j o (List.getElem?_eq_some_iff.1 ho).1 ho (chk_flt hchk.1 ho hf) with ⟨h1, _⟩ | ⟨_, h1⟩
   · rw [hf] at h1; cases h1
   · exact h1
 · rcases e3.pure j o (List.getElem?_eq_some_iff.1 ho).1 ho he with ⟨h1, h2⟩ | ⟨h1, h2⟩
   · rw [h2]; exact SF.skip h1
   · refine SF.op hT h1 ?_
     have h3 := List.all_eq_true.1 hchk.2 j (by simpa using (List.getElem?_eq_some_iff.1 ho).1)
     generalize kOf es j = q at h2 h3
     cases q with
     | eff => exact h2 _
     | flt => exact h2 _
     | any => exact h2 _
     | own m x =>
      simp only [Bool.and_eq_true] at h3
      obtain ⟨l0, g1, g2, g3⟩ := h2 (inEx_mem h3.1.1) (Nat.le_of_ble_eq_true h3.1.2)
      have hkl : k ≤ cnt (isE es) ops.length := hk
      have h4 := List.all_eq_true.1 h3.2 k (by simp; omega)
      simp only [hm, Bool.not_true, Bool.false_or] at h4
      exact evOp_own g1 g3 fun id hid => e3.agree k (by simp; omega) m x (inEx_mem h3.1.1) (Nat.le_of_ble_eq_true h4) id (g2 id hid).1 (g2 id hid).2
     | «at» bs =>
      have h4 := List.all_eq_true.1 h3 k (by simp; omega)
      simp only [hm, Bool.not_true, Bool.false_or, Bool.or_eq_true, beq_iff_eq, List.any_eq_true] at h4
      exact h2 k h4
 · show Q .normal (frs ops rs F0 ops.length) (stk (σ :: Ss) (cnt (isE es) ops.length))
   rw [stk_top (by omega), ← e3.frame]; exact h
end
end AM
end Go.Proofs.YtaddlmlpeghonaaDoor
