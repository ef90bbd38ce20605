/- The abstract machine: regions whose order Go leaves open. What is reckoned in the order of the text holds in every order that the edges allow: effects stand in one order; what only reads gives the same from whatever store it may meet. -/
import Derived.Test.YtplddidoobjcnaaAl
set_option linter.unusedSimpArgs false
set_option linter.unusedVariables false
set_option linter.constructorNameAsVariable false
namespace Go.Proofs.Ytplddidoobjcnaa
namespace AM
open Go.RowKit

/-- An edge that binds in every mode. -/
def always (e : Edge) : Bool :=
  match e.ground with
  | .textOnly _ | .gcOnly _ => false
  | _ => true

theorem always_binds {e : Edge} (h : always e = true) (md : Region.Mode) : Region.binds md e = true := by
  unfold always at h
  unfold Region.binds
  split at h <;> simp_all

/-- What must stand in front of each operation, through others too. -/
def ancGo : List (List Nat) → List Oper → List (List Nat)
  | acc, [] => acc
  | acc, o :: l =>
    let d := (o.after.toList.filter always).map (·.on)
    ancGo (acc ++ [d ++ d.flatMap fun i => acc.getD i []]) l

def anc (l : List Oper) : List (List Nat) := ancGo [] l

/-- Edges go back. -/
def edgesBack : Nat → List Oper → Bool
  | _, [] => true
  | j, o :: l => o.after.all (fun e => decide (e.on < j)) && edgesBack (j + 1) l

def Closed (ops : List Oper) (X : Nat → Prop) : Prop := ∀ j o, ops[j]? = some o → X j → ∀ e ∈ o.after, always e = true → X e.on

theorem anc_closed {ops : List Oper} : ∀ (l : List Oper) (acc : List (List Nat)), (∃ pre, ops = pre ++ l ∧ pre.length = acc.length) → (∀ j i, i ∈ acc.getD j [] → ∀ X, Closed ops X → X j → X i) →
    ∀ j i, i ∈ (ancGo acc l).getD j [] → ∀ X, Closed ops X → X j → X i := by
  intro l
  induction l with
  | nil => intro acc _ h; exact h
  | cons o l ih =>
    intro acc ⟨pre, hp, hl⟩ h
    simp only [ancGo]
    refine ih _ ⟨pre ++ [o], by simp [hp], by simp [hl]⟩ ?_
    intro j i hi X hX hj
    by_cases hlt : j < acc.length
    · rw [List.getD_eq_getElem?_getD, List.getElem?_append_left hlt, ← List.getD_eq_getElem?_getD] at hi
      exact h j i hi X hX hj
    · by_cases he : j = acc.length
      · subst he
        rw [List.getD_eq_getElem?_getD, List.getElem?_append_right (Nat.le_refl _), Nat.sub_self, List.getElem?_cons_zero, Option.getD_some] at hi
        have hops : ops[acc.length]? = some o := by rw [hp, ← hl]; simp
        have direct : ∀ d, d ∈ (o.after.toList.filter always).map (·.on) → X d := by
          intro d hd
          obtain ⟨e, he, rfl⟩ := List.mem_map.1 hd
          obtain ⟨h1, h2⟩ := List.mem_filter.1 he
          exact hX _ o hops hj e (by simpa using h1) h2
        rcases List.mem_append.1 hi with hi | hi
        · exact direct i hi
        · obtain ⟨d, hd, hi⟩ := List.mem_flatMap.1 hi
          exact h d i hi X hX (direct d hd)
      · rw [List.getD_eq_getElem?_getD, List.getElem?_eq_none (by simp; omega)] at hi
        simp at hi

theorem anc_spec {ops : List Oper} {j i : Nat} (hi : i ∈ (anc ops).getD j []) {X : Nat → Prop} (hX : Closed ops X) (hj : X j) : X i :=
  anc_closed ops [] ⟨[], by simp, rfl⟩ (fun j i h => by simp at h) j i hi X hX hj

theorem edgesBack_spec : ∀ {l : List Oper} {k : Nat}, edgesBack k l = true → ∀ j o, l[j]? = some o → ∀ e ∈ o.after, e.on < k + j := by
  intro l
  induction l with
  | nil => intro k _ j o h; simp at h
  | cons x l ih =>
    intro k h j o hj e he
    simp only [edgesBack, Bool.and_eq_true] at h
    cases j with
    | zero =>
      simp at hj; subst hj
      have := Array.all_eq_true_iff_forall_mem.1 h.1 e he
      simpa using this
    | succ j =>
      have := ih h.2 j o (by simpa using hj) e he
      omega

theorem anc_lt {ops : List Oper} (hb : edgesBack 0 ops = true) {j i : Nat} (hj : j < ops.length) (hi : i ∈ (anc ops).getD j []) : i < j := by
  -- what stands in front of j is below j: the numbers up to j, without j, and j
  have h := anc_spec (X := fun x => x ≤ j) hi (fun k o hk hx e he ha => by
    have h1 := edgesBack_spec hb k o hk e he
    show e.on ≤ j
    have h2 : k ≤ j := hx
    omega) (Nat.le_refl j)
  -- j itself is not among them
  rcases Nat.lt_or_ge i j with h1 | h1
  · exact h1
  · exfalso
    have h2 : i ≤ j := h
    have hij : i = j := by omega
    subst hij
    have key : ∀ (l : List Oper) (acc : List (List Nat)), (∃ pre, ops = pre ++ l ∧ pre.length = acc.length) → (∀ j i, i ∈ acc.getD j [] → i < j) → ∀ j i, i ∈ (ancGo acc l).getD j [] → i < j := by
      intro l
      induction l with
      | nil => intro acc _ h; exact h
      | cons o l ih =>
        intro acc ⟨pre, hp, hl⟩ h
        simp only [ancGo]
        refine ih _ ⟨pre ++ [o], by simp [hp], by simp [hl]⟩ ?_
        intro j i hi
        by_cases hlt : j < acc.length
        · rw [List.getD_eq_getElem?_getD, List.getElem?_append_left hlt, ← List.getD_eq_getElem?_getD] at hi
          exact h j i hi
        · by_cases he : j = acc.length
          · subst he
            rw [List.getD_eq_getElem?_getD, List.getElem?_append_right (Nat.le_refl _), Nat.sub_self, List.getElem?_cons_zero, Option.getD_some] at hi
            have hops : ops[acc.length]? = some o := by rw [hp, ← hl]; simp
            have direct : ∀ d, d ∈ (o.after.toList.filter always).map (·.on) → d < acc.length := by
              intro d hd
              obtain ⟨e, he, rfl⟩ := List.mem_map.1 hd
              obtain ⟨h1, h2⟩ := List.mem_filter.1 he
              have := edgesBack_spec hb _ o hops e (by simpa using h1)
              omega
            rcases List.mem_append.1 hi with hi | hi
            · exact direct i hi
            · obtain ⟨d, hd, hi⟩ := List.mem_flatMap.1 hi
              have := h d i hi
              have := direct d hd
              omega
          · rw [List.getD_eq_getElem?_getD, List.getElem?_eq_none (by simp; omega)] at hi
            simp at hi
    have := key ops [] ⟨[], by simp, rfl⟩ (fun j i h => by simp at h) i i hi
    omega

/-! ### what an operation looks at -/

def tmpsOf (l : List Operand) : List Tmp := l.filterMap fun | .tmp t => some t | _ => none

def looks (ops : List Oper) (o : Oper) : List Tmp :=
  tmpsOf o.op.operands.toList ++ (match o.guard with
    | some (g, _) => ((ops[g]?).bind (·.dst)).toList
    | none => [])

theorem ev_congr {F G : Fr} {l : List Operand} (h : ∀ t ∈ tmpsOf l, F t = G t) : ∀ x ∈ l, ev F x = ev G x := by
  intro x hx
  cases x with
  | tmp t => exact h t (List.mem_filterMap.2 ⟨.tmp t, hx, rfl⟩)
  | _ => rfl

theorem parts_congr {ρ ρ' : Operand → AV} (ps : Array (Nat × Operand)) (h : ∀ x ∈ (ps.toList.map (·.2)), ρ x = ρ' x) : (ps.toList.map fun p => (p.1, ρ p.2)) = ps.toList.map fun p => (p.1, ρ' p.2) :=
  List.map_congr_left fun p hp => by rw [h p.2 (List.mem_map.2 ⟨p, hp, rfl⟩)]

theorem evOp_congr {T : TT} {op : Op} {ρ ρ' : Operand → AV} {σ : Store} (h : ∀ x ∈ op.operands.toList, ρ x = ρ' x) : evOp T op ρ σ = evOp T op ρ' σ := by
  cases op <;> simp only [Op.operands] at h <;> simp only [evOp]
  case build t ps => rw [parts_congr ps fun x hx => h x (by simpa using hx)]
  case buildSlice t n ps => rw [parts_congr ps fun x hx => h x (by simpa using hx)]
  case makeFunc f a b =>
    rw [List.map_congr_left (l := a.toList) fun x hx => h x (by simp at hx ⊢; exact .inl hx), List.map_congr_left (l := b.toList) fun x hx => h x (by simp at hx ⊢; exact .inr hx)]
  case slice t x lo hi mx => cases lo <;> cases hi <;> cases mx <;> simp_all
  case call c =>
    obtain ⟨cal, args, ats⟩ := c
    cases cal <;> simp only []
    rw [List.map_congr_left (l := args.toList) fun x hx => h x (by simp only [Call.operands]; simpa using hx)]
  all_goals (first | rfl | (simp_all; done))

theorem callee_congr {F G : Fr} {o : Oper} (h : ∀ x ∈ o.op.operands.toList, ev F x = ev G x) : callee F o = callee G o := by
  obtain ⟨dst, op, ty, pos, after, guard⟩ := o
  cases op <;> simp only [callee]
  rename_i c
  obtain ⟨cal, args, ats⟩ := c
  cases cal <;> simp only []
  rename_i f
  simp only [Op.operands, Call.operands] at h
  rw [h f (by simp), List.map_congr_left (l := args.toList) fun x hx => h x (by simp at hx ⊢; exact .inr hx)]

theorem guardA_congr {F G : Fr} {ops : List Oper} {o : Oper} (h : ∀ t ∈ looks ops o, F t = G t) : guardA ops.toArray F o = guardA ops.toArray G o := by
  unfold guardA
  split
  · rfl
  · rename_i j want hg
    simp only [List.getElem?_toArray]
    cases ht : (ops[j]?).bind (·.dst) with
    | none => rfl
    | some t => simp only []; rw [h t (by simp [looks, hg, ht])]

/-- So much of a frame. -/
def only (l : List Tmp) (F : Fr) : Fr := fun t => if t ∈ l then F t else .u

theorem only_mem {l : List Tmp} {F : Fr} {t : Tmp} (h : t ∈ l) : only l F t = F t := by simp [only, h]

/-! ### facts on one operation -/

/-- Whenever an operation finds what it looks at, and the store, it yields r and leaves the store σ'. -/
def SF (P : Program) (n : Nat) (ops : List Oper) (o : Oper) (F : Fr) (σ : Store) (r : AV) (σ' : Store) : Prop :=
  ∀ E a, SR E σ → FR E n (only (looks ops o) F) a → ∀ (K : Act → World → Prop) (Qc : Exit → Act → World → Prop), (∀ E' cv, SR E' σ' → VR E' r cv → Ext E E' → K (a.put o.dst cv) E'.w) →
    if Region.wanted o (yielded ops.toArray a.tmps) then o.wp P a E.w K Qc ∨ (o.asks P a E.w ∧ LetsOut Qc) else K (a.put o.dst undef) E.w

section
variable {P : Program} {n : Nat} {F : Fr} {σ σ' : Store}

theorem op_wp' {T : TT} (hT : TOK P T) {o : Oper} {r : AV} (h : evOp T o.op (ev F) σ = some (r, σ')) {E : Env} {a : Act} (hS : SR E σ) (hF : FR E n F a) {next : Act → World → Prop} {Qc : Exit → Act → World → Prop}
    (hn : ∀ E' cv, SR E' σ' → VR E' r cv → Ext E E' → next (a.put o.dst cv) E'.w) : o.wp P a E.w next Qc := by
  obtain ⟨E', h1, h2, h3⟩ := run_evOp hT hS (o := o) (fun x => hF.ev x) h
  unfold Oper.wp
  rcases h3 with ⟨cv, h4, h5⟩ | ⟨h4, h5⟩
  · rw [h4]; exact hn E' _ h1 h5 h2
  · subst h5
    rw [h4]; exact hn E' _ h1 (.u _) h2

theorem SF.op {T : TT} (hT : TOK P T) {ops : List Oper} {o : Oper} {r : AV} (hg : guardA ops.toArray F o = some true) (h : evOp T o.op (ev F) σ = some (r, σ')) : SF P n ops o F σ r σ' := by
  intro E a hS hF K Qc hK
  have h1 : ∀ t ∈ looks ops o, only (looks ops o) F t = F t := fun t ht => only_mem ht
  rw [← guardA_congr h1] at hg
  rw [if_pos (guardA_wanted hF hg)]
  rw [← evOp_congr (ρ := ev (only (looks ops o) F)) (ev_congr fun t ht => h1 t (List.mem_append_left _ ht))] at h
  exact .inl (op_wp' hT h hS hF hK)

theorem SF.skip {ops : List Oper} {o : Oper} (hg : guardA ops.toArray F o = some false) : SF P n ops o F σ .u σ := by
  intro E a hS hF K Qc hK
  have h1 : ∀ t ∈ looks ops o, only (looks ops o) F t = F t := fun t ht => only_mem ht
  rw [← guardA_congr h1] at hg
  rw [if_neg (by rw [guardA_wanted hF hg]; simp)]
  exact hK E _ hS (.u _) (Ext.refl E)

theorem SF.call {ops : List Oper} {o : Oper} {f : FuncId} {args : List AV} {r : AV} (hg : guardA ops.toArray F o = some true) (hc : callee F o = some (f, args)) (h : ACalls P f args σ fun r' s => r' = r ∧ s = σ') : SF P n ops o F σ r σ' := by
  intro E a hS hF K Qc hK
  have h1 : ∀ t ∈ looks ops o, only (looks ops o) F t = F t := fun t ht => only_mem ht
  rw [← guardA_congr h1] at hg
  rw [if_pos (guardA_wanted hF hg)]
  rw [← callee_congr (F := only (looks ops o) F) (ev_congr fun t ht => h1 t (List.mem_append_left _ ht))] at hc
  refine .inl ?_
  obtain ⟨dst, op, ty, pos, after, guard⟩ := o
  generalize only _ F = G at hF hc
  unfold callee at hc
  simp only at hc
  split at hc
  · rename_i fo ao ats
    split at hc
    · rename_i g first cap hfo
      cases hc
      have hv := hF.ev fo
      rw [hfo] at hv
      generalize hfv : a.eval fo = fv at hv
      cases hv with | fn _ _ _ vf vc h1 h2 h3 h4 =>
      have hargs := listR_append (listR_append (listR_of h1 h3) (list_ev (fun x => hF.ev x) ao)) (listR_of h2 h4)
      unfold Oper.wp
      have hrun : (execOp a.eval { dst := dst, op := .call { callee := .value fo, args := ao, argTypes := ats }, type := ty, pos := pos, after := after, guard := guard }).run P E.w = .ok (.enter f (vf ++ ao.map a.eval ++ vc)) E.w := by
        simp only [execOp, resolve, hfv, Deferred.ofValue, Sem.run_bind, Sem.run_pure, Result.andThen_ok, invoke]
        exact h.1 _ _
      rw [hrun]
      refine (h.2 E _ hS hargs).mono ?_
      rintro e w' ⟨v, r', s', E', rfl, rfl, h5, h6, h7, rfl, rfl⟩
      exact hK E' v h6 h5 h7
    · cases hc
  · cases hc
end

/-! ### the region -/

/-- How many effects stand ahead of place j. -/
def cnt (eff : Nat → Bool) : Nat → Nat
  | 0 => 0
  | j + 1 => cnt eff j + (if eff j then 1 else 0)

theorem cnt_mono (eff : Nat → Bool) {i j : Nat} (h : i ≤ j) : cnt eff i ≤ cnt eff j := by
  induction j with
  | zero => have : i = 0 := by omega
            subst this; exact Nat.le_refl _
  | succ j ih =>
    by_cases e : i = j + 1
    · subst e; exact Nat.le_refl _
    · have := ih (by omega); simp only [cnt]; omega

theorem cnt_lt (eff : Nat → Bool) {i j : Nat} (h : i < j) (hi : eff i = true) : cnt eff i < cnt eff j := by
  have h1 := cnt_mono eff (show i + 1 ≤ j from h)
  simp only [cnt, hi, if_true] at h1
  omega

def chkPair (ops : List Oper) (A : List (List Nat)) (eff : Nat → Bool) (j : Nat) (o : Oper) (i : Nat) (p : Oper) : Bool :=
  (match p.dst with
   | some d => (if i = j then !((looks ops o).contains d) else (!((looks ops o).contains d) || (A.getD j []).contains i || (A.getD i []).contains j) && (o.dst != some d))
   | none => true) &&
  (!(eff i && eff j && decide (i < j)) || (A.getD j []).contains i)

def chkAll (ops : List Oper) (eff : Nat → Bool) : Bool :=
  edgesBack 0 ops && (let A := anc ops; ops.zipIdx.all fun (o, j) => ops.zipIdx.all fun (p, i) => chkPair ops A eff j o i p)

/-- May a reading operation at place j meet the store behind k effects? -/
def meets (ops : List Oper) (eff : Nat → Bool) (j k : Nat) : Bool :=
  let A := anc ops
  (List.range ops.length).all fun i => !eff i || ((!((A.getD j []).contains i) || decide (cnt eff i < k)) && (!((A.getD i []).contains j) || decide (k ≤ cnt eff i)))

theorem cnt_congr {p q : Nat → Bool} : ∀ {N : Nat}, (∀ i, i < N → p i = q i) → cnt p N = cnt q N := by
  intro N
  induction N with
  | zero => intro _; rfl
  | succ N ih => intro h; simp only [cnt]; rw [ih fun i hi => h i (by omega), h N (by omega)]

theorem cnt_add {p q : Nat → Bool} {j : Nat} : ∀ {N : Nat}, j < N → (∀ i, i ≠ j → q i = p i) → p j = false → q j = true → cnt q N = cnt p N + 1 := by
  intro N
  induction N with
  | zero => intro h; omega
  | succ N ih =>
    intro hj h hp hq
    simp only [cnt]
    by_cases e : j = N
    · subst e
      rw [cnt_congr (p := q) (q := p) fun i hi => h i (by omega), hp, hq]
      simp
    · rw [ih (by omega) h hp hq, h N (fun e' => e e'.symm)]
      omega

theorem cnt_le (p : Nat → Bool) : ∀ N, cnt p N ≤ N
  | 0 => Nat.le_refl _
  | N + 1 => by have := cnt_le p N; simp only [cnt]; split <;> omega

theorem cnt_sub {p q : Nat → Bool} (h : ∀ i, p i = true → q i = true) : ∀ N, cnt p N ≤ cnt q N
  | 0 => Nat.le_refl _
  | N + 1 => by
    have ih := cnt_sub h N
    simp only [cnt]
    by_cases hp : p N = true
    · rw [if_pos hp, if_pos (h N hp)]; omega
    · rw [if_neg hp]; omega

theorem cnt_all {p : Nat → Bool} : ∀ {N : Nat}, (∀ i, i < N → p i = true) → cnt p N = N := by
  intro N
  induction N with
  | zero => intro _; rfl
  | succ N ih => intro h; simp only [cnt]; rw [ih fun i hi => h i (by omega), h N (by omega)]; simp

theorem cnt_all' {p : Nat → Bool} : ∀ {N : Nat}, cnt p N = N → ∀ i, i < N → p i = true := by
  intro N
  induction N with
  | zero => intro _ i hi; omega
  | succ N ih =>
    intro h i hi
    simp only [cnt] at h
    have := cnt_le p N
    by_cases e : i = N
    · subst e
      cases hp : p i with
      | true => rfl
      | false => rw [hp] at h; simp at h; omega
    · refine ih ?_ i (by omega)
      split at h <;> omega

theorem cnt_head {eff : Nat → Bool} {j : Nat} : ∀ {N : Nat}, j ≤ N → cnt (fun i => eff i && decide (i < j)) N = cnt eff j := by
  intro N
  induction N with
  | zero => intro h; have : j = 0 := by omega
            subst this; rfl
  | succ N ih =>
    intro h
    by_cases e : j = N + 1
    · subst e; exact cnt_congr fun i hi => by simp [hi]
    · simp only [cnt]
      rw [ih (by omega)]
      simp [show ¬ N < j by omega]

theorem chk_pair {ops : List Oper} {eff : Nat → Bool} (h : chkAll ops eff = true) {i j : Nat} {o p : Oper} (hj : ops[j]? = some o) (hi : ops[i]? = some p) : chkPair ops (anc ops) eff j o i p = true := by
  simp only [chkAll, Bool.and_eq_true] at h
  have h1 := List.all_eq_true.1 h.2 (o, j) (by rw [List.mem_zipIdx_iff_getElem?]; exact hj)
  have h2 := List.all_eq_true.1 h1 (p, i) (by rw [List.mem_zipIdx_iff_getElem?]; exact hi)
  exact h2

section
variable {P : Program} {n : Nat} {Q : Exit → Fr → Store → Prop} {ops : List Oper} {eff : Nat → Bool} (F : Nat → Fr) (r : Nat → AV) (S : Nat → Store)

theorem frame_old (hF : ∀ j o, ops[j]? = some o → F (j + 1) = updO (F j) o.dst (r j)) (t : Tmp) : ∀ j, j ≤ ops.length → (∀ i o, i < j → ops[i]? = some o → o.dst ≠ some t) → F j t = F 0 t := by
  intro j
  induction j with
  | zero => intro _ _; rfl
  | succ j ih =>
    intro hj h
    obtain ⟨o, ho⟩ : ∃ o, ops[j]? = some o := ⟨_, List.getElem?_eq_getElem (by omega)⟩
    rw [hF j o ho]
    have hne := h j o (by omega) ho
    rw [← ih (by omega) fun i o hi => h i o (by omega)]
    cases hd : o.dst with
    | none => rfl
    | some d =>
      have : t ≠ d := fun e => hne (by rw [hd, e])
      simp [updO, upd, this]

theorem frame_new (hF : ∀ j o, ops[j]? = some o → F (j + 1) = updO (F j) o.dst (r j)) {t : Tmp} {i : Nat} {p : Oper} (hi : ops[i]? = some p) (hp : p.dst = some t) (huniq : ∀ k o, ops[k]? = some o → k ≠ i → o.dst ≠ some t) :
    ∀ j, j ≤ ops.length → i < j → F j t = r i := by
  intro j
  induction j with
  | zero => intro _ h; omega
  | succ j ih =>
    intro hj hij
    obtain ⟨o, ho⟩ : ∃ o, ops[j]? = some o := ⟨_, List.getElem?_eq_getElem (by omega)⟩
    rw [hF j o ho]
    by_cases e : i = j
    · subst e
      rw [hi] at ho; cases ho
      rw [hp]; simp [updO, upd]
    · have hne := huniq j o ho (fun h => e h.symm)
      rw [← ih (by omega) (by omega)]
      cases hd : o.dst with
      | none => rfl
      | some d =>
        have : t ≠ d := fun h => hne (by rw [hd, h])
        simp [updO, upd, this]

/-- What holds in the midst of the region. -/
structure Mid (E : Env) (listed : Array Bool) (a : Act) : Prop where
  size : listed.size = ops.length
  closed : Closed ops fun j => listed.getD j false = true
  store : SR E (S (cnt (fun i => eff i && listed.getD i false) ops.length))
  tsize : a.tmps.size = n
  defers : a.defers = []
  new : ∀ t j o, ops[j]? = some o → listed.getD j false = true → o.dst = some t → VR E (r j) (a.tmps.getD t undef)
  old : ∀ t, (∀ j o, ops[j]? = some o → listed.getD j false = true → o.dst ≠ some t) → VR E (F 0 t) (a.tmps.getD t undef)

theorem getD_set {listed : Array Bool} {j i : Nat} (hj : j < listed.size) : (listed.setIfInBounds j true).getD i false = (listed.getD i false || decide (i = j)) := by
  by_cases e : i = j
  · subst e; simp [hj]
  · simp [Array.getElem?_setIfInBounds_ne (show j ≠ i from fun h => e h.symm), e]

theorem wpAny_mid {md : Region.Mode} (hchk : chkAll ops eff = true) (hF : ∀ j o, ops[j]? = some o → F (j + 1) = updO (F j) o.dst (r j)) (hd : ∀ o ∈ ops, ∀ t, o.dst = some t → t < n)
    (heff : ∀ j o, ops[j]? = some o → eff j = true → SF P n ops o (F j) (S (cnt eff j)) (r j) (S (cnt eff j + 1)))
    (hpure : ∀ j o, ops[j]? = some o → eff j = false → ∀ k, k ≤ cnt eff ops.length → meets ops eff j k = true → SF P n ops o (F j) (S k) (r j) (S k))
    (hQ : Q .normal (F ops.length) (S (cnt eff ops.length))) (E0 : Env) :
    ∀ (fuel : Nat) (listed : Array Bool) (E : Env) (a : Act), Ext E0 E → Mid (n := n) (ops := ops) (eff := eff) F r S E listed a → ops.length ≤ cnt (fun i => listed.getD i false) ops.length + fuel →
      wpAny P md ops.toArray (post n Q E0) fuel listed a E.w := by
  have hback : edgesBack 0 ops = true := by simp only [chkAll, Bool.and_eq_true] at hchk; exact hchk.1
  -- the end
  have fin : ∀ listed E a, Ext E0 E → Mid (n := n) (ops := ops) (eff := eff) F r S E listed a → (∀ j, j < ops.length → listed.getD j false = true) → post n Q E0 .normal a E.w := by
    intro listed E a hx hm hall
    refine ⟨E, F ops.length, S (cnt eff ops.length), rfl, ?_, ⟨hm.tsize, hm.defers, fun t => ?_⟩, hx, hQ⟩
    · have := hm.store
      rwa [cnt_congr (q := eff) fun i hi => by simp [hall i hi]] at this
    · by_cases hw : ∃ (i : Nat) (p : Oper), ops[i]? = some p ∧ p.dst = some t
      · obtain ⟨i, p, hi, hp⟩ := hw
        have hilt : i < ops.length := (List.getElem?_eq_some_iff.1 hi).1
        have huniq : ∀ (k : Nat) (o : Oper), ops[k]? = some o → k ≠ i → o.dst ≠ some t := by
          intro k o hk hki hkt
          have := chk_pair hchk hk hi
          simp only [chkPair, hp, if_neg (Ne.symm hki), Bool.and_eq_true, bne_iff_ne] at this
          exact this.1.2 hkt
        rw [frame_new F r hF hi hp huniq _ (Nat.le_refl _) hilt]
        exact hm.new t i p hi (hall i hilt) hp
      · have hno : ∀ (i : Nat) (o : Oper), ops[i]? = some o → o.dst ≠ some t := fun i o hi ho => hw ⟨i, o, hi, ho⟩
        rw [frame_old F r hF t _ (Nat.le_refl _) fun i o _ hi => hno i o hi]
        exact hm.old t fun j o hj _ => hno j o hj
  -- nothing is ready only when all is done
  have full : ∀ listed E a, Mid (n := n) (ops := ops) (eff := eff) F r S E listed a → Region.ready md ops.toArray listed = [] → ∀ j, j < ops.length → listed.getD j false = true := by
    intro listed E a hm hr j
    induction j using Nat.strongRecOn with
    | _ j ih =>
      intro hj
      cases hc : listed.getD j false with
      | true => rfl
      | false =>
        exfalso
        obtain ⟨o, ho⟩ : ∃ o, ops[j]? = some o := ⟨_, List.getElem?_eq_getElem hj⟩
        have : j ∈ Region.ready md ops.toArray listed := mem_ready.2 ⟨by
          have : j < listed.size := by rw [hm.size]; exact hj
          simpa [this] using hc, o, by simpa using ho, fun e he _ => by
          have h1 := edgesBack_spec hback j o ho e he
          exact ih e.on (by omega) (by omega)⟩
        rw [hr] at this
        cases this
  intro fuel
  induction fuel with
  | zero =>
    intro listed E a hx hm hcnt
    have hall := cnt_all' (p := fun i => listed.getD i false) (N := ops.length) (by have := cnt_le (fun i => listed.getD i false) ops.length; omega)
    refine ⟨?_, fin listed E a hx hm hall⟩
    cases hr : Region.ready md ops.toArray listed with
    | nil => rfl
    | cons i l =>
      exfalso
      have : i ∈ Region.ready md ops.toArray listed := by rw [hr]; simp
      obtain ⟨h1, o, h2, _⟩ := mem_ready.1 this
      have hlt : i < ops.length := by simpa using (Array.getElem?_eq_some_iff.1 h2).1
      have := hall i hlt
      have hl : i < listed.size := by rw [hm.size]; exact hlt
      simp [hl] at h1 this
      rw [h1] at this; cases this
  | succ fuel ih =>
    intro listed E a hx hm hcnt
    refine ⟨fun hr => fin listed E a hx hm (full listed E a hm hr), fun j hj => ?_⟩
    obtain ⟨hnl, o, ho', hafter⟩ := mem_ready.1 hj
    have ho : ops[j]? = some o := by simpa using ho'
    have hjlt : j < ops.length := (List.getElem?_eq_some_iff.1 ho).1
    have hjl : j < listed.size := by rw [hm.size]; exact hjlt
    have hjf : listed.getD j false = false := by simpa [hjl] using hnl
    -- the listed ones and j
    have hclosed' : Closed ops fun i => listed.getD i false = true ∨ i = j := by
      intro k p hk hx e he ha
      rcases hx with hx | hx
      · exact .inl (hm.closed k p hk hx e he ha)
      · subst hx
        rw [ho] at hk; cases hk
        exact .inl (hafter e he (always_binds ha md))
    have before : ∀ i, i ∈ (anc ops).getD j [] → listed.getD i false = true := by
      intro i hi
      rcases anc_spec hi hclosed' (.inr rfl) with h | h
      · exact h
      · exact absurd (anc_lt hback hjlt hi) (by omega)
    have behind : ∀ i, i < ops.length → j ∈ (anc ops).getD i [] → listed.getD i false = false := by
      intro i hil hi
      cases hc : listed.getD i false with
      | false => rfl
      | true =>
        have := anc_spec hi hm.closed hc
        rw [hjf] at this; cases this
    -- what it looks at
    have hlook : FR E n (only (looks ops o) (F j)) a := by
      refine ⟨hm.tsize, hm.defers, fun t => ?_⟩
      by_cases ht : t ∈ looks ops o
      · rw [only_mem ht]
        by_cases hw : ∃ (i : Nat) (p : Oper), ops[i]? = some p ∧ p.dst = some t
        · obtain ⟨i, p, hi, hp⟩ := hw
          have hilt : i < ops.length := (List.getElem?_eq_some_iff.1 hi).1
          have huniq : ∀ (k : Nat) (q : Oper), ops[k]? = some q → k ≠ i → q.dst ≠ some t := by
            intro k q hk hki hkt
            have := chk_pair hchk hk hi
            simp only [chkPair, hp, if_neg (Ne.symm hki), Bool.and_eq_true, bne_iff_ne] at this
            exact this.1.2 hkt
          have hc := chk_pair hchk ho hi
          simp only [chkPair, hp, Bool.and_eq_true] at hc
          have hij : i ≠ j := by
            intro e
            subst e
            have := hc.1
            simp only [if_true, Bool.not_eq_true', List.contains_eq_mem, decide_eq_false_iff_not] at this
            exact this ht
          have hc1 := hc.1
          rw [if_neg hij] at hc1
          simp only [Bool.and_eq_true, Bool.or_eq_true, Bool.not_eq_true', List.contains_eq_mem, decide_eq_false_iff_not, decide_eq_true_eq] at hc1
          rcases hc1.1 with (h | h) | h
          · exact absurd ht h
          · have hlt := anc_lt hback hjlt h
            rw [frame_new F r hF hi hp huniq j (by omega) hlt]
            exact hm.new t i p hi (before i h) hp
          · have hlt := anc_lt hback hilt h
            rw [frame_old F r hF t j (by omega) fun k q hk hq hqt => by
              by_cases e : k = i
              · omega
              · exact huniq k q hq e hqt]
            refine hm.old t fun k q hq hl hqt => ?_
            by_cases e : k = i
            · subst e
              rw [behind k hilt h] at hl; cases hl
            · exact huniq k q hq e hqt
        · have hno : ∀ (i : Nat) (q : Oper), ops[i]? = some q → q.dst ≠ some t := fun i q hi hq => hw ⟨i, q, hi, hq⟩
          rw [frame_old F r hF t j (by omega) fun i q _ hi => hno i q hi]
          exact hm.old t fun k q hk _ => hno k q hk
      · simp only [only, ht, if_false]; exact .u _
    -- its own fact
    have hk : cnt (fun i => eff i && listed.getD i false) ops.length ≤ cnt eff ops.length := by
      exact cnt_sub (fun i h => by simp only [Bool.and_eq_true] at h; exact h.1) _
    have order : ∀ i q, ops[i]? = some q → eff i = true → eff j = true → (listed.getD i false = true ↔ i < j) := by
      intro i q hi hei hej
      have hilt : i < ops.length := (List.getElem?_eq_some_iff.1 hi).1
      constructor
      · intro hl
        rcases Nat.lt_trichotomy i j with h | h | h
        · exact h
        · subst h; rw [hjf] at hl; cases hl
        · have := chk_pair hchk hi ho
          simp only [chkPair, Bool.and_eq_true, Bool.or_eq_true, Bool.not_eq_true', List.contains_eq_mem, decide_eq_true_eq, hej, hei, decide_eq_false_iff_not, Bool.and_true, Bool.true_and, Bool.and_self] at this
          rcases this.2 with h2 | h2
          · simp [h] at h2
          · rw [behind i hilt h2] at hl; cases hl
      · intro hlt
        have := chk_pair hchk ho hi
        simp only [chkPair, Bool.and_eq_true, Bool.or_eq_true, Bool.not_eq_true', List.contains_eq_mem, decide_eq_true_eq, hej, hei, decide_eq_false_iff_not, Bool.and_true, Bool.true_and, Bool.and_self] at this
        rcases this.2 with h2 | h2
        · simp [hlt] at h2
        · exact before i h2
    have step : ∀ (s' : Store), SF P n ops o (F j) (S (cnt (fun i => eff i && listed.getD i false) ops.length)) (r j) s' → s' = S (cnt (fun i => eff i && (listed.setIfInBounds j true).getD i false) ops.length) →
        wpOp P ops.toArray (post n Q E0) j (wpAny P md ops.toArray (post n Q E0) fuel (listed.setIfInBounds j true)) a E.w := by
      intro s' hsf hs'
      have := hsf E a hm.store hlook (wpAny P md ops.toArray (post n Q E0) fuel (listed.setIfInBounds j true)) (post n Q E0) fun E' cv h1 h2 h3 => by
        refine ih _ E' _ (hx.trans h3) ⟨by simpa using hm.size, ?_, by rw [← hs']; exact h1, by cases o.dst <;> simp [Act.put, hm.tsize], by cases o.dst <;> simp [Act.put, hm.defers], ?_, ?_⟩ ?_
        · intro k p hk hl e he ha
          simp only [getD_set hjl, Bool.or_eq_true, decide_eq_true_eq] at hl ⊢
          exact .inl (by
            rcases hclosed' k p hk hl e he ha with h | h
            · exact h
            · rcases hl with hl | hl
              · exact hm.closed k p hk hl e he ha
              · subst hl
                rw [ho] at hk; cases hk
                exact hafter e he (always_binds ha md))
        · intro t k p hk hl hp
          simp only [getD_set hjl, Bool.or_eq_true, decide_eq_true_eq] at hl
          by_cases e : k = j
          · subst e
            rw [ho] at hk; cases hk
            have htn := hd o (List.mem_of_getElem? ho) t hp
            have : (a.put o.dst cv).tmps.getD t undef = cv := by rw [hp]; simp [Act.put, hm.tsize, htn]
            rw [this]; exact h2
          · have hne : o.dst ≠ some t := by
              intro hot
              have := chk_pair hchk ho hk
              simp only [chkPair, hp, if_neg e, Bool.and_eq_true, bne_iff_ne] at this
              exact this.1.2 hot
            have : (a.put o.dst cv).tmps.getD t undef = a.tmps.getD t undef := by
              cases hdst : o.dst with
              | none => rfl
              | some d =>
                have : d ≠ t := fun h => hne (by rw [hdst, h])
                simp [Act.put, Array.getElem?_setIfInBounds_ne this]
            rw [this]
            exact (hm.new t k p hk (hl.resolve_right e) hp).ext h3
        · intro t hno
          have hot : o.dst ≠ some t := hno j o ho (by simp [getD_set hjl])
          have : (a.put o.dst cv).tmps.getD t undef = a.tmps.getD t undef := by
            cases hdst : o.dst with
            | none => rfl
            | some d =>
              have : d ≠ t := fun h => hot (by rw [hdst, h])
              simp [Act.put, Array.getElem?_setIfInBounds_ne this]
          rw [this]
          exact (hm.old t fun k p hk hl => hno k p hk (by simp [getD_set hjl, hl])).ext h3
        · have := cnt_add (p := fun i => listed.getD i false) (q := fun i => (listed.setIfInBounds j true).getD i false) hjlt (fun i hi => by simp [getD_set hjl, hi]) hjf (by simp [getD_set hjl])
          omega
      unfold wpOp
      simp only [ho']
      exact this
    cases he : eff j with
    | true =>
      have hkk : cnt (fun i => eff i && listed.getD i false) ops.length = cnt eff j := by
        rw [← cnt_head (eff := eff) (j := j) (N := ops.length) (by omega)]
        refine cnt_congr fun i hi => ?_
        obtain ⟨q, hq⟩ : ∃ q, ops[i]? = some q := ⟨_, List.getElem?_eq_getElem hi⟩
        cases hei : eff i with
        | false => simp
        | true =>
          have := order i q hq hei he
          simp only [Bool.true_and]
          by_cases h : i < j
          · simp [h, this.2 h]
          · cases hl : listed.getD i false with
            | false => simp [h]
            | true => exact absurd (this.1 hl) h
      refine step _ (by rw [hkk]; exact heff j o ho he) ?_
      have := cnt_add (p := fun i => eff i && listed.getD i false) (q := fun i => eff i && (listed.setIfInBounds j true).getD i false) hjlt (fun i hi => by simp [getD_set hjl, hi]) (by simp only [hjf, Bool.and_false]) (by simp [getD_set hjl, he])
      rw [this, hkk]
    | false =>
      refine step _ (hpure j o ho he _ hk ?_) ?_
      · simp only [meets]
        refine List.all_eq_true.2 fun i hi => ?_
        have hil : i < ops.length := by simpa using hi
        cases hei : eff i with
        | false => simp
        | true =>
          obtain ⟨q, hq⟩ : ∃ q, ops[i]? = some q := ⟨_, List.getElem?_eq_getElem hil⟩
          -- the effects up to i stand ahead of i
          have ahead : ∀ i' q', ops[i']? = some q' → eff i' = true → i' < i → i' ∈ (anc ops).getD i [] := by
            intro i' q' hq' hei' hlt
            have := chk_pair hchk hq hq'
            simp only [chkPair, Bool.and_eq_true, Bool.or_eq_true, Bool.not_eq_true', List.contains_eq_mem, decide_eq_true_eq, hei, hei', decide_eq_false_iff_not, Bool.and_true, Bool.true_and, Bool.and_self] at this
            rcases this.2 with h2 | h2
            · simp [hlt] at h2
            · exact h2
          have up : listed.getD i false = true → cnt eff i < cnt (fun i => eff i && listed.getD i false) ops.length := by
            intro hl
            have h1 : cnt eff i = cnt (fun i => eff i && listed.getD i false) i := cnt_congr fun i' hi' => by
              obtain ⟨q', hq'⟩ : ∃ q', ops[i']? = some q' := ⟨_, List.getElem?_eq_getElem (by omega)⟩
              cases hei' : eff i' with
              | false => simp
              | true =>
                have := anc_spec (ahead i' q' hq' hei' hi') hm.closed hl
                rw [this]; rfl
            rw [h1]
            exact cnt_lt (fun i => eff i && listed.getD i false) hil (by simp only [hei, hl, Bool.and_self])
          have down : listed.getD i false = false → cnt (fun i => eff i && listed.getD i false) ops.length ≤ cnt eff i := by
            intro hl
            have h1 : cnt (fun i' => eff i' && listed.getD i' false) ops.length = cnt (fun i' => (eff i' && listed.getD i' false) && decide (i' < i)) ops.length := cnt_congr fun i' hi' => by
              obtain ⟨q', hq'⟩ : ∃ q', ops[i']? = some q' := ⟨_, List.getElem?_eq_getElem hi'⟩
              by_cases hlt : i' < i
              · simp [hlt]
              · cases hei' : eff i' with
                | false => simp
                | true =>
                  cases hl' : listed.getD i' false with
                  | false => simp
                  | true =>
                    exfalso
                    by_cases e : i' = i
                    · subst e; rw [hl] at hl'; cases hl'
                    · have := chk_pair hchk hq' hq
                      simp only [chkPair, Bool.and_eq_true, Bool.or_eq_true, Bool.not_eq_true', List.contains_eq_mem, decide_eq_true_eq, hei, hei', decide_eq_false_iff_not, Bool.and_true, Bool.true_and, Bool.and_self] at this
                      rcases this.2 with h2 | h2
                      · simp [show i < i' by omega] at h2
                      · have := anc_spec h2 hm.closed hl'
                        rw [hl] at this; cases this
            rw [h1, cnt_head (eff := fun i' => eff i' && listed.getD i' false) (by omega)]
            exact cnt_sub (fun i h => by simp only [Bool.and_eq_true] at h; exact h.1) _
          simp only [Bool.not_true, Bool.false_or, Bool.and_eq_true, Bool.or_eq_true, Bool.not_eq_true', List.contains_eq_mem, decide_eq_false_iff_not, decide_eq_true_eq]
          constructor
          · by_cases h : i ∈ (anc ops).getD j []
            · exact .inr (up (before i h))
            · exact .inl h
          · by_cases h : j ∈ (anc ops).getD i []
            · exact .inr (down (behind i hil h))
            · exact .inl h
      · congr 1
        refine cnt_congr fun i hi => ?_
        by_cases e : i = j
        · subst e; simp [he]
        · simp [getD_set hjl, e]

/-- A region whose order is open. -/
theorem awp_drawn {id : Nat} (hchk : chkAll ops eff = true) (hF : ∀ j o, ops[j]? = some o → F (j + 1) = updO (F j) o.dst (r j)) (hd : ∀ o ∈ ops, ∀ t, o.dst = some t → t < n)
    (heff : ∀ j o, ops[j]? = some o → eff j = true → SF P n ops o (F j) (S (cnt eff j)) (r j) (S (cnt eff j + 1)))
    (hpure : ∀ j o, ops[j]? = some o → eff j = false → ∀ k, k ≤ cnt eff ops.length → meets ops eff j k = true → SF P n ops o (F j) (S k) (r j) (S k))
    (hQ : Q .normal (F ops.length) (S (cnt eff ops.length))) : awp P n (.region id ops.toArray true) Q (F 0) (S 0) := by
  intro E a hS hF0
  refine wp_region_draw fun t => ?_
  obtain ⟨hS1, hx1⟩ := hS.grew (Grew.drew E.w)
  have hcnt0 : ∀ N, cnt (fun i => eff i && (Array.replicate ops.toArray.size false).getD i false) N = 0 := by
    intro N
    induction N with
    | zero => rfl
    | succ N ih => simp only [cnt]; rw [ih]; by_cases h : N < ops.length <;> simp [h]
  have hfalse : ∀ i, (Array.replicate ops.toArray.size false).getD i false = false := by
    intro i; by_cases h : i < ops.length <;> simp [h]
  have mid : Mid (n := n) (ops := ops) (eff := eff) F r S { E with w := E.w.drew } (Array.replicate ops.toArray.size false) a :=
    { size := by simp
      closed := fun j o _ h => by simp only [hfalse] at h; cases h
      store := by rw [hcnt0]; exact hS1
      tsize := hF0.size
      defers := hF0.defers
      new := fun t j o _ h => by simp only [hfalse] at h; cases h
      old := fun t _ => (hF0.tmps t).ext hx1 }
  have lin : ∀ md t, wpOps P ops.toArray (post n Q E) (Region.linearise md ops.toArray t) a E.w.drew := fun md t =>
    wpAny_sound ops.toArray.size t _ a _ (wpAny_mid F r S hchk hF hd heff hpure hQ E ops.toArray.size _ { E with w := E.w.drew } a hx1 mid (by simp))
  unfold Region.schedule
  split
  · exact lin _ _
  · exact lin _ _

end

end AM
end Go.Proofs.Ytplddidoobjcnaa
