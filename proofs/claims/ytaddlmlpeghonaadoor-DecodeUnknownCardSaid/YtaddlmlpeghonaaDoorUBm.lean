import Derived.Test.YtaddlmlpeghonaaDoorUBl
set_option linter.unusedSimpArgs false
set_option linter.unusedVariables false
set_option linter.constructorNameAsVariable false
namespace Go.Proofs.YtaddlmlpeghonaaDoor
namespace AM
open Go.RowKit
def always (e : Edge) : Bool :=
 match e.ground with
 | .textOnly _ | .gcOnly _ => false
 | _ => true
theorem always_binds {e : Edge} (h : always e = true) (md : Region.Mode) : Region.binds md e = true := by
 unfold always at h
 unfold Region.binds
 split at h <;> simp_all
def ancGo : List (List Nat) → List Oper → List (List Nat)
 | acc, [] => acc
 | acc, o :: l =>
  let d := (o.after.toList.filter always).map (·.on)
  ancGo (acc ++ [d ++ d.flatMap fun i => acc.getD i []]) l
def anc (l : List Oper) : List (List Nat) := ancGo [] l
def edgesBack : Nat → List Oper → Bool
 | _, [] => true
 | j, o :: l => o.after.all (fun e => !always e || decide (e.on < j)) && edgesBack (j + 1) l
def lvls (md : Region.Mode) (ops : List Oper) : Nat → List Nat → List Nat
 | 0, ls => ls
 | n + 1, ls => lvls md ops n (ops.map fun o => (o.after.toList.filter (Region.binds md)).foldl (fun m e => max m (ls.getD e.on 0 + 1)) 0)
def topo (md : Region.Mode) (ops : List Oper) : Bool :=
 let L := lvls md ops ops.length (List.replicate ops.length 0)
 ops.zipIdx.all fun (o, j) => o.after.all fun e => !Region.binds md e || (decide (L.getD e.on 0 < L.getD j 0) && decide (e.on < ops.length))
theorem topo_spec {md : Region.Mode} {ops : List Oper} (h : topo md ops = true) : ∃ L : Nat → Nat, ∀ j o, ops[j]? = some o → ∀ e ∈ o.after, Region.binds md e = true → L e.on < L j ∧ e.on < ops.length := by
 refine ⟨fun j => (lvls md ops ops.length (List.replicate ops.length 0)).getD j 0, fun j o ho e he hb => ?_⟩
 unfold topo at h
 simp only at h
 have h1 := List.all_eq_true.1 h (o, j) (by
  rw [List.mem_iff_getElem?]
  exact ⟨j, by rw [List.getElem?_zipIdx, ho]; simp⟩)
 have h2 := Array.all_eq_true_iff_forall_mem.1 h1 e he
 simpa [hb] using h2
def Closed (ops : List Oper) (X : Nat → Prop) : Prop := ∀ j o, ops[j]? = some o → X j → ∀ e ∈ o.after, always e = true → X e.on
theorem anc_closed {ops : List Oper} : ∀ (l : List Oper) (acc : List (List Nat)), (∃ pre, ops = pre ++ l ∧ pre.length = acc.length) → (∀ j i, i ∈ acc.getD j [] → ∀ X, Closed ops X → X j → X i) →
 ∀ j i, i ∈ (ancGo acc l).getD j [] → ∀ X, Closed ops X → X j → X i := by
 intro l
 induction l with
 | nil => intro acc _ h; exact h
 | cons o l ih =>
  intro acc ⟨pre, hp, hl⟩ h
  simp only [ancGo]
  refine ih _ ⟨pre ++ [o], by simp [hp], by simp [hl]⟩ ?_
  intro j i hi X hX hj
  by_cases hlt : j < acc.length
  · rw [List.getD_eq_getElem?_getD, List.getElem?_append_left hlt, ← List.getD_eq_getElem?_getD] at hi
    exact h j i hi X hX hj
  · by_cases he : j = acc.length
    · subst he
      rw [List.getD_eq_getElem?_getD, List.getElem?_append_right (Nat.le_refl _), Nat.sub_self, List.getElem?_cons_zero, Option.getD_some] at hi
      have hops : ops[acc.length]? = some o := by rw [hp, ← hl]; simp
      have direct : ∀ d, d ∈ (o.after.toList.filter always).map (·.on) → X d := by
       intro d hd
       obtain ⟨e, he, rfl⟩ := List.mem_map.1 hd
       obtain ⟨h1, h2⟩ := List.mem_filter.1 he
       exact hX _ o hops hj e (by simpa using h1) h2
      rcases List.mem_append.1 hi with hi | hi
      · exact direct i hi
      · obtain ⟨d, hd, hi⟩ := List.mem_flatMap.1 hi
        exact h d i hi X hX (direct d hd)
    · rw [List.getD_eq_getElem?_getD, List.getElem?_eq_none (by simp; omega)] at hi
      simp at hi
theorem anc_spec {ops : List Oper} {j i : Nat} (hi : i ∈ (anc ops).getD j []) {X : Nat → Prop} (hX : Closed ops X) (hj : X j) : X i :=
 anc_closed ops [] ⟨[], by simp, rfl⟩ (fun j i h => by simp at h) j i hi X hX hj
theorem edgesBack_spec : ∀ {l : List Oper} {k : Nat}, edgesBack k l = true → ∀ j o, l[j]? = some o → ∀ e ∈ o.after, always e = true → e.on < k + j := by
 intro l
 induction l with
 | nil => intro k _ j o h; simp at h
 | cons x l ih =>
  intro k h j o hj e he ha
  simp only [edgesBack, Bool.and_eq_true] at h
  cases j with
  | zero =>
   simp at hj; subst hj
   have := Array.all_eq_true_iff_forall_mem.1 h.1 e he
   simpa [ha] using this
  | succ j =>
   have := ih h.2 j o (by simpa using hj) e he ha
   omega
theorem anc_lt {ops : List Oper} (hb : edgesBack 0 ops = true) {j i : Nat} (hj : j < ops.length) (hi : i ∈ (anc ops).getD j []) : i < j := by
 -- what stands in front of j is below j: the numbers up to j, without j, and j
 have h := anc_spec (X := fun x => x ≤ j) hi (fun k o hk hx e he ha => by
  have h1 := edgesBack_spec hb k o hk e he ha
  show e.on ≤ j
  have h2 : k ≤ j := hx
  omega) (Nat.le_refl j)
 -- j itself is not among them
 rcases Nat.lt_or_ge i j with h1 | h1
 · exact h1
 · exfalso
   have h2 : i ≤ j := h
   have hij : i = j := by omega
   subst hij
   have key : ∀ (l : List Oper) (acc : List (List Nat)), (∃ pre, ops = pre ++ l ∧ pre.length = acc.length) → (∀ j i, i ∈ acc.getD j [] → i < j) → ∀ j i, i ∈ (ancGo acc l).getD j [] → i < j := by
    intro l
    induction l with
    | nil => intro acc _ h; exact h
    | cons o l ih =>
     intro acc ⟨pre, hp, hl⟩ h
     simp only [ancGo]
     refine ih _ ⟨pre ++ [o], by simp [hp], by simp [hl]⟩ ?_
     intro j i hi
     by_cases hlt : j < acc.length
     · rw [List.getD_eq_getElem?_getD, List.getElem?_append_left hlt, ← List.getD_eq_getElem?_getD] at hi
       exact h j i hi
     · by_cases he : j = acc.length
       · subst he
         rw [List.getD_eq_getElem?_getD, List.getElem?_append_right (Nat.le_refl _), Nat.sub_self, List.getElem?_cons_zero, Option.getD_some] at hi
         have hops : ops[acc.length]? = some o := by rw [hp, ← hl]; simp
         have direct : ∀ d, d ∈ (o.after.toList.filter always).map (·.on) → d < acc.length := by
          intro d hd
          obtain ⟨e, he, rfl⟩ := List.mem_map.1 hd
          obtain ⟨h1, h2⟩ := List.mem_filter.1 he
          have := edgesBack_spec hb _ o hops e (by simpa using h1) h2
          omega
         rcases List.mem_append.1 hi with hi | hi
         · exact direct i hi
         · obtain ⟨d, hd, hi⟩ := List.mem_flatMap.1 hi
           have := h d i hi
           have := direct d hd
           omega
       · rw [List.getD_eq_getElem?_getD, List.getElem?_eq_none (by simp; omega)] at hi
         simp at hi
   have := key ops [] ⟨[], by simp, rfl⟩ (fun j i h => by simp at h) i i hi
   omega
def tmpsOf (l : List Operand) : List Tmp := l.filterMap fun | .tmp t => some t | _ => none
def looks (ops : List Oper) (o : Oper) : List Tmp :=
 tmpsOf o.op.operands.toList ++ (match o.guard with
  | some (g, _) => ((ops[g]?).bind (·.dst)).toList
  | none => [])
theorem ev_congr {F G : Fr} {l : List Operand} (h : ∀ t ∈ tmpsOf l, F t = G t) : ∀ x ∈ l, ev F x = ev G x := by
 intro x hx
 cases x with
 | tmp t => exact h t (List.mem_filterMap.2 ⟨.tmp t, hx, rfl⟩)
 | _ => rfl
theorem parts_congr {ρ ρ' : Operand → AV} (ps : Array (Nat × Operand)) (h : ∀ x ∈ (ps.toList.map (·.2)), ρ x = ρ' x) : (ps.toList.map fun p => (p.1, ρ p.2)) = ps.toList.map fun p => (p.1, ρ' p.2) :=
 List.map_congr_left fun p hp => by rw [h p.2 (List.mem_map.2 ⟨p, hp, rfl⟩)]
theorem evOp_congr {T : TT} {op : Op} {ρ ρ' : Operand → AV} {σ : Store} (h : ∀ x ∈ op.operands.toList, ρ x = ρ' x) : evOp T op ρ σ = evOp T op ρ' σ := by
 cases op <;> simp only [Op.operands] at h <;> simp only [evOp]
 case build t ps => rw [parts_congr ps fun x hx => h x (by simpa using hx)]
 case buildSlice t n ps => rw [parts_congr ps fun x hx => h x (by simpa using hx)]
 case makeFunc f a b =>
  rw [List.map_congr_left (l := a.toList) fun x hx => h x (by simp at hx ⊢; exact .inl hx), List.map_congr_left (l := b.toList) fun x hx => h x (by simp at hx ⊢; exact .inr hx)]
 case slice t x lo hi mx => cases lo <;> cases hi <;> cases mx <;> simp_all
 case makeMap t r => cases r <;> simp_all
 case call c =>
  obtain ⟨cal, args, ats⟩ := c
  cases cal <;> simp only []
  rw [List.map_congr_left (l := args.toList) fun x hx => h x (by simp only [Call.operands]; simpa using hx)]
 all_goals (first | rfl | (simp_all; done))
theorem callee_congr {F G : Fr} {o : Oper} (h : ∀ x ∈ o.op.operands.toList, ev F x = ev G x) : callee F o = callee G o := by
 obtain ⟨dst, op, ty, pos, after, guard⟩ := o
 cases op <;> simp only [callee]
 rename_i c
 obtain ⟨cal, args, ats⟩ := c
 cases cal <;> simp only []
 rename_i f
 simp only [Op.operands, Call.operands] at h
 rw [h f (by simp), List.map_congr_left (l := args.toList) fun x hx => h x (by simp at hx ⊢; exact .inr hx)]
theorem guardA_congr {F G : Fr} {ops : List Oper} {o : Oper} (h : ∀ t ∈ looks ops o, F t = G t) : guardA ops.toArray F o = guardA ops.toArray G o := by
 unfold guardA
 split
 · rfl
 · rename_i j want hg
   simp only [List.getElem?_toArray]
   cases ht : (ops[j]?).bind (·.dst) with
   | none => rfl
   | some t => simp only []; rw [h t (by simp [looks, hg, ht])]
def only (l : List Tmp) (F : Fr) : Fr := fun t => if t ∈ l then F t else .u
theorem only_mem {l : List Tmp} {F : Fr} {t : Tmp} (h : t ∈ l) : only l F t = F t := by simp [only, h]
def SF (P : Program) (n : Nat) (ops : List Oper) (o : Oper) (F : Fr) (σ : Store) (r : AV) (σ' : Store) : Prop :=
 ∀ E a, SR E σ → FR E n (only (looks ops o) F) a → ∀ (K : Act → World → Prop) (Qc : Exit → Act → World → Prop), (∀ E' cv, SR E' σ' → VR E' r cv → Ext E E' → K (a.put o.dst cv) E'.w) →
  if Region.wanted o (yielded ops.toArray a.tmps) then o.wp P a E.w K Qc ∨ (o.asks P a E.w ∧ LetsOut Qc) else K (a.put o.dst undef) E.w
section
variable {P : Program} {n : Nat} {F : Fr} {σ σ' : Store}
theorem op_wp' {T : TT} (hT : TOK P T) {o : Oper} {r : AV} (h : evOp T o.op (ev F) σ = some (r, σ')) {E : Env} {a : Act} (hS : SR E σ) (hF : FR E n F a) {next : Act → World → Prop} {Qc : Exit → Act → World → Prop}
 (hn : ∀ E' cv, SR E' σ' → VR E' r cv → Ext E E' → next (a.put o.dst cv) E'.w) : o.wp P a E.w next Qc := by
 obtain ⟨E', h1, h2, h3⟩ := run_evOp hT hS (o := o) (fun x => hF.ev x) h
 unfold Oper.wp
 rcases h3 with ⟨cv, h4, h5⟩ | ⟨h4, h5⟩
 · rw [h4]; exact hn E' _ h1 h5 h2
 · subst h5
   rw [h4]; exact hn E' _ h1 (.u _) h2
theorem SF.op {T : TT} (hT : TOK P T) {ops : List Oper} {o : Oper} {r : AV} (hg : guardA ops.toArray F o = some true) (h : evOp T o.op (ev F) σ = some (r, σ')) : SF P n ops o F σ r σ' := by
 intro E a hS hF K Qc hK
 have h1 : ∀ t ∈ looks ops o, only (looks ops o) F t = F t := fun t ht => only_mem ht
 rw [← guardA_congr h1] at hg
 rw [if_pos (guardA_wanted hF hg)]
 rw [← evOp_congr (ρ := ev (only (looks ops o) F)) (ev_congr fun t ht => h1 t (List.mem_append_left _ ht))] at h
 exact .inl (op_wp' hT h hS hF hK)
theorem SF.skip {ops : List Oper} {o : Oper} (hg : guardA ops.toArray F o = some false) : SF P n ops o F σ .u σ := by
 intro E a hS hF K Qc hK
 have h1 : ∀ t ∈ looks ops o, only (looks ops o) F t = F t := fun t ht => only_mem ht
 rw [← guardA_congr h1] at hg
 rw [if_neg (by rw [guardA_wanted hF hg]; simp)]
 exact hK E _ hS (.u _) (Ext.refl E)
theorem SF.call {ops : List Oper} {o : Oper} {f : FuncId} {args : List AV} {r : AV} (hg : guardA ops.toArray F o = some true) (hc : callee F o = some (f, args)) (h : ACalls P f args σ fun r' s => r' = r ∧ s = σ') : SF P n ops o F σ r σ' := by
 intro E a hS hF K Qc hK
 have h1 : ∀ t ∈ looks ops o, only (looks ops o) F t = F t := fun t ht => only_mem ht
 rw [← guardA_congr h1] at hg
 rw [if_pos (guardA_wanted hF hg)]
 rw [← callee_congr (F := only (looks ops o) F) (ev_congr fun t ht => h1 t (List.mem_append_left _ ht))] at hc
 refine .inl ?_
 obtain ⟨dst, op, ty, pos, after, guard⟩ := o
 generalize only _ F = G at hF hc
 unfold callee at hc
 simp only at hc
 split at hc
 · rename_i fo ao ats
   split at hc
   · rename_i g first cap hfo
     cases hc
     have hv := hF.ev fo
     rw [hfo] at hv
     generalize hfv : a.eval fo = fv at hv
     cases hv with | fn _ _ _ vf vc h1 h2 h3 h4 =>
     have hargs := listR_append (listR_append (listR_of h1 h3) (list_ev (fun x => hF.ev x) ao)) (listR_of h2 h4)
     unfold Oper.wp
     have hrun : (execOp a.eval { dst := dst, op := .call { callee := .value fo, args := ao, argTypes := ats }, type := ty, pos := pos, after := after, guard := guard }).run P E.w = .ok (.enter f (vf ++ ao.map a.eval ++ vc)) E.w := by
      simp only [execOp, resolve, hfv, Deferred.ofValue, Sem.run_bind, Sem.run_pure, Result.andThen_ok, invoke]
      exact h.1 _ _
     rw [hrun]
     refine (h.2 E _ hS hargs).mono ?_
     rintro e w' ⟨v, r', s', E', rfl, rfl, h5, h6, h7, rfl, rfl⟩
     exact hK E' v h6 h5 h7
   · cases hc
 · cases hc
end
def cnt (eff : Nat → Bool) : Nat → Nat
 | 0 => 0
 | j + 1 => cnt eff j + (if eff j then 1 else 0)
theorem cnt_mono (eff : Nat → Bool) {i j : Nat} (h : i ≤ j) : cnt eff i ≤ cnt eff j := by
 induction j with
 | zero => have : i = 0 := by omega
           subst this; exact Nat.le_refl _
 | succ j ih =>
  by_cases e : i = j + 1
  · subst e; exact Nat.le_refl _
  · have := ih (by omega); simp only [cnt]; omega
theorem cnt_lt (eff : Nat → Bool) {i j : Nat} (h : i < j) (hi : eff i = true) : cnt eff i < cnt eff j := by
 have h1 := cnt_mono eff (show i + 1 ≤ j from h)
 simp only [cnt, hi, if_true] at h1
 omega
def hard (eff flt : Nat → Bool) (i : Nat) : Bool := eff i && !flt i
def chkPair (ops : List Oper) (A : List (List Nat)) (eff flt : Nat → Bool) (j : Nat) (o : Oper) (i : Nat) (p : Oper) : Bool :=
 (match p.dst with
  | some d => (if i = j then !((looks ops o).contains d) else (!((looks ops o).contains d) || ((A.getD j []).contains i && (!(flt i) || hard eff flt j || (A.getD j []).any fun q => decide (i < q) && hard eff flt q)) || (A.getD i []).contains j) && (o.dst != some d))
  | none => true) &&
 (!(eff i && hard eff flt j && decide (i < j)) || (A.getD j []).contains i)
def chkAll (ops : List Oper) (eff flt : Nat → Bool) : Bool :=
 edgesBack 0 ops && (topo .text ops && (topo .gc ops && topo .any ops)) && (let A := anc ops; ops.zipIdx.all fun (o, j) => (!(flt j) || eff j) && ops.zipIdx.all fun (p, i) => chkPair ops A eff flt j o i p)
def meets (ops : List Oper) (eff flt : Nat → Bool) (j k : Nat) : Bool :=
 let A := anc ops
 (List.range ops.length).all fun i => !eff i || ((flt i || !((A.getD j []).contains i) || decide (cnt eff i < k)) && (!((A.getD i []).contains j) || decide (k ≤ cnt eff i)))
theorem cnt_congr {p q : Nat → Bool} : ∀ {N : Nat}, (∀ i, i < N → p i = q i) → cnt p N = cnt q N := by
 intro N
 induction N with
 | zero => intro _; rfl
 | succ N ih => intro h; simp only [cnt]; rw [ih fun i hi => h i (by omega), h N (by omega)]
theorem cnt_add {p q : Nat → Bool} {j : Nat} : ∀ {N : Nat}, j < N → (∀ i, i ≠ j → q i = p i) → p j = false → q j = true → cnt q N = cnt p N + 1 := by
 intro N
 induction N with
 | zero => intro h; omega
 | succ N ih =>
  intro hj h hp hq
  simp only [cnt]
  by_cases e : j = N
  · subst e
    rw [cnt_congr (p := q) (q := p) fun i hi => h i (by omega), hp, hq]
    simp
  · rw [ih (by omega) h hp hq, h N (fun e' => e e'.symm)]
    omega
theorem cnt_le (p : Nat → Bool) : ∀ N, cnt p N ≤ N
 | 0 => Nat.le_refl _
 | N + 1 => by have := cnt_le p N; simp only [cnt]; split <;> omega
theorem cnt_all' {p : Nat → Bool} : ∀ {N : Nat}, cnt p N = N → ∀ i, i < N → p i = true := by
 intro N
 induction N with
 | zero => intro _ i hi; omega
 | succ N ih =>
  intro h i hi
  simp only [cnt] at h
  have := cnt_le p N
  by_cases e : i = N
  · subst e
    cases hp : p i with
    | true => rfl
    | false => rw [hp] at h; simp at h; omega
  · refine ih ?_ i (by omega)
    split at h <;> omega
theorem chk_pair {ops : List Oper} {eff flt : Nat → Bool} (h : chkAll ops eff flt = true) {i j : Nat} {o p : Oper} (hj : ops[j]? = some o) (hi : ops[i]? = some p) : chkPair ops (anc ops) eff flt j o i p = true := by
 simp only [chkAll, Bool.and_eq_true] at h
 have h1 := List.all_eq_true.1 h.2 (o, j) (by rw [List.mem_zipIdx_iff_getElem?]; exact hj)
 simp only [Bool.and_eq_true] at h1
 have h2 := List.all_eq_true.1 h1.2 (p, i) (by rw [List.mem_zipIdx_iff_getElem?]; exact hi)
 exact h2
theorem chk_flt {ops : List Oper} {eff flt : Nat → Bool} (h : chkAll ops eff flt = true) {j : Nat} {o : Oper} (hj : ops[j]? = some o) (hf : flt j = true) : eff j = true := by
 simp only [chkAll, Bool.and_eq_true] at h
 have h1 := List.all_eq_true.1 h.2 (o, j) (by rw [List.mem_zipIdx_iff_getElem?]; exact hj)
 simp only [Bool.and_eq_true, hf, Bool.not_true, Bool.false_or] at h1
 exact h1.1
theorem chk_dst {ops : List Oper} {eff flt : Nat → Bool} (h : chkAll ops eff flt = true) {i j : Nat} {o p : Oper} {t : Tmp} (hj : ops[j]? = some o) (hi : ops[i]? = some p) (hne : i ≠ j) (hp : p.dst = some t) : o.dst ≠ some t := by
 have := chk_pair h hj hi
 simp only [chkPair, hp, if_neg hne, Bool.and_eq_true, bne_iff_ne] at this
 exact this.1.2
theorem chk_hard {ops : List Oper} {eff flt : Nat → Bool} (h : chkAll ops eff flt = true) {i j : Nat} {o p : Oper} (hj : ops[j]? = some o) (hi : ops[i]? = some p) (he : eff i = true) (hh : hard eff flt j = true) (hlt : i < j) : i ∈ (anc ops).getD j [] := by
 have := chk_pair h hj hi
 simp only [chkPair, Bool.and_eq_true, Bool.or_eq_true, Bool.not_eq_true', List.contains_eq_mem, decide_eq_true_eq] at this
 rcases this.2 with h2 | h2
 · simp [he, hh, hlt] at h2
 · exact h2
theorem chk_look {ops : List Oper} {eff flt : Nat → Bool} (h : chkAll ops eff flt = true) {i j : Nat} {o p : Oper} {t : Tmp} (hj : ops[j]? = some o) (hi : ops[i]? = some p) (hp : p.dst = some t) (ht : t ∈ looks ops o) :
 i ≠ j ∧ (j ∈ (anc ops).getD i [] ∨ (i ∈ (anc ops).getD j [] ∧ (flt i = false ∨ hard eff flt j = true ∨ ∃ q, q ∈ (anc ops).getD j [] ∧ i < q ∧ hard eff flt q = true))) := by
 have hc := chk_pair h hj hi
 simp only [chkPair, hp, Bool.and_eq_true] at hc
 have hij : i ≠ j := by
  intro e
  subst e
  have := hc.1
  simp only [if_true, Bool.not_eq_true', List.contains_eq_mem, decide_eq_false_iff_not] at this
  exact this ht
 refine ⟨hij, ?_⟩
 have hc1 := hc.1
 rw [if_neg hij] at hc1
 simp only [Bool.and_eq_true, Bool.or_eq_true, Bool.not_eq_true', List.contains_eq_mem, decide_eq_false_iff_not, decide_eq_true_eq, List.any_eq_true] at hc1
 rcases hc1.1 with (h | ⟨h1, h2⟩) | h
 · exact absurd ht h
 · refine .inr ⟨h1, ?_⟩
   rcases h2 with (h2 | h2) | ⟨q, hq, h3, h4⟩
   · exact .inl h2
   · exact .inr (.inl h2)
   · exact .inr (.inr ⟨q, hq, h3, h4⟩)
 · exact .inl h
section
variable {P : Program} {n k0 : Nat} {Q : Exit → Fr → Store → Prop} {ops : List Oper} {eff flt : Nat → Bool} (F : Nat → Fr) (r : Nat → AV) (S : Nat → Store)
theorem frame_old (hF : ∀ j o, ops[j]? = some o → F (j + 1) = updO (F j) o.dst (r j)) (t : Tmp) : ∀ j, j ≤ ops.length → (∀ i o, i < j → ops[i]? = some o → o.dst ≠ some t) → F j t = F 0 t := by
 intro j
 induction j with
 | zero => intro _ _; rfl
 | succ j ih =>
  intro hj h
  obtain ⟨o, ho⟩ : ∃ o, ops[j]? = some o := ⟨_, List.getElem?_eq_getElem (by omega)⟩
  rw [hF j o ho]
  have hne := h j o (by omega) ho
  rw [← ih (by omega) fun i o hi => h i o (by omega)]
  cases hd : o.dst with
  | none => rfl
  | some d =>
   have : t ≠ d := fun e => hne (by rw [hd, e])
   simp [updO, upd, this]
theorem frame_new (hF : ∀ j o, ops[j]? = some o → F (j + 1) = updO (F j) o.dst (r j)) {t : Tmp} {i : Nat} {p : Oper} (hi : ops[i]? = some p) (hp : p.dst = some t) (huniq : ∀ k o, ops[k]? = some o → k ≠ i → o.dst ≠ some t) :
 ∀ j, j ≤ ops.length → i < j → F j t = r i := by
 intro j
 induction j with
 | zero => intro _ h; omega
 | succ j ih =>
  intro hj hij
  obtain ⟨o, ho⟩ : ∃ o, ops[j]? = some o := ⟨_, List.getElem?_eq_getElem (by omega)⟩
  rw [hF j o ho]
  by_cases e : i = j
  · subst e
    rw [hi] at ho; cases ho
    rw [hp]; simp [updO, upd]
  · have hne := huniq j o ho (fun h => e h.symm)
    rw [← ih (by omega) (by omega)]
    cases hd : o.dst with
    | none => rfl
    | some d =>
     have : t ≠ d := fun h => hne (by rw [hd, h])
     simp [updO, upd, this]
structure Mid (lo : Nat) (E : Env) (listed : Array Bool) (a : Act) (m : Nat) (fb : Nat → Nat) : Prop where
 size : listed.size = ops.length
 closed : Closed ops fun j => listed.getD j false = true
 mle : m ≤ ops.length
 done : ∀ i, i < m → eff i = true → listed.getD i false = true
 none : ∀ i, m ≤ i → hard eff flt i = true → listed.getD i false = false
 store : SR E (S (cnt eff m))
 tsize : a.tmps.size = n
 defers : a.defers = []
 new : ∀ t j o, ops[j]? = some o → listed.getD j false = true → ¬ (flt j = true ∧ m ≤ j) → o.dst = some t → VR E (r j) (a.tmps.getD t undef)
 fl : ∀ j o, ops[j]? = some o → listed.getD j false = true → flt j = true → m ≤ j → ∃ cs v, S (cnt eff j + 1) = S (cnt eff j) ++ [.cells 0 cs] ∧ r j = .op (S (cnt eff j)).length 0 0 ∧ Flt lo E cs v (fb j) ∧ ∀ t, o.dst = some t → a.tmps.getD t undef = v
 fne : ∀ i j, listed.getD i false = true → flt i = true → m ≤ i → listed.getD j false = true → flt j = true → m ≤ j → i ≠ j → fb i ≠ fb j
 old : ∀ t, (∀ j o, ops[j]? = some o → listed.getD j false = true → o.dst ≠ some t) → VR E (F 0 t) (a.tmps.getD t undef)
theorem getD_set {listed : Array Bool} {j i : Nat} (hj : j < listed.size) : (listed.setIfInBounds j true).getD i false = (listed.getD i false || decide (i = j)) := by
 by_cases e : i = j
 · subst e; simp [hj]
 · simp [Array.getElem?_setIfInBounds_ne (show j ≠ i from fun h => e h.symm), e]
theorem Mid.advance (hchk : chkAll ops eff flt = true) {E0 : Env} {listed : Array Bool} {a : Act} {fb : Nat → Nat} {m' : Nat} (hm' : m' ≤ ops.length) :
 ∀ (d m : Nat) (E : Env), m + d = m' → Mid (n := n) (ops := ops) (eff := eff) (flt := flt) F r S E0.w.heap.size E listed a m fb → ExtK k0 E0 E → (∀ i, m ≤ i → i < m' → eff i = true → listed.getD i false = true ∧ flt i = true) →
  ∃ E', E'.w = E.w ∧ Mid (n := n) (ops := ops) (eff := eff) (flt := flt) F r S E0.w.heap.size E' listed a m' fb ∧ ExtK k0 E0 E' := by
 intro d
 induction d with
 | zero => intro m E e hm hx _; have : m = m' := by omega
           subst this; exact ⟨E, rfl, hm, hx⟩
 | succ d ih =>
  intro m E e hm hx h
  obtain ⟨o, ho⟩ : ∃ o, ops[m]? = some o := ⟨_, List.getElem?_eq_getElem (by omega)⟩
  cases he : eff m with
  | false =>
   have hf : flt m = false := by
    cases hf : flt m with
    | false => rfl
    | true => rw [chk_flt hchk ho hf] at he; cases he
   refine ih (m + 1) E (by omega) { hm with mle := by omega, done := fun i hi hei => ?_, none := fun i hi => hm.none i (by omega), store := ?_, new := fun t j p hp hl hn => hm.new t j p hp hl fun hh => hn ⟨hh.1, ?_⟩, fl := fun j p hp hl hfl hj => hm.fl j p hp hl hfl (by omega), fne := fun i j h1 h2 h3 h4 h5 h6 => hm.fne i j h1 h2 (by omega) h4 h5 (by omega) } hx fun i hi hi' => h i (by omega) hi'
   · by_cases e : i = m
     · subst e; rw [he] at hei; cases hei
     · exact hm.done i (by omega) hei
   · have : cnt eff (m + 1) = cnt eff m := by simp [cnt, he]
     rw [this]; exact hm.store
   · have : j ≠ m := by rintro rfl; rw [hf] at hh; cases hh.1
     omega
  | true =>
   obtain ⟨hl, hf⟩ := h m (Nat.le_refl _) (by omega) he
   obtain ⟨cs, v, e1, e2, e3, e4⟩ := hm.fl m o ho hl hf (Nat.le_refl _)
   obtain ⟨hS, hv⟩ := hm.store.adopt e3
   have hcnt : cnt eff (m + 1) = cnt eff m + 1 := by simp [cnt, he]
   refine ih (m + 1) (E.new E.w (some (fb m))) (by omega) { hm with mle := by omega, done := fun i hi hei => ?_, none := fun i hi => hm.none i (by omega), store := by rw [hcnt, e1]; exact hS, new := fun t j p hp hlj hn hd => ?_, fl := fun j p hp hlj hfl hj => ?_, fne := fun i j h1 h2 h3 h4 h5 h6 => hm.fne i j h1 h2 (by omega) h4 h5 (by omega), old := fun t ht => (hm.old t ht).extV (ExtV.adopt E _) } (hx.adopt e3.lo) fun i hi hi' => h i (by omega) hi'
   · by_cases e : i = m
     · subst e; exact hl
     · exact hm.done i (by omega) hei
   · by_cases e : j = m
     · subst e
       rw [ho] at hp; cases hp
       rw [e2, e4 t hd]; exact hv
     · exact (hm.new t j p hp hlj (fun hh => hn ⟨hh.1, by omega⟩) hd).extV (ExtV.adopt E _)
   · obtain ⟨cs', v', f1, f2, f3, f4⟩ := hm.fl j p hp hlj hfl (by omega)
     exact ⟨cs', v', f1, f2, f3.adopt (hm.fne j m hlj hfl (by omega) hl hf (Nat.le_refl _) (by omega)), f4⟩
theorem wpAny_mid {T : TT} (hT : TOK P T) {md : Region.Mode} (hchk : chkAll ops eff flt = true) (hF : ∀ j o, ops[j]? = some o → F (j + 1) = updO (F j) o.dst (r j)) (hd : ∀ o ∈ ops, ∀ t, o.dst = some t → t < n)
 (heff : ∀ j o, ops[j]? = some o → hard eff flt j = true → SF P n ops o (F j) (S (cnt eff j)) (r j) (S (cnt eff j + 1)))
 (hflt : ∀ j o, ops[j]? = some o → flt j = true → o.guard = none ∧ ∃ e, o.op = .alloc e ∧ evAlloc T e (S (cnt eff j)) = some (r j, S (cnt eff j + 1)))
 (hpure : ∀ j o, ops[j]? = some o → eff j = false → ∀ k, k ≤ cnt eff ops.length → meets ops eff flt j k = true → SF P n ops o (F j) (S k) (r j) (S k))
 (hQ : Q .normal (F ops.length) (S (cnt eff ops.length))) (E0 : Env) :
 ∀ (fuel : Nat) (listed : Array Bool) (E : Env) (a : Act) (m : Nat) (fb : Nat → Nat), ExtK k0 E0 E → Mid (n := n) (ops := ops) (eff := eff) (flt := flt) F r S E0.w.heap.size E listed a m fb → ops.length ≤ cnt (fun i => listed.getD i false) ops.length + fuel →
  wpAny P md ops.toArray (post n k0 Q E0) fuel listed a E.w := by
 have hback : edgesBack 0 ops = true := by simp only [chkAll, Bool.and_eq_true] at hchk; exact hchk.1.1
 have htopo : topo md ops = true := by
  simp only [chkAll, Bool.and_eq_true] at hchk
  cases md with
  | text => exact hchk.1.2.1
  | gc => exact hchk.1.2.2.1
  | any => exact hchk.1.2.2.2
 -- the end
 have fin : ∀ listed E a m fb, ExtK k0 E0 E → Mid (n := n) (ops := ops) (eff := eff) (flt := flt) F r S E0.w.heap.size E listed a m fb → (∀ j, j < ops.length → listed.getD j false = true) → post n k0 Q E0 .normal a E.w := by
  intro listed E1 a m fb hx1 hm1 hall
  obtain ⟨E, hw, hm, hx⟩ := Mid.advance F r S hchk (Nat.le_refl _) (ops.length - m) m E1 (by have := hm1.mle; omega) hm1 hx1 fun i h1 h2 he => by
   refine ⟨hall i h2, ?_⟩
   cases hf : flt i with
   | true => rfl
   | false => have := hm1.none i h1 (by simp [hard, he, hf]); rw [hall i h2] at this; cases this
  rw [← hw]
  refine ⟨E, F ops.length, S (cnt eff ops.length), rfl, hm.store, ⟨hm.tsize, hm.defers, fun t => ?_⟩, hx, hQ⟩
  by_cases hw : ∃ (i : Nat) (p : Oper), ops[i]? = some p ∧ p.dst = some t
  · obtain ⟨i, p, hi, hp⟩ := hw
    have hilt : i < ops.length := (List.getElem?_eq_some_iff.1 hi).1
    rw [frame_new F r hF hi hp (fun k o hk hki => chk_dst hchk hk hi (Ne.symm hki) hp) _ (Nat.le_refl _) hilt]
    exact hm.new t i p hi (hall i hilt) (fun hh => by omega) hp
  · have hno : ∀ (i : Nat) (o : Oper), ops[i]? = some o → o.dst ≠ some t := fun i o hi ho => hw ⟨i, o, hi, ho⟩
    rw [frame_old F r hF t _ (Nat.le_refl _) fun i o _ hi => hno i o hi]
    exact hm.old t fun j o hj _ => hno j o hj
 -- nothing is ready only when all is done
 have full : ∀ listed E a m fb, Mid (n := n) (ops := ops) (eff := eff) (flt := flt) F r S E0.w.heap.size E listed a m fb → Region.ready md ops.toArray listed = [] → ∀ j, j < ops.length → listed.getD j false = true := by
  intro listed E a m fb hm hr
  obtain ⟨L, hL⟩ := topo_spec htopo
  suffices h : ∀ q j, L j = q → j < ops.length → listed.getD j false = true from fun j => h _ j rfl
  intro q
  induction q using Nat.strongRecOn with
  | _ q ih =>
   intro j hq hj
   cases hc : listed.getD j false with
   | true => rfl
   | false =>
    exfalso
    obtain ⟨o, ho⟩ : ∃ o, ops[j]? = some o := ⟨_, List.getElem?_eq_getElem hj⟩
    have : j ∈ Region.ready md ops.toArray listed := mem_ready.2 ⟨by
     have : j < listed.size := by rw [hm.size]; exact hj
     simpa [this] using hc, o, by simpa using ho, fun e he hb => by
     obtain ⟨h1, h2⟩ := hL j o ho e he hb
     exact ih (L e.on) (by omega) e.on rfl h2⟩
    rw [hr] at this
    cases this
 intro fuel
 induction fuel with
 | zero =>
  intro listed E a m fb hx hm hcnt
  have hall := cnt_all' (p := fun i => listed.getD i false) (N := ops.length) (by have := cnt_le (fun i => listed.getD i false) ops.length; omega)
  refine ⟨?_, fin listed E a m fb hx hm hall⟩
  cases hr : Region.ready md ops.toArray listed with
  | nil => rfl
  | cons i l =>
   exfalso
   have : i ∈ Region.ready md ops.toArray listed := by rw [hr]; simp
   obtain ⟨h1, o, h2, _⟩ := mem_ready.1 this
   have hlt : i < ops.length := by simpa using (Array.getElem?_eq_some_iff.1 h2).1
   have := hall i hlt
   have hl : i < listed.size := by rw [hm.size]; exact hlt
   simp [hl] at h1 this
   rw [h1] at this; cases this
 | succ fuel ih =>
  intro listed E1 a m1 fb hx1 hm1 hcnt
  refine ⟨fun hr => fin listed E1 a m1 fb hx1 hm1 (full listed E1 a m1 fb hm1 hr), fun j hj => ?_⟩
  obtain ⟨hnl, o, ho', hafter⟩ := mem_ready.1 hj
  have ho : ops[j]? = some o := by simpa using ho'
  have hjlt : j < ops.length := (List.getElem?_eq_some_iff.1 ho).1
  have hjl : j < listed.size := by rw [hm1.size]; exact hjlt
  have hjf : listed.getD j false = false := by simpa [hjl] using hnl
  -- the listed ones and j
  have hclosed' : Closed ops fun i => listed.getD i false = true ∨ i = j := by
   intro k p hk hx e he ha
   rcases hx with hx | hx
   · exact .inl (hm1.closed k p hk hx e he ha)
   · subst hx
     rw [ho] at hk; cases hk
     exact .inl (hafter e he (always_binds ha md))
  have before : ∀ i, i ∈ (anc ops).getD j [] → listed.getD i false = true := by
   intro i hi
   rcases anc_spec hi hclosed' (.inr rfl) with h | h
   · exact h
   · exact absurd (anc_lt hback hjlt hi) (by omega)
  have behind : ∀ i, i < ops.length → j ∈ (anc ops).getD i [] → listed.getD i false = false := by
   intro i hil hi
   cases hc : listed.getD i false with
   | false => rfl
   | true =>
    have := anc_spec hi hm1.closed hc
    rw [hjf] at this; cases this
  have hclosed2 : Closed ops fun i => (listed.setIfInBounds j true).getD i false = true := by
   intro k p hk hl e he ha
   simp only [getD_set hjl, Bool.or_eq_true, decide_eq_true_eq] at hl ⊢
   refine .inl ?_
   rcases hl with hl | hl
   · exact hm1.closed k p hk hl e he ha
   · subst hl
     rw [ho] at hk; cases hk
     exact hafter e he (always_binds ha md)
  have hcnt2 : ops.length ≤ cnt (fun i => (listed.setIfInBounds j true).getD i false) ops.length + fuel := by
   have := cnt_add (p := fun i => listed.getD i false) (q := fun i => (listed.setIfInBounds j true).getD i false) hjlt (fun i hi => by simp [getD_set hjl, hi]) hjf (by simp [getD_set hjl])
   omega
  -- effects at m and behind it that are listed are cells
  have soft : ∀ i, m1 ≤ i → eff i = true → listed.getD i false = true → flt i = true := by
   intro i h1 he hl
   cases hf : flt i with
   | true => rfl
   | false => have := hm1.none i h1 (by simp [hard, he, hf]); rw [hl] at this; cases this
  -- a hard effect that is listed is ahead of m
  have hardlt : ∀ i, hard eff flt i = true → listed.getD i false = true → i < m1 := by
   intro i h1 hl
   rcases Nat.lt_or_ge i m1 with h | h
   · exact h
   · rw [hm1.none i h h1] at hl; cases hl
  have mlej : eff j = true → m1 ≤ j := by
   intro he
   rcases Nat.lt_or_ge j m1 with h | h
   · rw [hm1.done j h he] at hjf; cases hjf
   · exact h
  -- the frame that it looks at
  have look : ∀ E m, Mid (n := n) (ops := ops) (eff := eff) (flt := flt) F r S E0.w.heap.size E listed a m fb → m1 ≤ m → (hard eff flt j = true → m = j) → FR E n (only (looks ops o) (F j)) a := by
   intro E m hm hmm hmj
   refine ⟨hm.tsize, hm.defers, fun t => ?_⟩
   by_cases ht : t ∈ looks ops o
   · rw [only_mem ht]
     by_cases hw : ∃ (i : Nat) (p : Oper), ops[i]? = some p ∧ p.dst = some t
     · obtain ⟨i, p, hi, hp⟩ := hw
       have hilt : i < ops.length := (List.getElem?_eq_some_iff.1 hi).1
       have huniq : ∀ (k : Nat) (q : Oper), ops[k]? = some q → k ≠ i → q.dst ≠ some t := fun k q hk hki => chk_dst hchk hk hi (Ne.symm hki) hp
       obtain ⟨hij, h | ⟨h, h'⟩⟩ := chk_look hchk ho hi hp ht
       · have hlt := anc_lt hback hilt h
         rw [frame_old F r hF t j (by omega) fun k q hk hq hqt => by
          by_cases e : k = i
          · omega
          · exact huniq k q hq e hqt]
         refine hm.old t fun k q hq hl hqt => ?_
         by_cases e : k = i
         · subst e
           rw [behind k hilt h] at hl; cases hl
         · exact huniq k q hq e hqt
       · have hlt := anc_lt hback hjlt h
         rw [frame_new F r hF hi hp huniq j (by omega) hlt]
         refine hm.new t i p hi (before i h) (fun hh => ?_) hp
         rcases h' with h' | h' | ⟨q, h1, h2, h3⟩
         · rw [h'] at hh; cases hh.1
         · have := hmj h'; omega
         · have := hardlt q h3 (before q h1); omega
     · have hno : ∀ (i : Nat) (q : Oper), ops[i]? = some q → q.dst ≠ some t := fun i q hi hq => hw ⟨i, q, hi, hq⟩
       rw [frame_old F r hF t j (by omega) fun i q _ hi => hno i q hi]
       exact hm.old t fun k q hk _ => hno k q hk
   · simp only [only, ht, if_false]; exact .u _
  -- one step of an operation that has its fact
  have step : ∀ (E : Env) (m m' : Nat) (s' : Store), ExtK k0 E0 E → Mid (n := n) (ops := ops) (eff := eff) (flt := flt) F r S E0.w.heap.size E listed a m fb → FR E n (only (looks ops o) (F j)) a → flt j = false → SF P n ops o (F j) (S (cnt eff m)) (r j) s' → s' = S (cnt eff m') → m ≤ m' → m' ≤ ops.length →
   (∀ i, i < m' → eff i = true → i < m ∨ i = j) → (∀ i, m' ≤ i → hard eff flt i = true → i ≠ j) →
   wpOp P ops.toArray (post n k0 Q E0) j (wpAny P md ops.toArray (post n k0 Q E0) fuel (listed.setIfInBounds j true)) a E.w := by
   intro E m m' s' hx hm hlook hfj hsf hs' hmm hm' hdone hnone
   have := hsf E a hm.store hlook (wpAny P md ops.toArray (post n k0 Q E0) fuel (listed.setIfInBounds j true)) (post n k0 Q E0) fun E' cv h1 h2 h3 => by
    refine ih _ E' _ m' fb (hx.trans (h3.mono hx.n)) { size := by simpa using hm.size, closed := hclosed2, mle := hm', done := fun i hi he => ?_, none := fun i hi he => ?_, store := by rw [← hs']; exact h1, tsize := by cases o.dst <;> simp [Act.put, hm.tsize], defers := by cases o.dst <;> simp [Act.put, hm.defers], new := ?_, fl := ?_, fne := ?_, old := ?_ } hcnt2
    · simp only [getD_set hjl, Bool.or_eq_true, decide_eq_true_eq]
      rcases hdone i hi he with h | h
      · exact .inl (hm.done i h he)
      · exact .inr h
    · simp only [getD_set hjl, Bool.or_eq_false_iff, decide_eq_false_iff_not]
      exact ⟨hm.none i (by omega) he, hnone i hi he⟩
    · intro t k p hk hl hnf hp
      simp only [getD_set hjl, Bool.or_eq_true, decide_eq_true_eq] at hl
      by_cases e : k = j
      · subst e
        rw [ho] at hk; cases hk
        have htn := hd o (List.mem_of_getElem? ho) t hp
        have : (a.put o.dst cv).tmps.getD t undef = cv := by rw [hp]; simp [Act.put, hm.tsize, htn]
        rw [this]; exact h2
      · have hne : o.dst ≠ some t := chk_dst hchk ho hk e hp
        have : (a.put o.dst cv).tmps.getD t undef = a.tmps.getD t undef := by
         cases hdst : o.dst with
         | none => rfl
         | some d =>
          have : d ≠ t := fun h => hne (by rw [hdst, h])
          simp [Act.put, Array.getElem?_setIfInBounds_ne this]
        rw [this]
        refine (hm.new t k p hk (hl.resolve_right e) (fun hh => ?_) hp).ext h3
        have hke := chk_flt hchk hk hh.1
        have : ¬ m' ≤ k := fun h => hnf ⟨hh.1, h⟩
        rcases hdone k (by omega) hke with h | h
        · omega
        · exact e h
    · intro k p hk hl hf hmk
      have hkj : k ≠ j := by intro e; rw [e, hfj] at hf; cases hf
      simp only [getD_set hjl, Bool.or_eq_true, decide_eq_true_eq, hkj, or_false] at hl
      obtain ⟨cs, v, e1, e2, e3, e4⟩ := hm.fl k p hk hl hf (by omega)
      refine ⟨cs, v, e1, e2, e3.ext h3, fun t ht => ?_⟩
      have hne : o.dst ≠ some t := chk_dst hchk ho hk hkj ht
      have : (a.put o.dst cv).tmps.getD t undef = a.tmps.getD t undef := by
       cases hdst : o.dst with
       | none => rfl
       | some d =>
        have : d ≠ t := fun h => hne (by rw [hdst, h])
        simp [Act.put, Array.getElem?_setIfInBounds_ne this]
      rw [this]; exact e4 t ht
    · intro i k g1 g2 g3 g4 g5 g6 hik
      have hij : i ≠ j := by intro e; rw [e, hfj] at g2; cases g2
      have hkj : k ≠ j := by intro e; rw [e, hfj] at g5; cases g5
      simp only [getD_set hjl, Bool.or_eq_true, decide_eq_true_eq, hij, hkj, or_false] at g1 g4
      exact hm.fne i k g1 g2 (by omega) g4 g5 (by omega) hik
    · intro t hno
      have hot : o.dst ≠ some t := hno j o ho (by simp [getD_set hjl])
      have : (a.put o.dst cv).tmps.getD t undef = a.tmps.getD t undef := by
       cases hdst : o.dst with
       | none => rfl
       | some d =>
        have : d ≠ t := fun h => hot (by rw [hdst, h])
        simp [Act.put, Array.getElem?_setIfInBounds_ne this]
      rw [this]
      exact (hm.old t fun k p hk hl => hno k p hk (by simp [getD_set hjl, hl])).ext h3
   unfold wpOp
   simp only [ho']
   exact this
  cases hh : hard eff flt j with
  | true =>
   have he : eff j = true := by simp only [hard, Bool.and_eq_true] at hh; exact hh.1
   have hfj : flt j = false := by simp only [hard, Bool.and_eq_true, Bool.not_eq_true'] at hh; exact hh.2
   have hmj := mlej he
   obtain ⟨E, hw, hm, hx⟩ := Mid.advance F r S hchk (show j ≤ ops.length by omega) (j - m1) m1 E1 (by omega) hm1 hx1 fun i h1 h2 hei => by
    obtain ⟨q, hq⟩ : ∃ q, ops[i]? = some q := ⟨_, List.getElem?_eq_getElem (by omega)⟩
    have hl := before i (chk_hard hchk ho hq hei hh h2)
    exact ⟨hl, soft i h1 hei hl⟩
   rw [← hw]
   have hcj : cnt eff (j + 1) = cnt eff j + 1 := by simp [cnt, he]
   exact step E j (j + 1) _ hx hm (look E j hm hmj fun _ => rfl) hfj (heff j o ho hh) (by rw [hcj]) (by omega) (by omega) (fun i hi _ => by omega) (fun i hi _ => by omega)
  | false =>
  cases hf : flt j with
  | true =>
   obtain ⟨hg, e, hop, hal⟩ := hflt j o ho hf
   have he := chk_flt hchk ho hf
   have hmj := mlej he
   obtain ⟨cs, w', v, g1, g2, g3, g4, g5, g6⟩ := run_float (P := P) hT hm1.store hal
   obtain ⟨hS', hx'⟩ := hm1.store.grew g4
   have hput : ∀ t, (a.put o.dst v).tmps.getD t undef = if o.dst = some t then v else a.tmps.getD t undef := by
    intro t
    split
    · rename_i hp
      have htn := hd o (List.mem_of_getElem? ho) t hp
      rw [hp]; simp [Act.put, hm1.tsize, htn]
    · rename_i hne
      cases hdst : o.dst with
      | none => rfl
      | some d =>
       have : d ≠ t := fun h => hne (by rw [hdst, h])
       simp [Act.put, Array.getElem?_setIfInBounds_ne this]
   have key : wpAny P md ops.toArray (post n k0 Q E0) fuel (listed.setIfInBounds j true) (a.put o.dst v) w' := by
    refine ih _ { E1 with w := w' } _ m1 (fun i => if i = j then E1.w.heap.size else fb i) (hx1.trans (hx'.mono hx1.n)) { size := by simpa using hm1.size, closed := hclosed2, mle := hm1.mle, done := fun i hi he' => ?_, none := fun i hi he' => ?_, store := hS', tsize := by cases o.dst <;> simp [Act.put, hm1.tsize], defers := by cases o.dst <;> simp [Act.put, hm1.defers], new := ?_, fl := ?_, fne := ?_, old := ?_ } hcnt2
    · simp only [getD_set hjl, Bool.or_eq_true, decide_eq_true_eq]
      exact .inl (hm1.done i hi he')
    · simp only [getD_set hjl, Bool.or_eq_false_iff, decide_eq_false_iff_not]
      exact ⟨hm1.none i hi he', by rintro rfl; rw [hh] at he'; cases he'⟩
    · intro t k p hk hl hnf hp
      simp only [getD_set hjl, Bool.or_eq_true, decide_eq_true_eq] at hl
      have hkj : k ≠ j := by rintro rfl; exact hnf ⟨hf, hmj⟩
      rw [hput, if_neg (chk_dst hchk ho hk hkj hp)]
      exact (hm1.new t k p hk (hl.resolve_right hkj) hnf hp).ext hx'
    · intro k p hk hl hfk hmk
      simp only [getD_set hjl, Bool.or_eq_true, decide_eq_true_eq] at hl
      by_cases e : k = j
      · subst e
        rw [ho] at hk; cases hk
        exact ⟨cs, v, g2, g1, by simp only [if_true]; exact { g6 with lo := hx1.size }, fun t ht => by rw [hput, if_pos ht]⟩
      · obtain ⟨cs', v', e1, e2, e3, e4⟩ := hm1.fl k p hk (hl.resolve_right e) hfk hmk
        exact ⟨cs', v', e1, e2, by simp only [e, if_false]; exact e3.ext hx', fun t ht => by rw [hput, if_neg (chk_dst hchk ho hk e ht)]; exact e4 t ht⟩
    · intro i k h1 h2 h3 h4 h5 h6 hik
      simp only [getD_set hjl, Bool.or_eq_true, decide_eq_true_eq] at h1 h4
      have lt : ∀ q, q ≠ j → listed.getD q false = true → flt q = true → m1 ≤ q → fb q < E1.w.heap.size := by
       intro q hq hl hfq hmq
       have hql : q < ops.length := by
        rcases Nat.lt_or_ge q ops.length with h | h
        · exact h
        · rw [show listed.getD q false = false by simp [show ¬ q < listed.size by have := hm1.size; omega]] at hl; cases hl
       obtain ⟨p, hp⟩ : ∃ p, ops[q]? = some p := ⟨_, List.getElem?_eq_getElem hql⟩
       obtain ⟨_, _, _, _, e3, _⟩ := hm1.fl q p hp hl hfq hmq
       exact e3.hi
      by_cases ei : i = j
      · have ek : k ≠ j := by rintro rfl; exact hik ei
        have := lt k ek (h4.resolve_right ek) h5 h6
        simp only [ei, ek, if_true, if_false]; omega
      · by_cases ek : k = j
        · have := lt i ei (h1.resolve_right ei) h2 h3
          simp only [ei, ek, if_true, if_false]; omega
        · simp only [ei, ek, if_false]
          exact hm1.fne i k (h1.resolve_right ei) h2 h3 (h4.resolve_right ek) h5 h6 hik
    · intro t hno
      have hot : o.dst ≠ some t := hno j o ho (by simp [getD_set hjl])
      rw [hput, if_neg hot]
      exact (hm1.old t fun k p hk hl => hno k p hk (by simp [getD_set hjl, hl])).ext hx'
   have hwant : Region.wanted o (yielded ops.toArray a.tmps) = true := by simp [Region.wanted, hg]
   unfold wpOp
   simp only [ho']
   rw [if_pos hwant]
   refine .inl ?_
   unfold Oper.wp
   have hrun : (execOp a.eval o).run P E1.w = .ok (.value v) w' := by
    obtain ⟨dst, op, ty, pos, after, guard⟩ := o
    simp only at hop
    subst hop
    simp only [execOp, Sem.run_bind, g3, Result.andThen_ok, Sem.run_pure]
   rw [hrun]
   exact key
  | false =>
   have he : eff j = false := by simpa [hard, hf] using hh
   refine step E1 m1 m1 _ hx1 hm1 (look E1 m1 hm1 (Nat.le_refl _) fun h => by rw [hh] at h; cases h) hf (hpure j o ho he _ ?_ ?_) rfl (Nat.le_refl _) hm1.mle (fun i hi _ => .inl hi) (fun i hi h1 h2 => by subst h2; rw [hh] at h1; cases h1)
   · exact cnt_mono eff hm1.mle
   · simp only [meets]
     refine List.all_eq_true.2 fun i hi => ?_
     have hil : i < ops.length := by simpa using hi
     cases hei : eff i with
     | false => simp
     | true =>
      simp only [Bool.not_true, Bool.false_or, Bool.and_eq_true, Bool.or_eq_true, Bool.not_eq_true', List.contains_eq_mem, decide_eq_false_iff_not, decide_eq_true_eq]
      constructor
      · by_cases h : i ∈ (anc ops).getD j []
        · cases hfi : flt i with
          | true => exact .inl (.inl rfl)
          | false => exact .inr (cnt_lt eff (hardlt i (by simp [hard, hei, hfi]) (before i h)) hei)
        · exact .inl (.inr h)
      · by_cases h : j ∈ (anc ops).getD i []
        · refine .inr (cnt_mono eff ?_)
          rcases Nat.lt_or_ge i m1 with h1 | h1
          · have := hm1.done i h1 hei
            rw [behind i hil h] at this; cases this
          · exact h1
        · exact .inl h
theorem awp_drawn {T : TT} (hT : TOK P T) {id : Nat} (hchk : chkAll ops eff flt = true) (hF : ∀ j o, ops[j]? = some o → F (j + 1) = updO (F j) o.dst (r j)) (hd : ∀ o ∈ ops, ∀ t, o.dst = some t → t < n)
 (heff : ∀ j o, ops[j]? = some o → hard eff flt j = true → SF P n ops o (F j) (S (cnt eff j)) (r j) (S (cnt eff j + 1)))
 (hflt : ∀ j o, ops[j]? = some o → flt j = true → o.guard = none ∧ ∃ e, o.op = .alloc e ∧ evAlloc T e (S (cnt eff j)) = some (r j, S (cnt eff j + 1)))
 (hpure : ∀ j o, ops[j]? = some o → eff j = false → ∀ k, k ≤ cnt eff ops.length → meets ops eff flt j k = true → SF P n ops o (F j) (S k) (r j) (S k))
 (hQ : Q .normal (F ops.length) (S (cnt eff ops.length))) : awp P n k0 (.region id ops.toArray true) Q (F 0) (S 0) := by
 intro E a hk0 hS hF0
 refine wp_region_draw fun t => ?_
 obtain ⟨hS1, hx1⟩ := hS.grew (Grew.drew E.w)
 have hfalse : ∀ i, (Array.replicate ops.toArray.size false).getD i false = false := by
  intro i; by_cases h : i < ops.length <;> simp [h]
 have mid : Mid (n := n) (ops := ops) (eff := eff) (flt := flt) F r S E.w.heap.size { E with w := E.w.drew } (Array.replicate ops.toArray.size false) a 0 (fun _ => 0) :=
  { size := by simp
    closed := fun j o _ h => by simp only [hfalse] at h; cases h
    mle := Nat.zero_le _
    done := fun i h => by omega
    none := fun i _ _ => hfalse i
    store := hS1
    tsize := hF0.size
    defers := hF0.defers
    new := fun t j o _ h => by simp only [hfalse] at h; cases h
    fl := fun j o _ h => by simp only [hfalse] at h; cases h
    fne := fun i j h => by simp only [hfalse] at h; cases h
    old := fun t _ => (hF0.tmps t).ext hx1 }
 have lin : ∀ md t, wpOps P ops.toArray (post n k0 Q E) (Region.linearise md ops.toArray t) a E.w.drew := fun md t =>
  wpAny_sound ops.toArray.size t _ a _ (wpAny_mid F r S hT hchk hF hd heff hflt hpure hQ E ops.toArray.size _ { E with w := E.w.drew } a 0 _ (hx1.mono hk0) mid (by simp))
 unfold Region.schedule
 split
 · exact lin _ _
 · exact lin _ _
end
end AM
end Go.Proofs.YtaddlmlpeghonaaDoor
