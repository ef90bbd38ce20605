/- ServerAnswers: whatever the arguments, the law returns true and the arguments read as before. -/
import Derived.Test.YtaahlckibpiphaaGreatDoorVOf
import Derived.Test.YtaahlckibpiphaaGreatDoorCards
namespace Go.Proofs.YtaahlckibpiphaaGreatDoor.serverAnswers
open Go.ChangeShapes Go.WideShapes Go.ChangeAt Go.RowKit AM
set_option linter.unusedVariables false
set_option linter.constructorNameAsVariable false

set_option maxRecDepth 100000 in
theorem lifted (os : Os) (started : os.Started) (H : Type) (enc : TypeId × Value → H) :
    ReturnsInHanded {} Tryz.checked os 8 .any (fun w args => (Rows.serverAnswersSpec.pre enc Tryz.prog Tryz.f8 Rows.serverAnswersRow.domain false w args ∧ laidMetH Tryz.prog listed w) ∧ sizedMet enc Tryz.prog Tryz.f8 (OpenSpec.ofChange Rows.serverAnswersSpec) false w args)
      (Rows.serverAnswersSpec.post enc Tryz.prog Tryz.f8 false true false false) := by
  refine returnsInHanded_of_change_and (C := Tryz.checked) (X := fun w _ => laidMetH Tryz.prog listed w) (fun _ _ _ hh h => h.of_heap hh) own started (by kernel_rfl) Tryz.func8
    (ChangeSpec.witness_at (enc := enc) (C := Tryz.checked) (os := os) (X := fun w _ => laidMetH Tryz.prog listed w) false (laidWorld os) #[(.agg #[.string ⟨#[]⟩, .slice none 0 0, .slice none 0 0, .slice none 0 0]), (.agg #[.string ⟨#[]⟩, .slice none 0 0, .slice none 0 0, .slice none 0 0]), .slice none 0 0, .string ⟨#[]⟩, (.agg #[.int .i64 0, .int .i64 0, .string ⟨#[]⟩, .slice none 0 0, .slice none 0 0])] 8 rfl (by kernel_rfl) (by kernel_rfl) (by kernel_rfl) (by kernel_rfl) (by kernel_rfl) (laid_metH os _)) ?_
  intro W base args ds gs before hval0 hW _ hsz hL _
  have hval : ∀ (j : Nat) t v, Tryz.f8.params[j]? = some t → args[j]? = some v → Value.okWide Tryz.prog W .any base t v := hval0
  have hW' := hW
  obtain ⟨p, q, hA0, hV, rfl, hfz, hnd⟩ := hW
  have hA : DataW.TrodAll enc Tryz.prog W 0 (fun _ => true) true Tryz.f8.params.toList args.toList ds p := hA0
  rw [Tryz.params8] at hA hval
  obtain ⟨v0, vs0, d0, ds0, p0, q0, hargs, rfl, rfl, h0, r0⟩ := trodAll_cons hA
  obtain ⟨v1, vs1, d1, ds1, p1, q1, rfl, rfl, rfl, h1, r1⟩ := trodAll_cons r0
  obtain ⟨v2, vs2, d2, ds2, p2, q2, rfl, rfl, rfl, h2, r2⟩ := trodAll_cons r1
  obtain ⟨v3, vs3, d3, ds3, p3, q3, rfl, rfl, rfl, h3, r3⟩ := trodAll_cons r2
  obtain ⟨v4, vs4, d4, ds4, p4, q4, rfl, rfl, rfl, h4, r4⟩ := trodAll_cons r3
  obtain ⟨rfl, rfl, rfl⟩ := trodAll_nil r4
  obtain rfl : args = #[v0, v1, v2, v3, v4] := by cases args; simp_all
  obtain ⟨rfl, rfl⟩ := trodVars_none hV
  obtain ⟨a0, rfl, ka0⟩ := okWide_struct Tryz.underlying31 (hval 0 31 v0 rfl rfl)
  have hs0 : ∀ x ∈ DataW.weights Tryz.prog 31 d0, x ≤ reachBytes := fun x hx => of_decide_eq_true (List.all_eq_true.1 hsz x (mem_weightsEach 0 _ _ (by rw [Tryz.params8]; rfl) rfl hx))
  have k0 := h0
  have lt0 : ∀ x ∈ p0, x.block < W.heap.size := by obtain ⟨m, hm⟩ := k0; exact DataW.trod_lt m _ _ _ hm
  obtain ⟨av0, ⟨z0, u0, w0⟩, hv0⟩ := OpensS.agg opens_Schema h0 hs0
  subst u0
  obtain ⟨a1, rfl, ka1⟩ := okWide_struct Tryz.underlying31 (hval 1 31 v1 rfl rfl)
  have hs1 : ∀ x ∈ DataW.weights Tryz.prog 31 d1, x ≤ reachBytes := fun x hx => of_decide_eq_true (List.all_eq_true.1 hsz x (mem_weightsEach 1 _ _ (by rw [Tryz.params8]; rfl) rfl hx))
  have k1 := h1
  have lt1 : ∀ x ∈ p1, x.block < W.heap.size := by obtain ⟨m, hm⟩ := k1; exact DataW.trod_lt m _ _ _ hm
  obtain ⟨av1, ⟨z1, u1, w1⟩, hv1⟩ := OpensS.agg opens_Schema h1 hs1
  subst u1
  obtain ⟨a2, len2, cap2, rfl⟩ := okWide_slice Tryz.underlying82 (hval 2 82 v2 rfl rfl)
  have hs2 : ∀ x ∈ DataW.weights Tryz.prog 82 d2, x ≤ reachBytes := fun x hx => of_decide_eq_true (List.all_eq_true.1 hsz x (mem_weightsEach 2 _ _ (by rw [Tryz.params8]; rfl) rfl hx))
  have k2 := h2
  have lt2 : ∀ x ∈ p2, x.block < W.heap.size := by obtain ⟨m, hm⟩ := k2; exact DataW.trod_lt m _ _ _ hm
  obtain ⟨av2, ⟨z2, u2, w2⟩, hv2⟩ := OpensS.arg opens_Rows h2 hs2 rfl
  cases u2
  obtain ⟨a3, rfl⟩ := okWide_string Tryz.underlying9 (hval 3 9 v3 rfl rfl)
  have hs3 : ∀ x ∈ DataW.weights Tryz.prog 9 d3, x ≤ reachBytes := fun x hx => of_decide_eq_true (List.all_eq_true.1 hsz x (mem_weightsEach 3 _ _ (by rw [Tryz.params8]; rfl) rfl hx))
  have k3 := h3
  have lt3 : ∀ x ∈ p3, x.block < W.heap.size := by obtain ⟨m, hm⟩ := k3; exact DataW.trod_lt m _ _ _ hm
  obtain ⟨av3, ⟨z3, u3, w3⟩, hv3⟩ := OpensS.arg (fun N => opens_str) h3 hs3 rfl
  cases u3
  obtain ⟨a4, rfl, ka4⟩ := okWide_struct Tryz.underlying37 (hval 4 37 v4 rfl rfl)
  have hs4 : ∀ x ∈ DataW.weights Tryz.prog 37 d4, x ≤ reachBytes := fun x hx => of_decide_eq_true (List.all_eq_true.1 hsz x (mem_weightsEach 4 _ _ (by rw [Tryz.params8]; rfl) rfl hx))
  have k4 := h4
  have lt4 : ∀ x ∈ p4, x.block < W.heap.size := by obtain ⟨m, hm⟩ := k4; exact DataW.trod_lt m _ _ _ hm
  obtain ⟨av4, ⟨z4, u4, w4⟩, hv4⟩ := OpensS.agg opens_Tree' h4 hs4
  subst u4
  clear hA0 hval0
  have walk := walk_of (v := .bool true) (law24_ServerAnswers.ok (answers_true (szS_of w0) (szS_of w1) fun y hy => ⟨fun h => szT_of 10 _ ((w2.2 y hy).2.1 10) h, fun h => szT_of 10 _ ((w2.2 y hy).2.2 10) h⟩)) (w := W) (vs := #[.agg a0, .agg a1, .slice a2 len2 cap2, .string a3, .agg a4]) (glb_of_laid hL)
    (listR_cons hv0 (listR_cons hv1 (listR_cons hv2 (listR_cons hv3 (listR_one hv4))))) (fun E u hu => hu.true_of)
  refine walk.mono fun e W' ⟨he, bel⟩ => ?_
  subst he
  exact ⟨_, rfl, _, _, _, [], _, [], hW', trodAll_mk1 (shut_bool Tryz.underlying4 _), (trodAll_cons_mk (Below.trod laidOut (by kernel_rfl) (of_decide_eq_true (by kernel_rfl)) k0 bel lt0) (trodAll_cons_mk (Below.trod laidOut (by kernel_rfl) (of_decide_eq_true (by kernel_rfl)) k1 bel lt1) (trodAll_cons_mk (Below.trod laidOut (by kernel_rfl) (of_decide_eq_true (by kernel_rfl)) k2 bel lt2) (trodAll_cons_mk (Below.trod laidOut (by kernel_rfl) (of_decide_eq_true (by kernel_rfl)) k3 bel lt3) (trodAll_cons_mk (Below.trod laidOut (by kernel_rfl) (of_decide_eq_true (by kernel_rfl)) k4 bel lt4) trodAll_mk0))))), rfl, bel.frame _, fun h => by cases h⟩

theorem j0 : laidOutB Tryz.pinned.checked.prog = true := by kernel_rfl
theorem j1 : mapsRowed Tryz.pinned.checked.prog = true := by kernel_rfl
theorem j2 : (Rows.serverAnswersRow.inPlace == Tryz.pinned.checked.prog.inPlace 8) = true := by kernel_rfl
theorem j3 : (Rows.serverAnswersRow.unfollowed == Tryz.pinned.checked.prog.unfollowed 8) = true := by kernel_rfl
theorem j4 : (Rows.serverAnswersRow.recurses == Tryz.pinned.checked.prog.recurses 8) = true := by kernel_rfl
theorem j5 : (Rows.serverAnswersRow.named == Tryz.pinned.checked.prog.varsNamed 8) = true := by kernel_rfl
theorem j6 : Tryz.pinned.checked.prog.stopsHeard = true := by kernel_rfl
theorem j7 : Tryz.pinned.checked.prog.mayEnter = true := by kernel_rfl
theorem j8 : (Rows.serverAnswersRow.plainKeys == Tryz.pinned.checked.prog.plainKeys) = true := by kernel_rfl
theorem j9 : namedTie Tryz.pinned.checked.prog Rows.serverAnswersRow.named Rows.serverAnswersSpec.vars = true := by kernel_rfl
theorem joined : joinedFacts Tryz.pinned.checked.prog 8 Tryz.f8 Rows.serverAnswersSpec Rows.serverAnswersRow = true := by
  unfold joinedFacts
  simp only [Bool.and_eq_true]
  and_intros <;> first | with_reducible exact j0 | with_reducible exact j1 | with_reducible exact j2 | with_reducible exact j3 | with_reducible exact j4 | with_reducible exact j5 | with_reducible exact j6 | with_reducible exact j7 | with_reducible exact j8 | with_reducible exact j9 | kernel_rfl

theorem over : Rows.serverAnswersRow.holds Tryz.pinned (OpenSpec.ofChange Rows.serverAnswersSpec) :=
  OpenClaim.holds_of_wide 8 Tryz.f8 rfl rfl rfl rfl rfl rfl rfl ⟨rfl, rfl, rfl, rfl, rfl⟩ rfl rfl rfl rfl rfl (by kernel_rfl) Tryz.func8 joined
    (of_decide_eq_true (by kernel_rfl)) (by unfold Func.isWrapper; first | (rw [if_pos (by decide +kernel)]; kernel_rfl) | (rw [if_neg (by decide +kernel)]; exact ⟨rfl, rfl⟩))
    (fun os started H enc _ => lifted os started H enc)

theorem named : Tryz.prog.funcNamed "concordat/concordatlaw24.ServerAnswers" = some 8 := by kernel_rfl
theorem looksF : true = Tryz.prog.looks [] := by kernel_rfl
theorem noStand : ([31, 31, 82, 9, 37] : List TypeId).all (fun t => !Tryz.prog.wantsStandIn t) = true := by kernel_rfl
theorem mainF : Tryz.pinned.checked.prog.mainIs = some ((true, "f96f8411beb50a2f40b52158634dfaa03f7cf1cc9202d6bb1e1ae93ed6a1b33a").1, (true, "f96f8411beb50a2f40b52158634dfaa03f7cf1cc9202d6bb1e1ae93ed6a1b33a").2.toList) := by kernel_rfl
theorem goesF : false = Rows.serverAnswersRow.goesBy Tryz.pinned.checked.prog := by kernel_rfl

/-- The statement. -/
theorem proved : Rows.ServerAnswersCardSaid :=
  Claim7.holds_tied_plain_at .later [] [.data, .pinned] true (true, "f96f8411beb50a2f40b52158634dfaa03f7cf1cc9202d6bb1e1ae93ed6a1b33a") true
    over (fun _ h => by cases h) (by kernel_rfl) (fun _ h => by cases h) serverAnswers_row_tie rfl ⟨rfl, rfl⟩ mainF rfl
    (fun f fn hf hfn => by
      obtain rfl : f = 8 := Option.some.inj (named.symm.trans hf) |>.symm
      obtain rfl : fn = Tryz.f8 := (Option.some.inj (Tryz.func8.symm.trans hfn)).symm
      exact ⟨looksF, fun j t ht => by
        rw [Tryz.params8] at ht
        have hm : t ∈ [31, 31, 82, 9, 37] := by
          have := Array.mem_of_getElem? ht
          simpa using this
        have := List.all_eq_true.1 noStand t hm
        have h2 : Tryz.prog.wantsStandIn t = false := by simpa using this
        exact h2⟩)
    goesF
#print axioms proved
end Go.Proofs.YtaahlckibpiphaaGreatDoor.serverAnswers

