/- ServerOnce: whatever the arguments, the law returns true and the arguments read as before. -/
import Derived.Test.YtaahlckibpiphaaGreatDoorXOg
import Derived.Test.YtaahlckibpiphaaGreatDoorCards
namespace Go.Proofs.YtaahlckibpiphaaGreatDoor.serverOnce
open Go.ChangeShapes Go.WideShapes Go.ChangeAt Go.RowKit AM
set_option linter.unusedVariables false
set_option linter.constructorNameAsVariable false

set_option maxRecDepth 100000 in
theorem lifted (os : Os) (started : os.Started) (H : Type) (enc : TypeId × Value → H) :
    ReturnsInHanded {} Tryz.checked os 9 .any (fun w args => (Rows.serverOnceSpec.pre enc Tryz.prog Tryz.f9 Rows.serverOnceRow.domain false w args ∧ laidMetH Tryz.prog listed w) ∧ sizedMet enc Tryz.prog Tryz.f9 (OpenSpec.ofChange Rows.serverOnceSpec) false w args)
      (Rows.serverOnceSpec.post enc Tryz.prog Tryz.f9 false true false false) := by
  refine returnsInHanded_of_change_and (C := Tryz.checked) (X := fun w _ => laidMetH Tryz.prog listed w) (fun _ _ _ hh h => h.of_heap hh) own started (by kernel_rfl) Tryz.func9
    (ChangeSpec.witness_at (enc := enc) (C := Tryz.checked) (os := os) (X := fun w _ => laidMetH Tryz.prog listed w) false (laidWorld os) #[.slice none 0 0, .int .i64 0] 8 rfl (by kernel_rfl) (by kernel_rfl) (by kernel_rfl) (by kernel_rfl) (by kernel_rfl) (laid_metH os _)) ?_
  intro W base args ds gs before hval0 hW _ hsz hL _
  have hval : ∀ (j : Nat) t v, Tryz.f9.params[j]? = some t → args[j]? = some v → Value.okWide Tryz.prog W .any base t v := hval0
  have hW' := hW
  obtain ⟨p, q, hA0, hV, rfl, hfz, hnd⟩ := hW
  have hA : DataW.TrodAll enc Tryz.prog W 0 (fun _ => true) true Tryz.f9.params.toList args.toList ds p := hA0
  rw [Tryz.params9] at hA hval
  obtain ⟨v0, vs0, d0, ds0, p0, q0, hargs, rfl, rfl, h0, r0⟩ := trodAll_cons hA
  obtain ⟨v1, vs1, d1, ds1, p1, q1, rfl, rfl, rfl, h1, r1⟩ := trodAll_cons r0
  obtain ⟨rfl, rfl, rfl⟩ := trodAll_nil r1
  obtain rfl : args = #[v0, v1] := by cases args; simp_all
  obtain ⟨rfl, rfl⟩ := trodVars_none hV
  obtain ⟨a0, len0, cap0, rfl⟩ := okWide_slice Tryz.underlying88 (hval 0 88 v0 rfl rfl)
  have hs0 : ∀ x ∈ DataW.weights Tryz.prog 88 d0, x ≤ reachBytes := fun x hx => of_decide_eq_true (List.all_eq_true.1 hsz x (mem_weightsEach 0 _ _ (by rw [Tryz.params9]; rfl) rfl hx))
  have k0 := h0
  have lt0 : ∀ x ∈ p0, x.block < W.heap.size := by obtain ⟨m, hm⟩ := k0; exact DataW.trod_lt m _ _ _ hm
  obtain ⟨av0, ⟨z0, u0, w0⟩, hv0⟩ := OpensS.arg opens_Packets h0 hs0 rfl
  cases u0
  obtain ⟨a1, rfl, rfl, rfl, w1⟩ := open_int Tryz.underlying3 (hval 1 3 v1 rfl rfl) h1
  clear hA0 hval0
  have walk := walk_of (v := .bool true) (law24_ServerOnce.ok (once_true z0 a1)) (w := W) (vs := #[.slice a0 len0 cap0, .int .i64 a1]) (glb_of_laid hL)
    (listR_cons hv0 (listR_one (.int _ _))) (fun E u hu => hu.true_of)
  refine walk.mono fun e W' ⟨he, bel⟩ => ?_
  subst he
  exact ⟨_, rfl, _, _, _, [], _, [], hW', trodAll_mk1 (shut_bool Tryz.underlying4 _), (trodAll_cons_mk (Below.trod laidOut (by kernel_rfl) (of_decide_eq_true (by kernel_rfl)) k0 bel lt0) (trodAll_cons_mk (shut_int Tryz.underlying3 w1) trodAll_mk0)), rfl, bel.frame _, fun h => by cases h⟩

theorem j0 : laidOutB Tryz.pinned.checked.prog = true := by kernel_rfl
theorem j1 : mapsRowed Tryz.pinned.checked.prog = true := by kernel_rfl
theorem j2 : (Rows.serverOnceRow.inPlace == Tryz.pinned.checked.prog.inPlace 9) = true := by kernel_rfl
theorem j3 : (Rows.serverOnceRow.unfollowed == Tryz.pinned.checked.prog.unfollowed 9) = true := by kernel_rfl
theorem j4 : (Rows.serverOnceRow.recurses == Tryz.pinned.checked.prog.recurses 9) = true := by kernel_rfl
theorem j5 : (Rows.serverOnceRow.named == Tryz.pinned.checked.prog.varsNamed 9) = true := by kernel_rfl
theorem j6 : Tryz.pinned.checked.prog.stopsHeard = true := by kernel_rfl
theorem j7 : Tryz.pinned.checked.prog.mayEnter = true := by kernel_rfl
theorem j8 : (Rows.serverOnceRow.plainKeys == Tryz.pinned.checked.prog.plainKeys) = true := by kernel_rfl
theorem j9 : namedTie Tryz.pinned.checked.prog Rows.serverOnceRow.named Rows.serverOnceSpec.vars = true := by kernel_rfl
theorem joined : joinedFacts Tryz.pinned.checked.prog 9 Tryz.f9 Rows.serverOnceSpec Rows.serverOnceRow = true := by
  unfold joinedFacts
  simp only [Bool.and_eq_true]
  and_intros <;> first | with_reducible exact j0 | with_reducible exact j1 | with_reducible exact j2 | with_reducible exact j3 | with_reducible exact j4 | with_reducible exact j5 | with_reducible exact j6 | with_reducible exact j7 | with_reducible exact j8 | with_reducible exact j9 | kernel_rfl

theorem over : Rows.serverOnceRow.holds Tryz.pinned (OpenSpec.ofChange Rows.serverOnceSpec) :=
  OpenClaim.holds_of_wide 9 Tryz.f9 rfl rfl rfl rfl rfl rfl rfl ⟨rfl, rfl, rfl, rfl, rfl⟩ rfl rfl rfl rfl rfl (by kernel_rfl) Tryz.func9 joined
    (of_decide_eq_true (by kernel_rfl)) (by unfold Func.isWrapper; first | (rw [if_pos (by decide +kernel)]; kernel_rfl) | (rw [if_neg (by decide +kernel)]; exact ⟨rfl, rfl⟩))
    (fun os started H enc _ => lifted os started H enc)

theorem named : Tryz.prog.funcNamed "concordat/concordatlaw24.ServerOnce" = some 9 := by kernel_rfl
theorem looksF : true = Tryz.prog.looks [] := by kernel_rfl
theorem noStand : ([88, 3] : List TypeId).all (fun t => !Tryz.prog.wantsStandIn t) = true := by kernel_rfl
theorem mainF : Tryz.pinned.checked.prog.mainIs = some ((true, "f96f8411beb50a2f40b52158634dfaa03f7cf1cc9202d6bb1e1ae93ed6a1b33a").1, (true, "f96f8411beb50a2f40b52158634dfaa03f7cf1cc9202d6bb1e1ae93ed6a1b33a").2.toList) := by kernel_rfl
theorem goesF : false = Rows.serverOnceRow.goesBy Tryz.pinned.checked.prog := by kernel_rfl

/-- The statement. -/
theorem proved : Rows.ServerOnceCardSaid :=
  Claim7.holds_tied_plain_at .later [] [.data, .pinned] true (true, "f96f8411beb50a2f40b52158634dfaa03f7cf1cc9202d6bb1e1ae93ed6a1b33a") true
    over (fun _ h => by cases h) (by kernel_rfl) (fun _ h => by cases h) serverOnce_row_tie rfl ⟨rfl, rfl⟩ mainF rfl
    (fun f fn hf hfn => by
      obtain rfl : f = 9 := Option.some.inj (named.symm.trans hf) |>.symm
      obtain rfl : fn = Tryz.f9 := (Option.some.inj (Tryz.func9.symm.trans hfn)).symm
      exact ⟨looksF, fun j t ht => by
        rw [Tryz.params9] at ht
        have hm : t ∈ [88, 3] := by
          have := Array.mem_of_getElem? ht
          simpa using this
        have := List.all_eq_true.1 noStand t hm
        have h2 : Tryz.prog.wantsStandIn t = false := by simpa using this
        exact h2⟩)
    goesF
#print axioms proved
end Go.Proofs.YtaahlckibpiphaaGreatDoor.serverOnce

