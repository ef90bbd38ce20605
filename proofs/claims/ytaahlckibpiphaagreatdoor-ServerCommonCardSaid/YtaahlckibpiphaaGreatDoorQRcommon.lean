/- ServerCommon: whatever the arguments, the law returns true and the arguments read as before. -/
import Derived.Test.YtaahlckibpiphaaGreatDoorQOa
import Derived.Test.YtaahlckibpiphaaGreatDoorCards
namespace Go.Proofs.YtaahlckibpiphaaGreatDoor.serverCommon
open Go.ChangeShapes Go.WideShapes Go.ChangeAt Go.RowKit AM
set_option linter.unusedVariables false
set_option linter.constructorNameAsVariable false

set_option maxRecDepth 100000 in
theorem lifted (os : Os) (started : os.Started) (H : Type) (enc : TypeId × Value → H) :
    ReturnsInHanded {} Tryz.checked os 11 .any (fun w args => (Rows.serverCommonSpec.pre enc Tryz.prog Tryz.f11 Rows.serverCommonRow.domain false w args ∧ laidMetH Tryz.prog listed w) ∧ sizedMet enc Tryz.prog Tryz.f11 (OpenSpec.ofChange Rows.serverCommonSpec) false w args)
      (Rows.serverCommonSpec.post enc Tryz.prog Tryz.f11 false true false false) := by
  refine returnsInHanded_of_change_and (C := Tryz.checked) (X := fun w _ => laidMetH Tryz.prog listed w) (fun _ _ _ hh h => h.of_heap hh) own started (by kernel_rfl) Tryz.func11
    (ChangeSpec.witness_at (enc := enc) (C := Tryz.checked) (os := os) (X := fun w _ => laidMetH Tryz.prog listed w) false (laidWorld os) #[.int .i64 0, .int .i64 0, .int .i64 0] 8 rfl (by kernel_rfl) (by kernel_rfl) (by kernel_rfl) (by kernel_rfl) (by kernel_rfl) (laid_metH os _)) ?_
  intro W base args ds gs before hval0 hW _ hsz hL _
  have hval : ∀ (j : Nat) t v, Tryz.f11.params[j]? = some t → args[j]? = some v → Value.okWide Tryz.prog W .any base t v := hval0
  have hW' := hW
  obtain ⟨p, q, hA0, hV, rfl, hfz, hnd⟩ := hW
  have hA : DataW.TrodAll enc Tryz.prog W 0 (fun _ => true) true Tryz.f11.params.toList args.toList ds p := hA0
  rw [Tryz.params11] at hA hval
  obtain ⟨v0, vs0, d0, ds0, p0, q0, hargs, rfl, rfl, h0, r0⟩ := trodAll_cons hA
  obtain ⟨v1, vs1, d1, ds1, p1, q1, rfl, rfl, rfl, h1, r1⟩ := trodAll_cons r0
  obtain ⟨v2, vs2, d2, ds2, p2, q2, rfl, rfl, rfl, h2, r2⟩ := trodAll_cons r1
  obtain ⟨rfl, rfl, rfl⟩ := trodAll_nil r2
  obtain rfl : args = #[v0, v1, v2] := by cases args; simp_all
  obtain ⟨rfl, rfl⟩ := trodVars_none hV
  obtain ⟨a0, rfl, rfl, rfl, w0⟩ := open_int Tryz.underlying3 (hval 0 3 v0 rfl rfl) h0
  obtain ⟨a1, rfl, rfl, rfl, w1⟩ := open_int Tryz.underlying3 (hval 1 3 v1 rfl rfl) h1
  obtain ⟨a2, rfl, rfl, rfl, w2⟩ := open_int Tryz.underlying3 (hval 2 3 v2 rfl rfl) h2
  clear hA0 hval0
  have walk := walk_of (v := .bool true) (law24_ServerCommon.ok (law24_ServerCommon_true a0 a1 a2)) (w := W) (vs := #[.int .i64 a0, .int .i64 a1, .int .i64 a2]) (glb_of_laid hL)
    (listR_cons (.int _ _) (listR_cons (.int _ _) (listR_one (.int _ _)))) (fun E u hu => hu.true_of)
  refine walk.mono fun e W' ⟨he, bel⟩ => ?_
  subst he
  exact ⟨_, rfl, _, _, _, [], _, [], hW', trodAll_mk1 (shut_bool Tryz.underlying4 _), (trodAll_cons_mk (shut_int Tryz.underlying3 w0) (trodAll_cons_mk (shut_int Tryz.underlying3 w1) (trodAll_cons_mk (shut_int Tryz.underlying3 w2) trodAll_mk0))), rfl, bel.frame _, fun h => by cases h⟩

theorem j0 : laidOutB Tryz.pinned.checked.prog = true := by kernel_rfl
theorem j1 : mapsRowed Tryz.pinned.checked.prog = true := by kernel_rfl
theorem j2 : (Rows.serverCommonRow.inPlace == Tryz.pinned.checked.prog.inPlace 11) = true := by kernel_rfl
theorem j3 : (Rows.serverCommonRow.unfollowed == Tryz.pinned.checked.prog.unfollowed 11) = true := by kernel_rfl
theorem j4 : (Rows.serverCommonRow.recurses == Tryz.pinned.checked.prog.recurses 11) = true := by kernel_rfl
theorem j5 : (Rows.serverCommonRow.named == Tryz.pinned.checked.prog.varsNamed 11) = true := by kernel_rfl
theorem j6 : Tryz.pinned.checked.prog.stopsHeard = true := by kernel_rfl
theorem j7 : Tryz.pinned.checked.prog.mayEnter = true := by kernel_rfl
theorem j8 : (Rows.serverCommonRow.plainKeys == Tryz.pinned.checked.prog.plainKeys) = true := by kernel_rfl
theorem j9 : namedTie Tryz.pinned.checked.prog Rows.serverCommonRow.named Rows.serverCommonSpec.vars = true := by kernel_rfl
theorem joined : joinedFacts Tryz.pinned.checked.prog 11 Tryz.f11 Rows.serverCommonSpec Rows.serverCommonRow = true := by
  unfold joinedFacts
  simp only [Bool.and_eq_true]
  and_intros <;> first | with_reducible exact j0 | with_reducible exact j1 | with_reducible exact j2 | with_reducible exact j3 | with_reducible exact j4 | with_reducible exact j5 | with_reducible exact j6 | with_reducible exact j7 | with_reducible exact j8 | with_reducible exact j9 | kernel_rfl

theorem over : Rows.serverCommonRow.holds Tryz.pinned (OpenSpec.ofChange Rows.serverCommonSpec) :=
  OpenClaim.holds_of_wide 11 Tryz.f11 rfl rfl rfl rfl rfl rfl rfl ⟨rfl, rfl, rfl, rfl, rfl⟩ rfl rfl rfl rfl rfl (by kernel_rfl) Tryz.func11 joined
    (of_decide_eq_true (by kernel_rfl)) (by unfold Func.isWrapper; first | (rw [if_pos (by decide +kernel)]; kernel_rfl) | (rw [if_neg (by decide +kernel)]; exact ⟨rfl, rfl⟩))
    (fun os started H enc _ => lifted os started H enc)

theorem named : Tryz.prog.funcNamed "concordat/concordatlaw24.ServerCommon" = some 11 := by kernel_rfl
theorem looksF : true = Tryz.prog.looks [] := by kernel_rfl
theorem noStand : ([3, 3, 3] : List TypeId).all (fun t => !Tryz.prog.wantsStandIn t) = true := by kernel_rfl
theorem mainF : Tryz.pinned.checked.prog.mainIs = some ((true, "f96f8411beb50a2f40b52158634dfaa03f7cf1cc9202d6bb1e1ae93ed6a1b33a").1, (true, "f96f8411beb50a2f40b52158634dfaa03f7cf1cc9202d6bb1e1ae93ed6a1b33a").2.toList) := by kernel_rfl
theorem goesF : false = Rows.serverCommonRow.goesBy Tryz.pinned.checked.prog := by kernel_rfl

/-- The statement. -/
theorem proved : Rows.ServerCommonCardSaid :=
  Claim7.holds_tied_plain_at .later [] [.data, .pinned] true (true, "f96f8411beb50a2f40b52158634dfaa03f7cf1cc9202d6bb1e1ae93ed6a1b33a") true
    over (fun _ h => by cases h) (by kernel_rfl) (fun _ h => by cases h) serverCommon_row_tie rfl ⟨rfl, rfl⟩ mainF rfl
    (fun f fn hf hfn => by
      obtain rfl : f = 11 := Option.some.inj (named.symm.trans hf) |>.symm
      obtain rfl : fn = Tryz.f11 := (Option.some.inj (Tryz.func11.symm.trans hfn)).symm
      exact ⟨looksF, fun j t ht => by
        rw [Tryz.params11] at ht
        have hm : t ∈ [3, 3, 3] := by
          have := Array.mem_of_getElem? ht
          simpa using this
        have := List.all_eq_true.1 noStand t hm
        have h2 : Tryz.prog.wantsStandIn t = false := by simpa using this
        exact h2⟩)
    goesF
#print axioms proved
end Go.Proofs.YtaahlckibpiphaaGreatDoor.serverCommon

