/- ProxyAll: whatever the arguments, the law returns true and the arguments read as before. -/
import Derived.Test.YtaddlmlpeghonaaGreatDoorIOd
import Derived.Test.YtaddlmlpeghonaaGreatDoorCards
namespace Go.Proofs.YtaddlmlpeghonaaGreatDoor.proxyAll
open Go.ChangeShapes Go.WideShapes Go.ChangeAt Go.RowKit AM
set_option linter.unusedVariables false
set_option linter.constructorNameAsVariable false

set_option maxRecDepth 100000 in
theorem lifted (os : Os) (started : os.Started) (H : Type) (enc : TypeId × Value → H) :
    ReturnsInHanded {} Tryz.checked os 7 .any (fun w args => (Rows.proxyAllSpec.pre enc Tryz.prog Tryz.f7 Rows.proxyAllRow.domain false w args ∧ laidMetH Tryz.prog listed w) ∧ sizedMet enc Tryz.prog Tryz.f7 (OpenSpec.ofChange Rows.proxyAllSpec) false w args)
      (Rows.proxyAllSpec.post enc Tryz.prog Tryz.f7 false true false false) := by
  refine returnsInHanded_of_change_and (C := Tryz.checked) (X := fun w _ => laidMetH Tryz.prog listed w) (fun _ _ _ hh h => h.of_heap hh) own started (by kernel_rfl) Tryz.func7
    (ChangeSpec.witness_at (enc := enc) (C := Tryz.checked) (os := os) (X := fun w _ => laidMetH Tryz.prog listed w) false (laidWorld os) #[(.agg #[.string ⟨#[]⟩, .slice none 0 0, .slice none 0 0, .slice none 0 0]), (.agg #[.int .i64 0, .int .i64 0, .int .i64 0, .int .i64 0, .int .i64 0, .string ⟨#[]⟩, .int .i64 0, .string ⟨#[]⟩])] 8 rfl (by kernel_rfl) (by kernel_rfl) (by kernel_rfl) (by kernel_rfl) (by kernel_rfl) (laid_metH os _)) ?_
  intro W base args ds gs before hval0 hW _ hsz hL _
  have hval : ∀ (j : Nat) t v, Tryz.f7.params[j]? = some t → args[j]? = some v → Value.okWide Tryz.prog W .any base t v := hval0
  have hW' := hW
  obtain ⟨p, q, hA0, hV, rfl, hfz, hnd⟩ := hW
  have hA : DataW.TrodAll enc Tryz.prog W 0 (fun _ => true) true Tryz.f7.params.toList args.toList ds p := hA0
  rw [Tryz.params7] at hA hval
  obtain ⟨v0, vs0, d0, ds0, p0, q0, hargs, rfl, rfl, h0, r0⟩ := trodAll_cons hA
  obtain ⟨v1, vs1, d1, ds1, p1, q1, rfl, rfl, rfl, h1, r1⟩ := trodAll_cons r0
  obtain ⟨rfl, rfl, rfl⟩ := trodAll_nil r1
  obtain rfl : args = #[v0, v1] := by cases args; simp_all
  obtain ⟨rfl, rfl⟩ := trodVars_none hV
  obtain ⟨a0, rfl, ka0⟩ := okWide_struct Tryz.underlying26 (hval 0 26 v0 rfl rfl)
  have hs0 : ∀ x ∈ DataW.weights Tryz.prog 26 d0, x ≤ reachBytes := fun x hx => of_decide_eq_true (List.all_eq_true.1 hsz x (mem_weightsEach 0 _ _ (by rw [Tryz.params7]; rfl) rfl hx))
  have k0 := h0
  have lt0 : ∀ x ∈ p0, x.block < W.heap.size := by obtain ⟨m, hm⟩ := k0; exact DataW.trod_lt m _ _ _ hm
  obtain ⟨av0, ⟨z0, u0, w0⟩, hv0⟩ := OpensS.agg opens_Schema h0 hs0
  subst u0
  obtain ⟨a1, rfl, ka1⟩ := okWide_struct Tryz.underlying66 (hval 1 66 v1 rfl rfl)
  have hs1 : ∀ x ∈ DataW.weights Tryz.prog 66 d1, x ≤ reachBytes := fun x hx => of_decide_eq_true (List.all_eq_true.1 hsz x (mem_weightsEach 1 _ _ (by rw [Tryz.params7]; rfl) rfl hx))
  have k1 := h1
  have lt1 : ∀ x ∈ p1, x.block < W.heap.size := by obtain ⟨m, hm⟩ := k1; exact DataW.trod_lt m _ _ _ hm
  obtain ⟨av1, ⟨z1, u1, w1⟩, hv1⟩ := OpensS.agg opens_Packet h1 hs1
  subst u1
  clear hA0 hval0
  have walk := walk_of (v := .bool true) (law25_ProxyAll.ok z0 z1 true (all_true (szS_of w0))) (w := W) (vs := #[.agg a0, .agg a1]) (glb_of_laid hL)
    (listR_cons hv0 (listR_one hv1)) (fun E u hu => hu.true_of)
  refine walk.mono fun e W' ⟨he, bel⟩ => ?_
  subst he
  exact ⟨_, rfl, _, _, _, [], _, [], hW', trodAll_mk1 (shut_bool Tryz.underlying4 _), (trodAll_cons_mk (Below.trod laidOut (by kernel_rfl) (of_decide_eq_true (by kernel_rfl)) k0 bel lt0) (trodAll_cons_mk (Below.trod laidOut (by kernel_rfl) (of_decide_eq_true (by kernel_rfl)) k1 bel lt1) trodAll_mk0)), rfl, bel.frame _, fun h => by cases h⟩

theorem over : Rows.proxyAllRow.holds Tryz.pinned (OpenSpec.ofChange Rows.proxyAllSpec) :=
  OpenClaim.holds_of_wide 7 Tryz.f7 rfl rfl rfl rfl rfl rfl rfl ⟨rfl, rfl, rfl, rfl, rfl⟩ rfl rfl rfl rfl rfl (by kernel_rfl) Tryz.func7 (by kernel_rfl)
    (of_decide_eq_true (by kernel_rfl)) (by unfold Func.isWrapper; first | (rw [if_pos (by decide +kernel)]; kernel_rfl) | (rw [if_neg (by decide +kernel)]; exact ⟨rfl, rfl⟩))
    (fun os started H enc _ => lifted os started H enc)

/-- The statement. -/
theorem proved : Rows.ProxyAllCardSaid :=
  Claim7.holds_tied_plain_at .later [] [.data, .pinned] true (true, "724f6e7ccc29a7372c4311c6a05191e59375c5401e6a58e11761d54108b5be0a") true
    over (fun _ h => by cases h) (by kernel_rfl) (fun _ h => by cases h) proxyAll_row_tie rfl ⟨rfl, rfl⟩ (by kernel_rfl) rfl
    (fun f fn hf hfn => by
      obtain rfl : f = 7 := Option.some.inj ((show Tryz.prog.funcNamed "concordat/concordatlaw25.ProxyAll" = some 7 by kernel_rfl).symm.trans hf) |>.symm
      obtain rfl : fn = Tryz.f7 := (Option.some.inj (Tryz.func7.symm.trans hfn)).symm
      exact ⟨by kernel_rfl, fun j t ht => by
        rw [Tryz.params7] at ht
        have hm : t ∈ [26, 66] := by
          have := Array.mem_of_getElem? ht
          simpa using this
        have hall : ([26, 66] : List TypeId).all (fun t => !Tryz.prog.wantsStandIn t) = true := by kernel_rfl
        have := List.all_eq_true.1 hall t hm
        have h2 : Tryz.prog.wantsStandIn t = false := by simpa using this
        exact h2⟩)
    (by kernel_rfl)
#print axioms proved
end Go.Proofs.YtaddlmlpeghonaaGreatDoor.proxyAll

