/- DecodeLast: whatever the arguments, the law returns true and the arguments read as before. -/
import Derived.Test.YtaddlmlpeghonaaGreatDoorOOd
import Derived.Test.YtaddlmlpeghonaaGreatDoorCards
namespace Go.Proofs.YtaddlmlpeghonaaGreatDoor.decodeLast
open Go.ChangeShapes Go.WideShapes Go.ChangeAt Go.RowKit AM
set_option linter.unusedVariables false
set_option linter.constructorNameAsVariable false

set_option maxRecDepth 100000 in
theorem lifted (os : Os) (started : os.Started) (H : Type) (enc : TypeId × Value → H) :
    ReturnsInHanded {} Tryz.checked os 5 .any (fun w args => (Rows.decodeLastSpec.pre enc Tryz.prog Tryz.f5 Rows.decodeLastRow.domain false w args ∧ laidMetH Tryz.prog listed w) ∧ sizedMet enc Tryz.prog Tryz.f5 (OpenSpec.ofChange Rows.decodeLastSpec) false w args)
      (Rows.decodeLastSpec.post enc Tryz.prog Tryz.f5 false true false false) := by
  refine returnsInHanded_of_change_and (C := Tryz.checked) (X := fun w _ => laidMetH Tryz.prog listed w) (fun _ _ _ hh h => h.of_heap hh) own started (by kernel_rfl) Tryz.func5
    (ChangeSpec.witness_at (enc := enc) (C := Tryz.checked) (os := os) (X := fun w _ => laidMetH Tryz.prog listed w) false (laidWorld os) #[(.agg #[.string ⟨#[]⟩, .slice none 0 0, .slice none 0 0, .slice none 0 0]), .int .i64 0, .slice none 0 0, .slice none 0 0] 8 rfl (by kernel_rfl) (by kernel_rfl) (by kernel_rfl) (by kernel_rfl) (by kernel_rfl) (laid_metH os _)) ?_
  intro W base args ds gs before hval0 hW _ hsz hL _
  have hval : ∀ (j : Nat) t v, Tryz.f5.params[j]? = some t → args[j]? = some v → Value.okWide Tryz.prog W .any base t v := hval0
  have hW' := hW
  obtain ⟨p, q, hA0, hV, rfl, hfz, hnd⟩ := hW
  have hA : DataW.TrodAll enc Tryz.prog W 0 (fun _ => true) true Tryz.f5.params.toList args.toList ds p := hA0
  rw [Tryz.params5] at hA hval
  obtain ⟨v0, vs0, d0, ds0, p0, q0, hargs, rfl, rfl, h0, r0⟩ := trodAll_cons hA
  obtain ⟨v1, vs1, d1, ds1, p1, q1, rfl, rfl, rfl, h1, r1⟩ := trodAll_cons r0
  obtain ⟨v2, vs2, d2, ds2, p2, q2, rfl, rfl, rfl, h2, r2⟩ := trodAll_cons r1
  obtain ⟨v3, vs3, d3, ds3, p3, q3, rfl, rfl, rfl, h3, r3⟩ := trodAll_cons r2
  obtain ⟨rfl, rfl, rfl⟩ := trodAll_nil r3
  obtain rfl : args = #[v0, v1, v2, v3] := by cases args; simp_all
  obtain ⟨rfl, rfl⟩ := trodVars_none hV
  obtain ⟨a0, rfl, ka0⟩ := okWide_struct Tryz.underlying26 (hval 0 26 v0 rfl rfl)
  have hs0 : ∀ x ∈ DataW.weights Tryz.prog 26 d0, x ≤ reachBytes := fun x hx => of_decide_eq_true (List.all_eq_true.1 hsz x (mem_weightsEach 0 _ _ (by rw [Tryz.params5]; rfl) rfl hx))
  have k0 := h0
  have lt0 : ∀ x ∈ p0, x.block < W.heap.size := by obtain ⟨m, hm⟩ := k0; exact DataW.trod_lt m _ _ _ hm
  obtain ⟨av0, ⟨z0, u0, w0⟩, hv0⟩ := OpensS.agg opens_Schema h0 hs0
  subst u0
  obtain ⟨a1, rfl, rfl, rfl, w1⟩ := open_int Tryz.underlying3 (hval 1 3 v1 rfl rfl) h1
  obtain ⟨a2, len2, cap2, rfl⟩ := okWide_slice Tryz.underlying45 (hval 2 45 v2 rfl rfl)
  have hs2 : ∀ x ∈ DataW.weights Tryz.prog 45 d2, x ≤ reachBytes := fun x hx => of_decide_eq_true (List.all_eq_true.1 hsz x (mem_weightsEach 2 _ _ (by rw [Tryz.params5]; rfl) rfl hx))
  have k2 := h2
  have lt2 : ∀ x ∈ p2, x.block < W.heap.size := by obtain ⟨m, hm⟩ := k2; exact DataW.trod_lt m _ _ _ hm
  obtain ⟨av2, ⟨z2, u2, w2⟩, hv2⟩ := OpensS.arg opens_ints h2 hs2 rfl
  cases u2
  obtain ⟨a3, len3, cap3, rfl⟩ := okWide_slice Tryz.underlying45 (hval 3 45 v3 rfl rfl)
  have hs3 : ∀ x ∈ DataW.weights Tryz.prog 45 d3, x ≤ reachBytes := fun x hx => of_decide_eq_true (List.all_eq_true.1 hsz x (mem_weightsEach 3 _ _ (by rw [Tryz.params5]; rfl) rfl hx))
  have k3 := h3
  have lt3 : ∀ x ∈ p3, x.block < W.heap.size := by obtain ⟨m, hm⟩ := k3; exact DataW.trod_lt m _ _ _ hm
  obtain ⟨av3, ⟨z3, u3, w3⟩, hv3⟩ := OpensS.arg opens_ints h3 hs3 rfl
  cases u3
  clear hA0 hval0
  have walk := walk_of (v := .bool true) (law12_DecodeLast.ok z0 a1 z2 z3 true (last_true (szS_of w0))) (w := W) (vs := #[.agg a0, .int .i64 a1, .slice a2 len2 cap2, .slice a3 len3 cap3]) (glb_of_laid hL)
    (listR_cons hv0 (listR_cons (.int _ _) (listR_cons hv2 (listR_one hv3)))) (fun E u hu => hu.true_of)
  refine walk.mono fun e W' ⟨he, bel⟩ => ?_
  subst he
  exact ⟨_, rfl, _, _, _, [], _, [], hW', trodAll_mk1 (shut_bool Tryz.underlying4 _), (trodAll_cons_mk (Below.trod laidOut (by kernel_rfl) (of_decide_eq_true (by kernel_rfl)) k0 bel lt0) (trodAll_cons_mk (shut_int Tryz.underlying3 w1) (trodAll_cons_mk (Below.trod laidOut (by kernel_rfl) (of_decide_eq_true (by kernel_rfl)) k2 bel lt2) (trodAll_cons_mk (Below.trod laidOut (by kernel_rfl) (of_decide_eq_true (by kernel_rfl)) k3 bel lt3) trodAll_mk0)))), rfl, bel.frame _, fun h => by cases h⟩

theorem over : Rows.decodeLastRow.holds Tryz.pinned (OpenSpec.ofChange Rows.decodeLastSpec) :=
  OpenClaim.holds_of_wide 5 Tryz.f5 rfl rfl rfl rfl rfl rfl rfl ⟨rfl, rfl, rfl, rfl, rfl⟩ rfl rfl rfl rfl rfl (by kernel_rfl) Tryz.func5 (by kernel_rfl)
    (of_decide_eq_true (by kernel_rfl)) (by unfold Func.isWrapper; first | (rw [if_pos (by decide +kernel)]; kernel_rfl) | (rw [if_neg (by decide +kernel)]; exact ⟨rfl, rfl⟩))
    (fun os started H enc _ => lifted os started H enc)

/-- The statement. -/
theorem proved : Rows.DecodeLastCardSaid :=
  Claim7.holds_tied_plain_at .later [] [.data, .pinned] true (true, "724f6e7ccc29a7372c4311c6a05191e59375c5401e6a58e11761d54108b5be0a") true
    over (fun _ h => by cases h) (by kernel_rfl) (fun _ h => by cases h) decodeLast_row_tie rfl ⟨rfl, rfl⟩ (by kernel_rfl) rfl
    (fun f fn hf hfn => by
      obtain rfl : f = 5 := Option.some.inj ((show Tryz.prog.funcNamed "concordat/concordatlaw12.DecodeLast" = some 5 by kernel_rfl).symm.trans hf) |>.symm
      obtain rfl : fn = Tryz.f5 := (Option.some.inj (Tryz.func5.symm.trans hfn)).symm
      exact ⟨by kernel_rfl, fun j t ht => by
        rw [Tryz.params5] at ht
        have hm : t ∈ [26, 3, 45, 45] := by
          have := Array.mem_of_getElem? ht
          simpa using this
        have hall : ([26, 3, 45, 45] : List TypeId).all (fun t => !Tryz.prog.wantsStandIn t) = true := by kernel_rfl
        have := List.all_eq_true.1 hall t hm
        have h2 : Tryz.prog.wantsStandIn t = false := by simpa using this
        exact h2⟩)
    (by kernel_rfl)
#print axioms proved
end Go.Proofs.YtaddlmlpeghonaaGreatDoor.decodeLast

