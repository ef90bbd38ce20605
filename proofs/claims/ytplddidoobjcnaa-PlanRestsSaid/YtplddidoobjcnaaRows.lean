/-
  No cell of these rows narrows 'for every input' (looked for: loops, veiled, ifaces, maps, wideKeys, modest, calm, conditions, laid).
  DERIVED. THE GIVEN ROWS OF THIS SEAT. 10 by the template 'for every input the law returns true; each argument reads behind the call as it read before'; 0 by the template 'total and deterministic' (their statements: YtplddidoobjcnaaTotals.lean).
  GIVEN WITH THE SEED: the statements are not yours to turn. If you find one false, say at which input.
  Laid BY PROGRAM, IN A SANDBOX (cutbox-rows.mjs): the forced cells as the released guide's own fill.sh prints them over the translation e07d4d577f9b00dc… (all of the seat's roots in one cut). By AI agents, Wed Nov 11 2026. No macro, syntax, notation, axiom, sorry.
-/
import Derived.Test.YtplddidoobjcnaaChecked
import GoSem.Claim
import GoSem.ClaimJoined
import GoSem.ClaimMapViews
import Derived.JoinedTies
import Derived.KernelRfl
namespace Go.Proofs.Ytplddidoobjcnaa
/- THE CELL 'sum', in the pinned program and in every row, IS THE sha256 OF THE DUMP (.gsa) THAT YtplddidoobjcnaaProg.lean LOADS. Nothing in Lean hashes anything: it is a label: what it is worth is what the hold of that sum in a sandbox is worth. -/
noncomputable def Try.pinned : Pinned := { name := "ytplddidoobjcnaa", sum := "e07d4d577f9b00dcc7bdaf45dc7a73d508ed6bc409682513cce9d68eda40bf49", checked := Try.checked }
namespace Rows
def none {H : Type} : Left H := { results := [], args := [] }

/-- 'concordatlaw17.DiskCuts': WHATEVER THE INPUT: true; the input reads as it did. -/
def diskCutsSpec : ChangeSpec := { name := "diskCuts", fn := fun _ => fun
  | [d1, d2] => { results := [.lit (.bool true)], args := [d1, d2] }
  | _ => none }
def diskCutsRow : OpenClaim := { program := "ytplddidoobjcnaa", sum := "e07d4d577f9b00dcc7bdaf45dc7a73d508ed6bc409682513cce9d68eda40bf49", func := "concordat/concordatlaw17.DiskCuts", spec := "diskCuts", plainKeys := false, apart := false }
def DiskCutsSaid : Prop := diskCutsRow.holds Try.pinned (OpenSpec.ofChange diskCutsSpec)

/-- ITS FALSE NEIGHBOUR: 'it returns false'. Refute it at one input. -/
def diskCutsWrong : ChangeSpec := { name := "diskCuts", fn := fun _ => fun
  | [d1, d2] => { results := [.lit (.bool false)], args := [d1, d2] }
  | _ => none }
def DiskCutsWrongFalsely : Prop := diskCutsRow.holds Try.pinned (OpenSpec.ofChange diskCutsWrong)

/-- 'concordatlaw17.DiskFull': WHATEVER THE INPUT: true; the input reads as it did. -/
def diskFullSpec : ChangeSpec := { name := "diskFull", fn := fun _ => fun
  | [d1, d2] => { results := [.lit (.bool true)], args := [d1, d2] }
  | _ => none }
def diskFullRow : OpenClaim := { program := "ytplddidoobjcnaa", sum := "e07d4d577f9b00dcc7bdaf45dc7a73d508ed6bc409682513cce9d68eda40bf49", func := "concordat/concordatlaw17.DiskFull", spec := "diskFull", plainKeys := false, apart := false }
def DiskFullSaid : Prop := diskFullRow.holds Try.pinned (OpenSpec.ofChange diskFullSpec)

/-- ITS FALSE NEIGHBOUR: 'it returns false'. Refute it at one input. -/
def diskFullWrong : ChangeSpec := { name := "diskFull", fn := fun _ => fun
  | [d1, d2] => { results := [.lit (.bool false)], args := [d1, d2] }
  | _ => none }
def DiskFullWrongFalsely : Prop := diskFullRow.holds Try.pinned (OpenSpec.ofChange diskFullWrong)

/-- 'concordatlaw17.DiskImages': WHATEVER THE INPUT: true; the input reads as it did. -/
def diskImagesSpec : ChangeSpec := { name := "diskImages", fn := fun _ => fun
  | [d1, d2, d3] => { results := [.lit (.bool true)], args := [d1, d2, d3] }
  | _ => none }
def diskImagesRow : OpenClaim := { program := "ytplddidoobjcnaa", sum := "e07d4d577f9b00dcc7bdaf45dc7a73d508ed6bc409682513cce9d68eda40bf49", func := "concordat/concordatlaw17.DiskImages", spec := "diskImages", plainKeys := false, apart := false }
def DiskImagesSaid : Prop := diskImagesRow.holds Try.pinned (OpenSpec.ofChange diskImagesSpec)

/-- ITS FALSE NEIGHBOUR: 'it returns false'. Refute it at one input. -/
def diskImagesWrong : ChangeSpec := { name := "diskImages", fn := fun _ => fun
  | [d1, d2, d3] => { results := [.lit (.bool false)], args := [d1, d2, d3] }
  | _ => none }
def DiskImagesWrongFalsely : Prop := diskImagesRow.holds Try.pinned (OpenSpec.ofChange diskImagesWrong)

/-- 'concordatlaw17.DiskPlays': WHATEVER THE INPUT: true; the input reads as it did. -/
def diskPlaysSpec : ChangeSpec := { name := "diskPlays", fn := fun _ => fun
  | [d1, d2] => { results := [.lit (.bool true)], args := [d1, d2] }
  | _ => none }
def diskPlaysRow : OpenClaim := { program := "ytplddidoobjcnaa", sum := "e07d4d577f9b00dcc7bdaf45dc7a73d508ed6bc409682513cce9d68eda40bf49", func := "concordat/concordatlaw17.DiskPlays", spec := "diskPlays", plainKeys := false, apart := false }
def DiskPlaysSaid : Prop := diskPlaysRow.holds Try.pinned (OpenSpec.ofChange diskPlaysSpec)

/-- ITS FALSE NEIGHBOUR: 'it returns false'. Refute it at one input. -/
def diskPlaysWrong : ChangeSpec := { name := "diskPlays", fn := fun _ => fun
  | [d1, d2] => { results := [.lit (.bool false)], args := [d1, d2] }
  | _ => none }
def DiskPlaysWrongFalsely : Prop := diskPlaysRow.holds Try.pinned (OpenSpec.ofChange diskPlaysWrong)

/-- 'concordatlaw27.PlanSafe': WHATEVER THE INPUT: true; the input reads as it did. -/
def planSafeSpec : ChangeSpec := { name := "planSafe", fn := fun _ => fun
  | [d1, d2] => { results := [.lit (.bool true)], args := [d1, d2] }
  | _ => none }
def planSafeRow : OpenClaim := { program := "ytplddidoobjcnaa", sum := "e07d4d577f9b00dcc7bdaf45dc7a73d508ed6bc409682513cce9d68eda40bf49", func := "concordat/concordatlaw27.PlanSafe", spec := "planSafe", recurses := true, plainKeys := false, apart := false }
def PlanSafeSaid : Prop := planSafeRow.holds Try.pinned (OpenSpec.ofChange planSafeSpec)

/-- ITS FALSE NEIGHBOUR: 'it returns false'. Refute it at one input. -/
def planSafeWrong : ChangeSpec := { name := "planSafe", fn := fun _ => fun
  | [d1, d2] => { results := [.lit (.bool false)], args := [d1, d2] }
  | _ => none }
def PlanSafeWrongFalsely : Prop := planSafeRow.holds Try.pinned (OpenSpec.ofChange planSafeWrong)

/-- 'concordatlaw27.PlanNone': WHATEVER THE INPUT: true; the input reads as it did. -/
def planNoneSpec : ChangeSpec := { name := "planNone", fn := fun _ => fun
  | [d1, d2, d3] => { results := [.lit (.bool true)], args := [d1, d2, d3] }
  | _ => none }
def planNoneRow : OpenClaim := { program := "ytplddidoobjcnaa", sum := "e07d4d577f9b00dcc7bdaf45dc7a73d508ed6bc409682513cce9d68eda40bf49", func := "concordat/concordatlaw27.PlanNone", spec := "planNone", recurses := true, plainKeys := false, apart := false }
def PlanNoneSaid : Prop := planNoneRow.holds Try.pinned (OpenSpec.ofChange planNoneSpec)

/-- ITS FALSE NEIGHBOUR: 'it returns false'. Refute it at one input. -/
def planNoneWrong : ChangeSpec := { name := "planNone", fn := fun _ => fun
  | [d1, d2, d3] => { results := [.lit (.bool false)], args := [d1, d2, d3] }
  | _ => none }
def PlanNoneWrongFalsely : Prop := planNoneRow.holds Try.pinned (OpenSpec.ofChange planNoneWrong)

/-- 'concordatlaw27.PlanWide': WHATEVER THE INPUT: true; the input reads as it did. -/
def planWideSpec : ChangeSpec := { name := "planWide", fn := fun _ => fun
  | [d1, d2, d3] => { results := [.lit (.bool true)], args := [d1, d2, d3] }
  | _ => none }
def planWideRow : OpenClaim := { program := "ytplddidoobjcnaa", sum := "e07d4d577f9b00dcc7bdaf45dc7a73d508ed6bc409682513cce9d68eda40bf49", func := "concordat/concordatlaw27.PlanWide", spec := "planWide", recurses := true, plainKeys := false, apart := false }
def PlanWideSaid : Prop := planWideRow.holds Try.pinned (OpenSpec.ofChange planWideSpec)

/-- ITS FALSE NEIGHBOUR: 'it returns false'. Refute it at one input. -/
def planWideWrong : ChangeSpec := { name := "planWide", fn := fun _ => fun
  | [d1, d2, d3] => { results := [.lit (.bool false)], args := [d1, d2, d3] }
  | _ => none }
def PlanWideWrongFalsely : Prop := planWideRow.holds Try.pinned (OpenSpec.ofChange planWideWrong)

/-- 'concordatlaw27.PlanPairs': WHATEVER THE INPUT: true; the input reads as it did. -/
def planPairsSpec : ChangeSpec := { name := "planPairs", fn := fun _ => fun
  | [d1, d2, d3, d4] => { results := [.lit (.bool true)], args := [d1, d2, d3, d4] }
  | _ => none }
def planPairsRow : OpenClaim := { program := "ytplddidoobjcnaa", sum := "e07d4d577f9b00dcc7bdaf45dc7a73d508ed6bc409682513cce9d68eda40bf49", func := "concordat/concordatlaw27.PlanPairs", spec := "planPairs", recurses := true, plainKeys := false, apart := false }
def PlanPairsSaid : Prop := planPairsRow.holds Try.pinned (OpenSpec.ofChange planPairsSpec)

/-- ITS FALSE NEIGHBOUR: 'it returns false'. Refute it at one input. -/
def planPairsWrong : ChangeSpec := { name := "planPairs", fn := fun _ => fun
  | [d1, d2, d3, d4] => { results := [.lit (.bool false)], args := [d1, d2, d3, d4] }
  | _ => none }
def PlanPairsWrongFalsely : Prop := planPairsRow.holds Try.pinned (OpenSpec.ofChange planPairsWrong)

/-- 'concordatlaw27.PlanTurns': WHATEVER THE INPUT: true; the input reads as it did. -/
def planTurnsSpec : ChangeSpec := { name := "planTurns", fn := fun _ => fun
  | [d1, d2] => { results := [.lit (.bool true)], args := [d1, d2] }
  | _ => none }
def planTurnsRow : OpenClaim := { program := "ytplddidoobjcnaa", sum := "e07d4d577f9b00dcc7bdaf45dc7a73d508ed6bc409682513cce9d68eda40bf49", func := "concordat/concordatlaw27.PlanTurns", spec := "planTurns", recurses := true, plainKeys := false, apart := false }
def PlanTurnsSaid : Prop := planTurnsRow.holds Try.pinned (OpenSpec.ofChange planTurnsSpec)

/-- ITS FALSE NEIGHBOUR: 'it returns false'. Refute it at one input. -/
def planTurnsWrong : ChangeSpec := { name := "planTurns", fn := fun _ => fun
  | [d1, d2] => { results := [.lit (.bool false)], args := [d1, d2] }
  | _ => none }
def PlanTurnsWrongFalsely : Prop := planTurnsRow.holds Try.pinned (OpenSpec.ofChange planTurnsWrong)

/-- 'concordatlaw27.PlanRests': WHATEVER THE INPUT: true; the input reads as it did. -/
def planRestsSpec : ChangeSpec := { name := "planRests", fn := fun _ => fun
  | [d1, d2, d3] => { results := [.lit (.bool true)], args := [d1, d2, d3] }
  | _ => none }
def planRestsRow : OpenClaim := { program := "ytplddidoobjcnaa", sum := "e07d4d577f9b00dcc7bdaf45dc7a73d508ed6bc409682513cce9d68eda40bf49", func := "concordat/concordatlaw27.PlanRests", spec := "planRests", recurses := true, plainKeys := false, apart := false }
def PlanRestsSaid : Prop := planRestsRow.holds Try.pinned (OpenSpec.ofChange planRestsSpec)

/-- ITS FALSE NEIGHBOUR: 'it returns false'. Refute it at one input. -/
def planRestsWrong : ChangeSpec := { name := "planRests", fn := fun _ => fun
  | [d1, d2, d3] => { results := [.lit (.bool false)], args := [d1, d2, d3] }
  | _ => none }
def PlanRestsWrongFalsely : Prop := planRestsRow.holds Try.pinned (OpenSpec.ofChange planRestsWrong)

/- THE SECOND FORM. 'bulk': how many values and letters a reading holds, each counted each time it is reached (what is shared counts as often as it is met; a slice's spare places count too). A statement '..UptoSaid' is the law's where the arguments, and the package variables that the reading takes, are together of bulk at most 1048576: NARROWER than '..Said'. Prove '..Said' where nothing that the law and all that it calls make is longer than what came in: it says more and counts as full. Else prove '..UptoSaid'. A law counts once. -/
mutual
def uptoBulk {H : Type} : DataW H → Nat
  | .lit (.string bytes) => bytes.length + 1
  | .lit _ => 1
  | .nil => 1
  | .ptr d => uptoBulk d + 1
  | .slice elems spare => uptoBulkAll elems + uptoBulkAll spare + 1
  | .agg parts => uptoBulkAll parts + 1
  | .iface _ d => uptoBulk d + 1
  | .map entries => uptoBulkEntries entries + 1
  | .held _ => 1
def uptoBulkAll {H : Type} : List (DataW H) → Nat
  | [] => 0
  | d :: r => uptoBulk d + uptoBulkAll r
def uptoBulkEntries {H : Type} : List (Lit × DataW H) → Nat
  | [] => 0
  | x :: r => uptoBulkEntry x + uptoBulkEntries r
def uptoBulkEntry {H : Type} : Lit × DataW H → Nat
  | (.string bytes, d) => bytes.length + uptoBulk d + 1
  | (_, d) => uptoBulk d + 1
 end
def uptoSmall : (H : Type) → List (DataW H) → Bool := fun _ ds => decide (uptoBulkAll ds ≤ 1048576)
def OpenSpec.upto (s : _root_.Go.ChangeSpec) : _root_.Go.OpenSpec := { _root_.Go.OpenSpec.ofChange s with cond := some uptoSmall }

/-- 'concordatlaw17.DiskCuts', WHERE WHAT IT READS IS OF BULK AT MOST 1048576: true; the input reads as it did. -/
def diskCutsUptoRow : OpenClaim := { program := "ytplddidoobjcnaa", sum := "e07d4d577f9b00dcc7bdaf45dc7a73d508ed6bc409682513cce9d68eda40bf49", func := "concordat/concordatlaw17.DiskCuts", spec := "diskCuts", plainKeys := false, apart := false, narrowed := true }
def DiskCutsUptoSaid : Prop := diskCutsUptoRow.holds Try.pinned (OpenSpec.upto diskCutsSpec)

/-- 'concordatlaw17.DiskFull', WHERE WHAT IT READS IS OF BULK AT MOST 1048576: true; the input reads as it did. -/
def diskFullUptoRow : OpenClaim := { program := "ytplddidoobjcnaa", sum := "e07d4d577f9b00dcc7bdaf45dc7a73d508ed6bc409682513cce9d68eda40bf49", func := "concordat/concordatlaw17.DiskFull", spec := "diskFull", plainKeys := false, apart := false, narrowed := true }
def DiskFullUptoSaid : Prop := diskFullUptoRow.holds Try.pinned (OpenSpec.upto diskFullSpec)

/-- 'concordatlaw17.DiskImages', WHERE WHAT IT READS IS OF BULK AT MOST 1048576: true; the input reads as it did. -/
def diskImagesUptoRow : OpenClaim := { program := "ytplddidoobjcnaa", sum := "e07d4d577f9b00dcc7bdaf45dc7a73d508ed6bc409682513cce9d68eda40bf49", func := "concordat/concordatlaw17.DiskImages", spec := "diskImages", plainKeys := false, apart := false, narrowed := true }
def DiskImagesUptoSaid : Prop := diskImagesUptoRow.holds Try.pinned (OpenSpec.upto diskImagesSpec)

/-- 'concordatlaw17.DiskPlays', WHERE WHAT IT READS IS OF BULK AT MOST 1048576: true; the input reads as it did. -/
def diskPlaysUptoRow : OpenClaim := { program := "ytplddidoobjcnaa", sum := "e07d4d577f9b00dcc7bdaf45dc7a73d508ed6bc409682513cce9d68eda40bf49", func := "concordat/concordatlaw17.DiskPlays", spec := "diskPlays", plainKeys := false, apart := false, narrowed := true }
def DiskPlaysUptoSaid : Prop := diskPlaysUptoRow.holds Try.pinned (OpenSpec.upto diskPlaysSpec)

/-- 'concordatlaw27.PlanSafe', WHERE WHAT IT READS IS OF BULK AT MOST 1048576: true; the input reads as it did. -/
def planSafeUptoRow : OpenClaim := { program := "ytplddidoobjcnaa", sum := "e07d4d577f9b00dcc7bdaf45dc7a73d508ed6bc409682513cce9d68eda40bf49", func := "concordat/concordatlaw27.PlanSafe", spec := "planSafe", recurses := true, plainKeys := false, apart := false, narrowed := true }
def PlanSafeUptoSaid : Prop := planSafeUptoRow.holds Try.pinned (OpenSpec.upto planSafeSpec)

/-- 'concordatlaw27.PlanNone', WHERE WHAT IT READS IS OF BULK AT MOST 1048576: true; the input reads as it did. -/
def planNoneUptoRow : OpenClaim := { program := "ytplddidoobjcnaa", sum := "e07d4d577f9b00dcc7bdaf45dc7a73d508ed6bc409682513cce9d68eda40bf49", func := "concordat/concordatlaw27.PlanNone", spec := "planNone", recurses := true, plainKeys := false, apart := false, narrowed := true }
def PlanNoneUptoSaid : Prop := planNoneUptoRow.holds Try.pinned (OpenSpec.upto planNoneSpec)

/-- 'concordatlaw27.PlanWide', WHERE WHAT IT READS IS OF BULK AT MOST 1048576: true; the input reads as it did. -/
def planWideUptoRow : OpenClaim := { program := "ytplddidoobjcnaa", sum := "e07d4d577f9b00dcc7bdaf45dc7a73d508ed6bc409682513cce9d68eda40bf49", func := "concordat/concordatlaw27.PlanWide", spec := "planWide", recurses := true, plainKeys := false, apart := false, narrowed := true }
def PlanWideUptoSaid : Prop := planWideUptoRow.holds Try.pinned (OpenSpec.upto planWideSpec)

/-- 'concordatlaw27.PlanPairs', WHERE WHAT IT READS IS OF BULK AT MOST 1048576: true; the input reads as it did. -/
def planPairsUptoRow : OpenClaim := { program := "ytplddidoobjcnaa", sum := "e07d4d577f9b00dcc7bdaf45dc7a73d508ed6bc409682513cce9d68eda40bf49", func := "concordat/concordatlaw27.PlanPairs", spec := "planPairs", recurses := true, plainKeys := false, apart := false, narrowed := true }
def PlanPairsUptoSaid : Prop := planPairsUptoRow.holds Try.pinned (OpenSpec.upto planPairsSpec)

/-- 'concordatlaw27.PlanTurns', WHERE WHAT IT READS IS OF BULK AT MOST 1048576: true; the input reads as it did. -/
def planTurnsUptoRow : OpenClaim := { program := "ytplddidoobjcnaa", sum := "e07d4d577f9b00dcc7bdaf45dc7a73d508ed6bc409682513cce9d68eda40bf49", func := "concordat/concordatlaw27.PlanTurns", spec := "planTurns", recurses := true, plainKeys := false, apart := false, narrowed := true }
def PlanTurnsUptoSaid : Prop := planTurnsUptoRow.holds Try.pinned (OpenSpec.upto planTurnsSpec)

/-- 'concordatlaw27.PlanRests', WHERE WHAT IT READS IS OF BULK AT MOST 1048576: true; the input reads as it did. -/
def planRestsUptoRow : OpenClaim := { program := "ytplddidoobjcnaa", sum := "e07d4d577f9b00dcc7bdaf45dc7a73d508ed6bc409682513cce9d68eda40bf49", func := "concordat/concordatlaw27.PlanRests", spec := "planRests", recurses := true, plainKeys := false, apart := false, narrowed := true }
def PlanRestsUptoSaid : Prop := planRestsUptoRow.holds Try.pinned (OpenSpec.upto planRestsSpec)

end Rows
end Go.Proofs.Ytplddidoobjcnaa
