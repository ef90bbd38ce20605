/-
  NARROWER THAN 'FOR EVERY INPUT', by the rows' own cells (each row's printed sentence says how): ClientElder: laid · ClientErrors: laid · ClientCalls: laid · ClientDeaf: laid · ClientPlays: loops, laid · ServerAnswers: loops, laid · ServerOnce: laid · ServerRows: laid · ServerCommon: laid · ServerWrong: laid · ServerPlays: loops, laid · ServerDeploys: laid.
  DERIVED. THE GIVEN ROWS OF THIS SEAT. 12 by the template 'for every input the law returns true; each argument reads behind the call as it read before'; 0 by the template 'total and deterministic' (their statements: YtaahlckibpiphaaGreatDoorTotals.lean).
  GIVEN WITH THE SEED: the statements are not yours to turn. If you find one false, say at which input.
  Laid BY PROGRAM, IN A SANDBOX (cutbox-rows.mjs): the forced cells as the released guide's own fill.sh prints them over the translation 7a96810bae06da44… (all of the seat's roots in one cut). By AI agents, Wed Nov 11 2026. No macro, syntax, notation, axiom, sorry.
-/
import Derived.Test.YtaahlckibpiphaaGreatDoorChecked
import GoSem.PinnedTables
import GoSem.Claim
import GoSem.ClaimJoined
import GoSem.ClaimMapViews
import Derived.JoinedTies
import Derived.KernelRfl
namespace Go.Proofs.YtaahlckibpiphaaGreatDoor
/- THE CELL 'sum', in the pinned program and in every row, IS THE sha256 OF THE DUMP (.gsa) THAT YtaahlckibpiphaaGreatDoorProg.lean LOADS. Nothing in Lean hashes anything: it is a label: what it is worth is what the hold of that sum in a sandbox is worth. -/
noncomputable def Tryz.pinned : Pinned := { name := "ytaahlckibpiphaagreatdoor", sum := "7a96810bae06da4408c958487142725b5867776f9aaddcaa6d66194f4567f910", checked := Tryz.checked }
namespace Rows
def none {H : Type} : Left H := { results := [], args := [] }

/- WHAT THE LISTED PACKAGE-LEVEL VARIABLES READ AS WHEN THE CALL BEGINS. Each datum BY PROGRAM (the guide's laid-datum.mjs) off the statement by which the dump's own 'gosem.cut.vars' lays the variable. In a bare row this is a premise. The card (YtaahlckibpiphaaGreatDoorCards.lean) ties it to the program's text. -/
def laid_unicode_utf8_acceptRanges {H : Type} : DataW H := .agg [.agg [.lit (.int .u8 128), .lit (.int .u8 191)], .agg [.lit (.int .u8 160), .lit (.int .u8 191)], .agg [.lit (.int .u8 128), .lit (.int .u8 159)], .agg [.lit (.int .u8 144), .lit (.int .u8 191)], .agg [.lit (.int .u8 128), .lit (.int .u8 143)], .agg [.lit (.int .u8 0), .lit (.int .u8 0)], .agg [.lit (.int .u8 0), .lit (.int .u8 0)], .agg [.lit (.int .u8 0), .lit (.int .u8 0)], .agg [.lit (.int .u8 0), .lit (.int .u8 0)], .agg [.lit (.int .u8 0), .lit (.int .u8 0)], .agg [.lit (.int .u8 0), .lit (.int .u8 0)], .agg [.lit (.int .u8 0), .lit (.int .u8 0)], .agg [.lit (.int .u8 0), .lit (.int .u8 0)], .agg [.lit (.int .u8 0), .lit (.int .u8 0)], .agg [.lit (.int .u8 0), .lit (.int .u8 0)], .agg [.lit (.int .u8 0), .lit (.int .u8 0)]]
/-- One of Go's own tables, pinned by name: the form's constant. -/
def laid_unicode_utf8_first : DataW Unit := Go.Pinned.utf8First

/-- 'concordatlaw23.ClientElder': WHATEVER THE INPUT: true; the input reads as it did. -/
def clientElderSpec : ChangeSpec := { name := "clientElder", fn := fun _ => fun
  | [d1, d2] => { results := [.lit (.bool true)], args := [d1, d2] }
  | _ => none }
def clientElderRow : OpenClaim := { program := "ytaahlckibpiphaagreatdoor", sum := "7a96810bae06da4408c958487142725b5867776f9aaddcaa6d66194f4567f910", func := "concordat/concordatlaw23.ClientElder", spec := "clientElder", inPlace := ["slices.overlaps[concordat/api.Entry]"], unfollowed := true, recurses := true, named := ["unicode/utf8.first", "unicode/utf8.acceptRanges"], plainKeys := false, apart := false, laid := [("unicode/utf8.acceptRanges", laid_unicode_utf8_acceptRanges), ("unicode/utf8.first", laid_unicode_utf8_first)] }
def ClientElderSaid : Prop := clientElderRow.holds Tryz.pinned (OpenSpec.ofChange clientElderSpec)

/-- ITS FALSE NEIGHBOUR: 'it returns false'. Refute it at one input. -/
def clientElderWrong : ChangeSpec := { name := "clientElder", fn := fun _ => fun
  | [d1, d2] => { results := [.lit (.bool false)], args := [d1, d2] }
  | _ => none }
def ClientElderWrongFalsely : Prop := clientElderRow.holds Tryz.pinned (OpenSpec.ofChange clientElderWrong)

/-- 'concordatlaw23.ClientErrors': WHATEVER THE INPUT: true; the input reads as it did. -/
def clientErrorsSpec : ChangeSpec := { name := "clientErrors", fn := fun _ => fun
  | [d1, d2] => { results := [.lit (.bool true)], args := [d1, d2] }
  | _ => none }
def clientErrorsRow : OpenClaim := { program := "ytaahlckibpiphaagreatdoor", sum := "7a96810bae06da4408c958487142725b5867776f9aaddcaa6d66194f4567f910", func := "concordat/concordatlaw23.ClientErrors", spec := "clientErrors", inPlace := ["slices.overlaps[concordat/api.Entry]"], unfollowed := true, recurses := true, named := ["unicode/utf8.first", "unicode/utf8.acceptRanges"], plainKeys := false, apart := false, laid := [("unicode/utf8.acceptRanges", laid_unicode_utf8_acceptRanges), ("unicode/utf8.first", laid_unicode_utf8_first)] }
def ClientErrorsSaid : Prop := clientErrorsRow.holds Tryz.pinned (OpenSpec.ofChange clientErrorsSpec)

/-- ITS FALSE NEIGHBOUR: 'it returns false'. Refute it at one input. -/
def clientErrorsWrong : ChangeSpec := { name := "clientErrors", fn := fun _ => fun
  | [d1, d2] => { results := [.lit (.bool false)], args := [d1, d2] }
  | _ => none }
def ClientErrorsWrongFalsely : Prop := clientErrorsRow.holds Tryz.pinned (OpenSpec.ofChange clientErrorsWrong)

/-- 'concordatlaw23.ClientCalls': WHATEVER THE INPUT: true; the input reads as it did. -/
def clientCallsSpec : ChangeSpec := { name := "clientCalls", fn := fun _ => fun
  | [d1, d2, d3, d4, d5] => { results := [.lit (.bool true)], args := [d1, d2, d3, d4, d5] }
  | _ => none }
def clientCallsRow : OpenClaim := { program := "ytaahlckibpiphaagreatdoor", sum := "7a96810bae06da4408c958487142725b5867776f9aaddcaa6d66194f4567f910", func := "concordat/concordatlaw23.ClientCalls", spec := "clientCalls", inPlace := ["slices.overlaps[concordat/api.Entry]"], unfollowed := true, recurses := true, named := ["unicode/utf8.first", "unicode/utf8.acceptRanges"], plainKeys := false, apart := false, laid := [("unicode/utf8.acceptRanges", laid_unicode_utf8_acceptRanges), ("unicode/utf8.first", laid_unicode_utf8_first)] }
def ClientCallsSaid : Prop := clientCallsRow.holds Tryz.pinned (OpenSpec.ofChange clientCallsSpec)

/-- ITS FALSE NEIGHBOUR: 'it returns false'. Refute it at one input. -/
def clientCallsWrong : ChangeSpec := { name := "clientCalls", fn := fun _ => fun
  | [d1, d2, d3, d4, d5] => { results := [.lit (.bool false)], args := [d1, d2, d3, d4, d5] }
  | _ => none }
def ClientCallsWrongFalsely : Prop := clientCallsRow.holds Tryz.pinned (OpenSpec.ofChange clientCallsWrong)

/-- 'concordatlaw23.ClientDeaf': WHATEVER THE INPUT: true; the input reads as it did. -/
def clientDeafSpec : ChangeSpec := { name := "clientDeaf", fn := fun _ => fun
  | [d1, d2] => { results := [.lit (.bool true)], args := [d1, d2] }
  | _ => none }
def clientDeafRow : OpenClaim := { program := "ytaahlckibpiphaagreatdoor", sum := "7a96810bae06da4408c958487142725b5867776f9aaddcaa6d66194f4567f910", func := "concordat/concordatlaw23.ClientDeaf", spec := "clientDeaf", inPlace := ["slices.overlaps[concordat/api.Entry]"], unfollowed := true, recurses := true, named := ["unicode/utf8.first", "unicode/utf8.acceptRanges"], plainKeys := false, apart := false, laid := [("unicode/utf8.acceptRanges", laid_unicode_utf8_acceptRanges), ("unicode/utf8.first", laid_unicode_utf8_first)] }
def ClientDeafSaid : Prop := clientDeafRow.holds Tryz.pinned (OpenSpec.ofChange clientDeafSpec)

/-- ITS FALSE NEIGHBOUR: 'it returns false'. Refute it at one input. -/
def clientDeafWrong : ChangeSpec := { name := "clientDeaf", fn := fun _ => fun
  | [d1, d2] => { results := [.lit (.bool false)], args := [d1, d2] }
  | _ => none }
def ClientDeafWrongFalsely : Prop := clientDeafRow.holds Tryz.pinned (OpenSpec.ofChange clientDeafWrong)

/-- 'concordatlaw23.ClientPlays': WHATEVER THE INPUT: true; the input reads as it did. -/
def clientPlaysSpec : ChangeSpec := { name := "clientPlays", fn := fun _ => fun
  | [d1, d2, d3, d4, d5] => { results := [.lit (.bool true)], args := [d1, d2, d3, d4, d5] }
  | _ => none }
def clientPlaysRow : OpenClaim := { program := "ytaahlckibpiphaagreatdoor", sum := "7a96810bae06da4408c958487142725b5867776f9aaddcaa6d66194f4567f910", func := "concordat/concordatlaw23.ClientPlays", spec := "clientPlays", inPlace := ["slices.overlaps[concordat/api.Entry]"], unfollowed := true, recurses := true, named := ["unicode/utf8.first", "unicode/utf8.acceptRanges"], loops := true, plainKeys := false, apart := false, laid := [("unicode/utf8.acceptRanges", laid_unicode_utf8_acceptRanges), ("unicode/utf8.first", laid_unicode_utf8_first)] }
def ClientPlaysSaid : Prop := clientPlaysRow.holds Tryz.pinned (OpenSpec.ofChange clientPlaysSpec)

/-- ITS FALSE NEIGHBOUR: 'it returns false'. Refute it at one input. -/
def clientPlaysWrong : ChangeSpec := { name := "clientPlays", fn := fun _ => fun
  | [d1, d2, d3, d4, d5] => { results := [.lit (.bool false)], args := [d1, d2, d3, d4, d5] }
  | _ => none }
def ClientPlaysWrongFalsely : Prop := clientPlaysRow.holds Tryz.pinned (OpenSpec.ofChange clientPlaysWrong)

/-- 'concordatlaw24.ServerAnswers': WHATEVER THE INPUT: true; the input reads as it did. -/
def serverAnswersSpec : ChangeSpec := { name := "serverAnswers", fn := fun _ => fun
  | [d1, d2, d3, d4, d5] => { results := [.lit (.bool true)], args := [d1, d2, d3, d4, d5] }
  | _ => none }
def serverAnswersRow : OpenClaim := { program := "ytaahlckibpiphaagreatdoor", sum := "7a96810bae06da4408c958487142725b5867776f9aaddcaa6d66194f4567f910", func := "concordat/concordatlaw24.ServerAnswers", spec := "serverAnswers", inPlace := ["slices.overlaps[concordat/api.Entry]"], unfollowed := true, recurses := true, named := ["unicode/utf8.first", "unicode/utf8.acceptRanges"], loops := true, plainKeys := false, apart := false, laid := [("unicode/utf8.acceptRanges", laid_unicode_utf8_acceptRanges), ("unicode/utf8.first", laid_unicode_utf8_first)] }
def ServerAnswersSaid : Prop := serverAnswersRow.holds Tryz.pinned (OpenSpec.ofChange serverAnswersSpec)

/-- ITS FALSE NEIGHBOUR: 'it returns false'. Refute it at one input. -/
def serverAnswersWrong : ChangeSpec := { name := "serverAnswers", fn := fun _ => fun
  | [d1, d2, d3, d4, d5] => { results := [.lit (.bool false)], args := [d1, d2, d3, d4, d5] }
  | _ => none }
def ServerAnswersWrongFalsely : Prop := serverAnswersRow.holds Tryz.pinned (OpenSpec.ofChange serverAnswersWrong)

/-- 'concordatlaw24.ServerOnce': WHATEVER THE INPUT: true; the input reads as it did. -/
def serverOnceSpec : ChangeSpec := { name := "serverOnce", fn := fun _ => fun
  | [d1, d2] => { results := [.lit (.bool true)], args := [d1, d2] }
  | _ => none }
def serverOnceRow : OpenClaim := { program := "ytaahlckibpiphaagreatdoor", sum := "7a96810bae06da4408c958487142725b5867776f9aaddcaa6d66194f4567f910", func := "concordat/concordatlaw24.ServerOnce", spec := "serverOnce", inPlace := ["slices.overlaps[concordat/api.Entry]"], unfollowed := true, recurses := true, named := ["unicode/utf8.first", "unicode/utf8.acceptRanges"], plainKeys := false, apart := false, laid := [("unicode/utf8.acceptRanges", laid_unicode_utf8_acceptRanges), ("unicode/utf8.first", laid_unicode_utf8_first)] }
def ServerOnceSaid : Prop := serverOnceRow.holds Tryz.pinned (OpenSpec.ofChange serverOnceSpec)

/-- ITS FALSE NEIGHBOUR: 'it returns false'. Refute it at one input. -/
def serverOnceWrong : ChangeSpec := { name := "serverOnce", fn := fun _ => fun
  | [d1, d2] => { results := [.lit (.bool false)], args := [d1, d2] }
  | _ => none }
def ServerOnceWrongFalsely : Prop := serverOnceRow.holds Tryz.pinned (OpenSpec.ofChange serverOnceWrong)

/-- 'concordatlaw24.ServerRows': WHATEVER THE INPUT: true; the input reads as it did. -/
def serverRowsSpec : ChangeSpec := { name := "serverRows", fn := fun _ => fun
  | [d1, d2, d3, d4] => { results := [.lit (.bool true)], args := [d1, d2, d3, d4] }
  | _ => none }
def serverRowsRow : OpenClaim := { program := "ytaahlckibpiphaagreatdoor", sum := "7a96810bae06da4408c958487142725b5867776f9aaddcaa6d66194f4567f910", func := "concordat/concordatlaw24.ServerRows", spec := "serverRows", inPlace := ["slices.overlaps[concordat/api.Entry]"], unfollowed := true, recurses := true, named := ["unicode/utf8.first", "unicode/utf8.acceptRanges"], plainKeys := false, apart := false, laid := [("unicode/utf8.acceptRanges", laid_unicode_utf8_acceptRanges), ("unicode/utf8.first", laid_unicode_utf8_first)] }
def ServerRowsSaid : Prop := serverRowsRow.holds Tryz.pinned (OpenSpec.ofChange serverRowsSpec)

/-- ITS FALSE NEIGHBOUR: 'it returns false'. Refute it at one input. -/
def serverRowsWrong : ChangeSpec := { name := "serverRows", fn := fun _ => fun
  | [d1, d2, d3, d4] => { results := [.lit (.bool false)], args := [d1, d2, d3, d4] }
  | _ => none }
def ServerRowsWrongFalsely : Prop := serverRowsRow.holds Tryz.pinned (OpenSpec.ofChange serverRowsWrong)

/-- 'concordatlaw24.ServerCommon': WHATEVER THE INPUT: true; the input reads as it did. -/
def serverCommonSpec : ChangeSpec := { name := "serverCommon", fn := fun _ => fun
  | [d1, d2, d3] => { results := [.lit (.bool true)], args := [d1, d2, d3] }
  | _ => none }
def serverCommonRow : OpenClaim := { program := "ytaahlckibpiphaagreatdoor", sum := "7a96810bae06da4408c958487142725b5867776f9aaddcaa6d66194f4567f910", func := "concordat/concordatlaw24.ServerCommon", spec := "serverCommon", inPlace := ["slices.overlaps[concordat/api.Entry]"], unfollowed := true, recurses := true, named := ["unicode/utf8.first", "unicode/utf8.acceptRanges"], plainKeys := false, apart := false, laid := [("unicode/utf8.acceptRanges", laid_unicode_utf8_acceptRanges), ("unicode/utf8.first", laid_unicode_utf8_first)] }
def ServerCommonSaid : Prop := serverCommonRow.holds Tryz.pinned (OpenSpec.ofChange serverCommonSpec)

/-- ITS FALSE NEIGHBOUR: 'it returns false'. Refute it at one input. -/
def serverCommonWrong : ChangeSpec := { name := "serverCommon", fn := fun _ => fun
  | [d1, d2, d3] => { results := [.lit (.bool false)], args := [d1, d2, d3] }
  | _ => none }
def ServerCommonWrongFalsely : Prop := serverCommonRow.holds Tryz.pinned (OpenSpec.ofChange serverCommonWrong)

/-- 'concordatlaw24.ServerWrong': WHATEVER THE INPUT: true; the input reads as it did. -/
def serverWrongSpec : ChangeSpec := { name := "serverWrong", fn := fun _ => fun
  | [d1, d2] => { results := [.lit (.bool true)], args := [d1, d2] }
  | _ => none }
def serverWrongRow : OpenClaim := { program := "ytaahlckibpiphaagreatdoor", sum := "7a96810bae06da4408c958487142725b5867776f9aaddcaa6d66194f4567f910", func := "concordat/concordatlaw24.ServerWrong", spec := "serverWrong", inPlace := ["slices.overlaps[concordat/api.Entry]"], unfollowed := true, recurses := true, named := ["unicode/utf8.first", "unicode/utf8.acceptRanges"], plainKeys := false, apart := false, laid := [("unicode/utf8.acceptRanges", laid_unicode_utf8_acceptRanges), ("unicode/utf8.first", laid_unicode_utf8_first)] }
def ServerWrongSaid : Prop := serverWrongRow.holds Tryz.pinned (OpenSpec.ofChange serverWrongSpec)

/-- ITS FALSE NEIGHBOUR: 'it returns false'. Refute it at one input. -/
def serverWrongWrong : ChangeSpec := { name := "serverWrong", fn := fun _ => fun
  | [d1, d2] => { results := [.lit (.bool false)], args := [d1, d2] }
  | _ => none }
def ServerWrongWrongFalsely : Prop := serverWrongRow.holds Tryz.pinned (OpenSpec.ofChange serverWrongWrong)

/-- 'concordatlaw24.ServerPlays': WHATEVER THE INPUT: true; the input reads as it did. -/
def serverPlaysSpec : ChangeSpec := { name := "serverPlays", fn := fun _ => fun
  | [d1, d2, d3, d4, d5, d6, d7] => { results := [.lit (.bool true)], args := [d1, d2, d3, d4, d5, d6, d7] }
  | _ => none }
def serverPlaysRow : OpenClaim := { program := "ytaahlckibpiphaagreatdoor", sum := "7a96810bae06da4408c958487142725b5867776f9aaddcaa6d66194f4567f910", func := "concordat/concordatlaw24.ServerPlays", spec := "serverPlays", inPlace := ["slices.overlaps[concordat/api.Entry]"], unfollowed := true, recurses := true, named := ["unicode/utf8.first", "unicode/utf8.acceptRanges"], loops := true, plainKeys := false, apart := false, laid := [("unicode/utf8.acceptRanges", laid_unicode_utf8_acceptRanges), ("unicode/utf8.first", laid_unicode_utf8_first)] }
def ServerPlaysSaid : Prop := serverPlaysRow.holds Tryz.pinned (OpenSpec.ofChange serverPlaysSpec)

/-- ITS FALSE NEIGHBOUR: 'it returns false'. Refute it at one input. -/
def serverPlaysWrong : ChangeSpec := { name := "serverPlays", fn := fun _ => fun
  | [d1, d2, d3, d4, d5, d6, d7] => { results := [.lit (.bool false)], args := [d1, d2, d3, d4, d5, d6, d7] }
  | _ => none }
def ServerPlaysWrongFalsely : Prop := serverPlaysRow.holds Tryz.pinned (OpenSpec.ofChange serverPlaysWrong)

/-- 'concordatlaw24.ServerDeploys': WHATEVER THE INPUT: true; the input reads as it did. -/
def serverDeploysSpec : ChangeSpec := { name := "serverDeploys", fn := fun _ => fun
  | [d1, d2] => { results := [.lit (.bool true)], args := [d1, d2] }
  | _ => none }
def serverDeploysRow : OpenClaim := { program := "ytaahlckibpiphaagreatdoor", sum := "7a96810bae06da4408c958487142725b5867776f9aaddcaa6d66194f4567f910", func := "concordat/concordatlaw24.ServerDeploys", spec := "serverDeploys", inPlace := ["slices.overlaps[concordat/api.Entry]"], unfollowed := true, recurses := true, named := ["unicode/utf8.first", "unicode/utf8.acceptRanges"], plainKeys := false, apart := false, laid := [("unicode/utf8.acceptRanges", laid_unicode_utf8_acceptRanges), ("unicode/utf8.first", laid_unicode_utf8_first)] }
def ServerDeploysSaid : Prop := serverDeploysRow.holds Tryz.pinned (OpenSpec.ofChange serverDeploysSpec)

/-- ITS FALSE NEIGHBOUR: 'it returns false'. Refute it at one input. -/
def serverDeploysWrong : ChangeSpec := { name := "serverDeploys", fn := fun _ => fun
  | [d1, d2] => { results := [.lit (.bool false)], args := [d1, d2] }
  | _ => none }
def ServerDeploysWrongFalsely : Prop := serverDeploysRow.holds Tryz.pinned (OpenSpec.ofChange serverDeploysWrong)

/- THE SECOND FORM. 'bulk': how many values and letters a reading holds, each counted each time it is reached (what is shared counts as often as it is met; a slice's spare places count too). A statement '..UptoSaid' is the law's where the arguments, and the package variables that the reading takes, are together of bulk at most 1048576: NARROWER than '..Said'. Prove '..Said' where nothing that the law and all that it calls make is longer than what came in: it says more and counts as full. Else prove '..UptoSaid'. A law counts once. -/
mutual
def uptoBulk {H : Type} : DataW H → Nat
  | .lit (.string bytes) => bytes.length + 1
  | .lit _ => 1
  | .nil => 1
  | .ptr d => uptoBulk d + 1
  | .slice elems spare => uptoBulkAll elems + uptoBulkAll spare + 1
  | .agg parts => uptoBulkAll parts + 1
  | .iface _ d => uptoBulk d + 1
  | .map entries => uptoBulkEntries entries + 1
  | .held _ => 1
def uptoBulkAll {H : Type} : List (DataW H) → Nat
  | [] => 0
  | d :: r => uptoBulk d + uptoBulkAll r
def uptoBulkEntries {H : Type} : List (Lit × DataW H) → Nat
  | [] => 0
  | x :: r => uptoBulkEntry x + uptoBulkEntries r
def uptoBulkEntry {H : Type} : Lit × DataW H → Nat
  | (.string bytes, d) => bytes.length + uptoBulk d + 1
  | (_, d) => uptoBulk d + 1
 end
def uptoSmall : (H : Type) → List (DataW H) → Bool := fun _ ds => decide (uptoBulkAll ds ≤ 1048576)
def OpenSpec.upto (s : _root_.Go.ChangeSpec) : _root_.Go.OpenSpec := { _root_.Go.OpenSpec.ofChange s with cond := some uptoSmall }

/-- 'concordatlaw23.ClientElder', WHERE WHAT IT READS IS OF BULK AT MOST 1048576: true; the input reads as it did. -/
def clientElderUptoRow : OpenClaim := { program := "ytaahlckibpiphaagreatdoor", sum := "7a96810bae06da4408c958487142725b5867776f9aaddcaa6d66194f4567f910", func := "concordat/concordatlaw23.ClientElder", spec := "clientElder", inPlace := ["slices.overlaps[concordat/api.Entry]"], unfollowed := true, recurses := true, named := ["unicode/utf8.first", "unicode/utf8.acceptRanges"], plainKeys := false, apart := false, laid := [("unicode/utf8.acceptRanges", laid_unicode_utf8_acceptRanges), ("unicode/utf8.first", laid_unicode_utf8_first)], narrowed := true }
def ClientElderUptoSaid : Prop := clientElderUptoRow.holds Tryz.pinned (OpenSpec.upto clientElderSpec)

/-- 'concordatlaw23.ClientErrors', WHERE WHAT IT READS IS OF BULK AT MOST 1048576: true; the input reads as it did. -/
def clientErrorsUptoRow : OpenClaim := { program := "ytaahlckibpiphaagreatdoor", sum := "7a96810bae06da4408c958487142725b5867776f9aaddcaa6d66194f4567f910", func := "concordat/concordatlaw23.ClientErrors", spec := "clientErrors", inPlace := ["slices.overlaps[concordat/api.Entry]"], unfollowed := true, recurses := true, named := ["unicode/utf8.first", "unicode/utf8.acceptRanges"], plainKeys := false, apart := false, laid := [("unicode/utf8.acceptRanges", laid_unicode_utf8_acceptRanges), ("unicode/utf8.first", laid_unicode_utf8_first)], narrowed := true }
def ClientErrorsUptoSaid : Prop := clientErrorsUptoRow.holds Tryz.pinned (OpenSpec.upto clientErrorsSpec)

/-- 'concordatlaw23.ClientCalls', WHERE WHAT IT READS IS OF BULK AT MOST 1048576: true; the input reads as it did. -/
def clientCallsUptoRow : OpenClaim := { program := "ytaahlckibpiphaagreatdoor", sum := "7a96810bae06da4408c958487142725b5867776f9aaddcaa6d66194f4567f910", func := "concordat/concordatlaw23.ClientCalls", spec := "clientCalls", inPlace := ["slices.overlaps[concordat/api.Entry]"], unfollowed := true, recurses := true, named := ["unicode/utf8.first", "unicode/utf8.acceptRanges"], plainKeys := false, apart := false, laid := [("unicode/utf8.acceptRanges", laid_unicode_utf8_acceptRanges), ("unicode/utf8.first", laid_unicode_utf8_first)], narrowed := true }
def ClientCallsUptoSaid : Prop := clientCallsUptoRow.holds Tryz.pinned (OpenSpec.upto clientCallsSpec)

/-- 'concordatlaw23.ClientDeaf', WHERE WHAT IT READS IS OF BULK AT MOST 1048576: true; the input reads as it did. -/
def clientDeafUptoRow : OpenClaim := { program := "ytaahlckibpiphaagreatdoor", sum := "7a96810bae06da4408c958487142725b5867776f9aaddcaa6d66194f4567f910", func := "concordat/concordatlaw23.ClientDeaf", spec := "clientDeaf", inPlace := ["slices.overlaps[concordat/api.Entry]"], unfollowed := true, recurses := true, named := ["unicode/utf8.first", "unicode/utf8.acceptRanges"], plainKeys := false, apart := false, laid := [("unicode/utf8.acceptRanges", laid_unicode_utf8_acceptRanges), ("unicode/utf8.first", laid_unicode_utf8_first)], narrowed := true }
def ClientDeafUptoSaid : Prop := clientDeafUptoRow.holds Tryz.pinned (OpenSpec.upto clientDeafSpec)

/-- 'concordatlaw23.ClientPlays', WHERE WHAT IT READS IS OF BULK AT MOST 1048576: true; the input reads as it did. -/
def clientPlaysUptoRow : OpenClaim := { program := "ytaahlckibpiphaagreatdoor", sum := "7a96810bae06da4408c958487142725b5867776f9aaddcaa6d66194f4567f910", func := "concordat/concordatlaw23.ClientPlays", spec := "clientPlays", inPlace := ["slices.overlaps[concordat/api.Entry]"], unfollowed := true, recurses := true, named := ["unicode/utf8.first", "unicode/utf8.acceptRanges"], loops := true, plainKeys := false, apart := false, laid := [("unicode/utf8.acceptRanges", laid_unicode_utf8_acceptRanges), ("unicode/utf8.first", laid_unicode_utf8_first)], narrowed := true }
def ClientPlaysUptoSaid : Prop := clientPlaysUptoRow.holds Tryz.pinned (OpenSpec.upto clientPlaysSpec)

/-- 'concordatlaw24.ServerAnswers', WHERE WHAT IT READS IS OF BULK AT MOST 1048576: true; the input reads as it did. -/
def serverAnswersUptoRow : OpenClaim := { program := "ytaahlckibpiphaagreatdoor", sum := "7a96810bae06da4408c958487142725b5867776f9aaddcaa6d66194f4567f910", func := "concordat/concordatlaw24.ServerAnswers", spec := "serverAnswers", inPlace := ["slices.overlaps[concordat/api.Entry]"], unfollowed := true, recurses := true, named := ["unicode/utf8.first", "unicode/utf8.acceptRanges"], loops := true, plainKeys := false, apart := false, laid := [("unicode/utf8.acceptRanges", laid_unicode_utf8_acceptRanges), ("unicode/utf8.first", laid_unicode_utf8_first)], narrowed := true }
def ServerAnswersUptoSaid : Prop := serverAnswersUptoRow.holds Tryz.pinned (OpenSpec.upto serverAnswersSpec)

/-- 'concordatlaw24.ServerOnce', WHERE WHAT IT READS IS OF BULK AT MOST 1048576: true; the input reads as it did. -/
def serverOnceUptoRow : OpenClaim := { program := "ytaahlckibpiphaagreatdoor", sum := "7a96810bae06da4408c958487142725b5867776f9aaddcaa6d66194f4567f910", func := "concordat/concordatlaw24.ServerOnce", spec := "serverOnce", inPlace := ["slices.overlaps[concordat/api.Entry]"], unfollowed := true, recurses := true, named := ["unicode/utf8.first", "unicode/utf8.acceptRanges"], plainKeys := false, apart := false, laid := [("unicode/utf8.acceptRanges", laid_unicode_utf8_acceptRanges), ("unicode/utf8.first", laid_unicode_utf8_first)], narrowed := true }
def ServerOnceUptoSaid : Prop := serverOnceUptoRow.holds Tryz.pinned (OpenSpec.upto serverOnceSpec)

/-- 'concordatlaw24.ServerRows', WHERE WHAT IT READS IS OF BULK AT MOST 1048576: true; the input reads as it did. -/
def serverRowsUptoRow : OpenClaim := { program := "ytaahlckibpiphaagreatdoor", sum := "7a96810bae06da4408c958487142725b5867776f9aaddcaa6d66194f4567f910", func := "concordat/concordatlaw24.ServerRows", spec := "serverRows", inPlace := ["slices.overlaps[concordat/api.Entry]"], unfollowed := true, recurses := true, named := ["unicode/utf8.first", "unicode/utf8.acceptRanges"], plainKeys := false, apart := false, laid := [("unicode/utf8.acceptRanges", laid_unicode_utf8_acceptRanges), ("unicode/utf8.first", laid_unicode_utf8_first)], narrowed := true }
def ServerRowsUptoSaid : Prop := serverRowsUptoRow.holds Tryz.pinned (OpenSpec.upto serverRowsSpec)

/-- 'concordatlaw24.ServerCommon', WHERE WHAT IT READS IS OF BULK AT MOST 1048576: true; the input reads as it did. -/
def serverCommonUptoRow : OpenClaim := { program := "ytaahlckibpiphaagreatdoor", sum := "7a96810bae06da4408c958487142725b5867776f9aaddcaa6d66194f4567f910", func := "concordat/concordatlaw24.ServerCommon", spec := "serverCommon", inPlace := ["slices.overlaps[concordat/api.Entry]"], unfollowed := true, recurses := true, named := ["unicode/utf8.first", "unicode/utf8.acceptRanges"], plainKeys := false, apart := false, laid := [("unicode/utf8.acceptRanges", laid_unicode_utf8_acceptRanges), ("unicode/utf8.first", laid_unicode_utf8_first)], narrowed := true }
def ServerCommonUptoSaid : Prop := serverCommonUptoRow.holds Tryz.pinned (OpenSpec.upto serverCommonSpec)

/-- 'concordatlaw24.ServerWrong', WHERE WHAT IT READS IS OF BULK AT MOST 1048576: true; the input reads as it did. -/
def serverWrongUptoRow : OpenClaim := { program := "ytaahlckibpiphaagreatdoor", sum := "7a96810bae06da4408c958487142725b5867776f9aaddcaa6d66194f4567f910", func := "concordat/concordatlaw24.ServerWrong", spec := "serverWrong", inPlace := ["slices.overlaps[concordat/api.Entry]"], unfollowed := true, recurses := true, named := ["unicode/utf8.first", "unicode/utf8.acceptRanges"], plainKeys := false, apart := false, laid := [("unicode/utf8.acceptRanges", laid_unicode_utf8_acceptRanges), ("unicode/utf8.first", laid_unicode_utf8_first)], narrowed := true }
def ServerWrongUptoSaid : Prop := serverWrongUptoRow.holds Tryz.pinned (OpenSpec.upto serverWrongSpec)

/-- 'concordatlaw24.ServerPlays', WHERE WHAT IT READS IS OF BULK AT MOST 1048576: true; the input reads as it did. -/
def serverPlaysUptoRow : OpenClaim := { program := "ytaahlckibpiphaagreatdoor", sum := "7a96810bae06da4408c958487142725b5867776f9aaddcaa6d66194f4567f910", func := "concordat/concordatlaw24.ServerPlays", spec := "serverPlays", inPlace := ["slices.overlaps[concordat/api.Entry]"], unfollowed := true, recurses := true, named := ["unicode/utf8.first", "unicode/utf8.acceptRanges"], loops := true, plainKeys := false, apart := false, laid := [("unicode/utf8.acceptRanges", laid_unicode_utf8_acceptRanges), ("unicode/utf8.first", laid_unicode_utf8_first)], narrowed := true }
def ServerPlaysUptoSaid : Prop := serverPlaysUptoRow.holds Tryz.pinned (OpenSpec.upto serverPlaysSpec)

/-- 'concordatlaw24.ServerDeploys', WHERE WHAT IT READS IS OF BULK AT MOST 1048576: true; the input reads as it did. -/
def serverDeploysUptoRow : OpenClaim := { program := "ytaahlckibpiphaagreatdoor", sum := "7a96810bae06da4408c958487142725b5867776f9aaddcaa6d66194f4567f910", func := "concordat/concordatlaw24.ServerDeploys", spec := "serverDeploys", inPlace := ["slices.overlaps[concordat/api.Entry]"], unfollowed := true, recurses := true, named := ["unicode/utf8.first", "unicode/utf8.acceptRanges"], plainKeys := false, apart := false, laid := [("unicode/utf8.acceptRanges", laid_unicode_utf8_acceptRanges), ("unicode/utf8.first", laid_unicode_utf8_first)], narrowed := true }
def ServerDeploysUptoSaid : Prop := serverDeploysUptoRow.holds Tryz.pinned (OpenSpec.upto serverDeploysSpec)

end Rows
end Go.Proofs.YtaahlckibpiphaaGreatDoor
