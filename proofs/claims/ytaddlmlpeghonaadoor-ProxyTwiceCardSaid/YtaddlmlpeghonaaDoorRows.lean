/-
  NARROWER THAN 'FOR EVERY INPUT', by the rows' own cells (each row's printed sentence says how): DecodeUnknown: laid · DecodeDeep: laid · DecodeLists: laid · ProxyTwice: laid · ProxyUnknown: loops, laid · ProxyChains: laid · DecodeAgain: laid.
  DERIVED. THE GIVEN ROWS OF THIS SEAT. 7 by the template 'for every input the law returns true; each argument reads behind the call as it read before'; 0 by the template 'total and deterministic' (their statements: YtaddlmlpeghonaaDoorTotals.lean).
  GIVEN WITH THE SEED: the statements are not yours to turn. If you find one false, say at which input.
  Laid BY PROGRAM, IN A SANDBOX (cutbox-rows.mjs): the forced cells as the released guide's own fill.sh prints them over the translation 5bbeedc24e849487… (all of the seat's roots in one cut). By AI agents, Wed Nov 11 2026. No macro, syntax, notation, axiom, sorry.
-/
import Derived.Test.YtaddlmlpeghonaaDoorChecked
import GoSem.PinnedTables
import GoSem.Claim
import GoSem.ClaimJoined
import GoSem.ClaimMapViews
import Derived.JoinedTies
import Derived.KernelRfl
namespace Go.Proofs.YtaddlmlpeghonaaDoor
/- THE CELL 'sum', in the pinned program and in every row, IS THE sha256 OF THE DUMP (.gsa) THAT YtaddlmlpeghonaaDoorProg.lean LOADS. Nothing in Lean hashes anything: it is a label: what it is worth is what the hold of that sum in a sandbox is worth. -/
noncomputable def Tryd.pinned : Pinned := { name := "ytaddlmlpeghonaadoor", sum := "5bbeedc24e849487f21fc7e66a20e1b5b3da26d366b6d950140be54302e8bd82", checked := Tryd.checked }
namespace Rows
def none {H : Type} : Left H := { results := [], args := [] }

/- WHAT THE LISTED PACKAGE-LEVEL VARIABLES READ AS WHEN THE CALL BEGINS. Each datum BY PROGRAM (the guide's laid-datum.mjs) off the statement by which the dump's own 'gosem.cut.vars' lays the variable. In a bare row this is a premise. The card (YtaddlmlpeghonaaDoorCards.lean) ties it to the program's text. -/
def laid_unicode_utf8_acceptRanges {H : Type} : DataW H := .agg [.agg [.lit (.int .u8 128), .lit (.int .u8 191)], .agg [.lit (.int .u8 160), .lit (.int .u8 191)], .agg [.lit (.int .u8 128), .lit (.int .u8 159)], .agg [.lit (.int .u8 144), .lit (.int .u8 191)], .agg [.lit (.int .u8 128), .lit (.int .u8 143)], .agg [.lit (.int .u8 0), .lit (.int .u8 0)], .agg [.lit (.int .u8 0), .lit (.int .u8 0)], .agg [.lit (.int .u8 0), .lit (.int .u8 0)], .agg [.lit (.int .u8 0), .lit (.int .u8 0)], .agg [.lit (.int .u8 0), .lit (.int .u8 0)], .agg [.lit (.int .u8 0), .lit (.int .u8 0)], .agg [.lit (.int .u8 0), .lit (.int .u8 0)], .agg [.lit (.int .u8 0), .lit (.int .u8 0)], .agg [.lit (.int .u8 0), .lit (.int .u8 0)], .agg [.lit (.int .u8 0), .lit (.int .u8 0)], .agg [.lit (.int .u8 0), .lit (.int .u8 0)]]
/-- One of Go's own tables, pinned by name: the form's constant. -/
def laid_unicode_utf8_first : DataW Unit := Go.Pinned.utf8First

/-- 'concordatlaw12.DecodeUnknown': WHATEVER THE INPUT: true; the input reads as it did. -/
def decodeUnknownSpec : ChangeSpec := { name := "decodeUnknown", fn := fun _ => fun
  | [d] => { results := [.lit (.bool true)], args := [d] }
  | _ => none }
def decodeUnknownRow : OpenClaim := { program := "ytaddlmlpeghonaadoor", sum := "5bbeedc24e849487f21fc7e66a20e1b5b3da26d366b6d950140be54302e8bd82", func := "concordat/concordatlaw12.DecodeUnknown", spec := "decodeUnknown", inPlace := ["slices.overlaps[concordat/api.Entry]"], unfollowed := true, recurses := true, named := ["unicode/utf8.first", "unicode/utf8.acceptRanges"], apart := false, laid := [("unicode/utf8.acceptRanges", laid_unicode_utf8_acceptRanges), ("unicode/utf8.first", laid_unicode_utf8_first)] }
def DecodeUnknownSaid : Prop := decodeUnknownRow.holds Tryd.pinned (OpenSpec.ofChange decodeUnknownSpec)

/-- ITS FALSE NEIGHBOUR: 'it returns false'. Refute it at one input. -/
def decodeUnknownWrong : ChangeSpec := { name := "decodeUnknown", fn := fun _ => fun
  | [d] => { results := [.lit (.bool false)], args := [d] }
  | _ => none }
def DecodeUnknownWrongFalsely : Prop := decodeUnknownRow.holds Tryd.pinned (OpenSpec.ofChange decodeUnknownWrong)

/-- 'concordatlaw12.DecodeDeep': WHATEVER THE INPUT: true; the input reads as it did. -/
def decodeDeepSpec : ChangeSpec := { name := "decodeDeep", fn := fun _ => fun
  | [d] => { results := [.lit (.bool true)], args := [d] }
  | _ => none }
def decodeDeepRow : OpenClaim := { program := "ytaddlmlpeghonaadoor", sum := "5bbeedc24e849487f21fc7e66a20e1b5b3da26d366b6d950140be54302e8bd82", func := "concordat/concordatlaw12.DecodeDeep", spec := "decodeDeep", inPlace := ["slices.overlaps[concordat/api.Entry]"], unfollowed := true, recurses := true, named := ["unicode/utf8.first", "unicode/utf8.acceptRanges"], apart := false, laid := [("unicode/utf8.acceptRanges", laid_unicode_utf8_acceptRanges), ("unicode/utf8.first", laid_unicode_utf8_first)] }
def DecodeDeepSaid : Prop := decodeDeepRow.holds Tryd.pinned (OpenSpec.ofChange decodeDeepSpec)

/-- ITS FALSE NEIGHBOUR: 'it returns false'. Refute it at one input. -/
def decodeDeepWrong : ChangeSpec := { name := "decodeDeep", fn := fun _ => fun
  | [d] => { results := [.lit (.bool false)], args := [d] }
  | _ => none }
def DecodeDeepWrongFalsely : Prop := decodeDeepRow.holds Tryd.pinned (OpenSpec.ofChange decodeDeepWrong)

/-- 'concordatlaw12.DecodeLists': WHATEVER THE INPUT: true; the input reads as it did. -/
def decodeListsSpec : ChangeSpec := { name := "decodeLists", fn := fun _ => fun
  | [d1, d2] => { results := [.lit (.bool true)], args := [d1, d2] }
  | _ => none }
def decodeListsRow : OpenClaim := { program := "ytaddlmlpeghonaadoor", sum := "5bbeedc24e849487f21fc7e66a20e1b5b3da26d366b6d950140be54302e8bd82", func := "concordat/concordatlaw12.DecodeLists", spec := "decodeLists", inPlace := ["slices.overlaps[concordat/api.Entry]"], unfollowed := true, recurses := true, named := ["unicode/utf8.first", "unicode/utf8.acceptRanges"], apart := false, laid := [("unicode/utf8.acceptRanges", laid_unicode_utf8_acceptRanges), ("unicode/utf8.first", laid_unicode_utf8_first)] }
def DecodeListsSaid : Prop := decodeListsRow.holds Tryd.pinned (OpenSpec.ofChange decodeListsSpec)

/-- ITS FALSE NEIGHBOUR: 'it returns false'. Refute it at one input. -/
def decodeListsWrong : ChangeSpec := { name := "decodeLists", fn := fun _ => fun
  | [d1, d2] => { results := [.lit (.bool false)], args := [d1, d2] }
  | _ => none }
def DecodeListsWrongFalsely : Prop := decodeListsRow.holds Tryd.pinned (OpenSpec.ofChange decodeListsWrong)

/-- 'concordatlaw25.ProxyTwice': WHATEVER THE INPUT: true; the input reads as it did. -/
def proxyTwiceSpec : ChangeSpec := { name := "proxyTwice", fn := fun _ => fun
  | [d1, d2] => { results := [.lit (.bool true)], args := [d1, d2] }
  | _ => none }
def proxyTwiceRow : OpenClaim := { program := "ytaddlmlpeghonaadoor", sum := "5bbeedc24e849487f21fc7e66a20e1b5b3da26d366b6d950140be54302e8bd82", func := "concordat/concordatlaw25.ProxyTwice", spec := "proxyTwice", inPlace := ["slices.overlaps[concordat/api.Entry]"], unfollowed := true, recurses := true, named := ["unicode/utf8.first", "unicode/utf8.acceptRanges"], apart := false, laid := [("unicode/utf8.acceptRanges", laid_unicode_utf8_acceptRanges), ("unicode/utf8.first", laid_unicode_utf8_first)] }
def ProxyTwiceSaid : Prop := proxyTwiceRow.holds Tryd.pinned (OpenSpec.ofChange proxyTwiceSpec)

/-- ITS FALSE NEIGHBOUR: 'it returns false'. Refute it at one input. -/
def proxyTwiceWrong : ChangeSpec := { name := "proxyTwice", fn := fun _ => fun
  | [d1, d2] => { results := [.lit (.bool false)], args := [d1, d2] }
  | _ => none }
def ProxyTwiceWrongFalsely : Prop := proxyTwiceRow.holds Tryd.pinned (OpenSpec.ofChange proxyTwiceWrong)

/-- 'concordatlaw25.ProxyUnknown': WHATEVER THE INPUT: true; the input reads as it did. -/
def proxyUnknownSpec : ChangeSpec := { name := "proxyUnknown", fn := fun _ => fun
  | [d1, d2] => { results := [.lit (.bool true)], args := [d1, d2] }
  | _ => none }
def proxyUnknownRow : OpenClaim := { program := "ytaddlmlpeghonaadoor", sum := "5bbeedc24e849487f21fc7e66a20e1b5b3da26d366b6d950140be54302e8bd82", func := "concordat/concordatlaw25.ProxyUnknown", spec := "proxyUnknown", inPlace := ["slices.overlaps[concordat/api.Entry]"], unfollowed := true, recurses := true, named := ["unicode/utf8.first", "unicode/utf8.acceptRanges"], loops := true, apart := false, laid := [("unicode/utf8.acceptRanges", laid_unicode_utf8_acceptRanges), ("unicode/utf8.first", laid_unicode_utf8_first)] }
def ProxyUnknownSaid : Prop := proxyUnknownRow.holds Tryd.pinned (OpenSpec.ofChange proxyUnknownSpec)

/-- ITS FALSE NEIGHBOUR: 'it returns false'. Refute it at one input. -/
def proxyUnknownWrong : ChangeSpec := { name := "proxyUnknown", fn := fun _ => fun
  | [d1, d2] => { results := [.lit (.bool false)], args := [d1, d2] }
  | _ => none }
def ProxyUnknownWrongFalsely : Prop := proxyUnknownRow.holds Tryd.pinned (OpenSpec.ofChange proxyUnknownWrong)

/-- 'concordatlaw25.ProxyChains': WHATEVER THE INPUT: true; the input reads as it did. -/
def proxyChainsSpec : ChangeSpec := { name := "proxyChains", fn := fun _ => fun
  | [d1, d2, d3] => { results := [.lit (.bool true)], args := [d1, d2, d3] }
  | _ => none }
def proxyChainsRow : OpenClaim := { program := "ytaddlmlpeghonaadoor", sum := "5bbeedc24e849487f21fc7e66a20e1b5b3da26d366b6d950140be54302e8bd82", func := "concordat/concordatlaw25.ProxyChains", spec := "proxyChains", inPlace := ["slices.overlaps[concordat/api.Entry]"], unfollowed := true, recurses := true, named := ["unicode/utf8.first", "unicode/utf8.acceptRanges"], apart := false, laid := [("unicode/utf8.acceptRanges", laid_unicode_utf8_acceptRanges), ("unicode/utf8.first", laid_unicode_utf8_first)] }
def ProxyChainsSaid : Prop := proxyChainsRow.holds Tryd.pinned (OpenSpec.ofChange proxyChainsSpec)

/-- ITS FALSE NEIGHBOUR: 'it returns false'. Refute it at one input. -/
def proxyChainsWrong : ChangeSpec := { name := "proxyChains", fn := fun _ => fun
  | [d1, d2, d3] => { results := [.lit (.bool false)], args := [d1, d2, d3] }
  | _ => none }
def ProxyChainsWrongFalsely : Prop := proxyChainsRow.holds Tryd.pinned (OpenSpec.ofChange proxyChainsWrong)

/-- 'concordatlaw12.DecodeAgain': WHATEVER THE INPUT: true; the input reads as it did. -/
def decodeAgainSpec : ChangeSpec := { name := "decodeAgain", fn := fun _ => fun
  | [d1, d2, d3] => { results := [.lit (.bool true)], args := [d1, d2, d3] }
  | _ => none }
def decodeAgainRow : OpenClaim := { program := "ytaddlmlpeghonaadoor", sum := "5bbeedc24e849487f21fc7e66a20e1b5b3da26d366b6d950140be54302e8bd82", func := "concordat/concordatlaw12.DecodeAgain", spec := "decodeAgain", inPlace := ["slices.overlaps[concordat/api.Entry]"], unfollowed := true, recurses := true, named := ["unicode/utf8.first", "unicode/utf8.acceptRanges"], apart := false, laid := [("unicode/utf8.acceptRanges", laid_unicode_utf8_acceptRanges), ("unicode/utf8.first", laid_unicode_utf8_first)] }
def DecodeAgainSaid : Prop := decodeAgainRow.holds Tryd.pinned (OpenSpec.ofChange decodeAgainSpec)

/-- ITS FALSE NEIGHBOUR: 'it returns false'. Refute it at one input. -/
def decodeAgainWrong : ChangeSpec := { name := "decodeAgain", fn := fun _ => fun
  | [d1, d2, d3] => { results := [.lit (.bool false)], args := [d1, d2, d3] }
  | _ => none }
def DecodeAgainWrongFalsely : Prop := decodeAgainRow.holds Tryd.pinned (OpenSpec.ofChange decodeAgainWrong)

/- THE SECOND FORM. 'bulk': how many values and letters a reading holds, each counted each time it is reached (what is shared counts as often as it is met; a slice's spare places count too). A statement '..UptoSaid' is the law's where the arguments, and the package variables that the reading takes, are together of bulk at most 1048576: NARROWER than '..Said'. Prove '..Said' where nothing that the law and all that it calls make is longer than what came in: it says more and counts as full. Else prove '..UptoSaid'. A law counts once. -/
mutual
def uptoBulk {H : Type} : DataW H → Nat
  | .lit (.string bytes) => bytes.length + 1
  | .lit _ => 1
  | .nil => 1
  | .ptr d => uptoBulk d + 1
  | .slice elems spare => uptoBulkAll elems + uptoBulkAll spare + 1
  | .agg parts => uptoBulkAll parts + 1
  | .iface _ d => uptoBulk d + 1
  | .map entries => uptoBulkEntries entries + 1
  | .held _ => 1
def uptoBulkAll {H : Type} : List (DataW H) → Nat
  | [] => 0
  | d :: r => uptoBulk d + uptoBulkAll r
def uptoBulkEntries {H : Type} : List (Lit × DataW H) → Nat
  | [] => 0
  | x :: r => uptoBulkEntry x + uptoBulkEntries r
def uptoBulkEntry {H : Type} : Lit × DataW H → Nat
  | (.string bytes, d) => bytes.length + uptoBulk d + 1
  | (_, d) => uptoBulk d + 1
 end
def uptoSmall : (H : Type) → List (DataW H) → Bool := fun _ ds => decide (uptoBulkAll ds ≤ 1048576)
def OpenSpec.upto (s : _root_.Go.ChangeSpec) : _root_.Go.OpenSpec := { _root_.Go.OpenSpec.ofChange s with cond := some uptoSmall }

/-- 'concordatlaw12.DecodeUnknown', WHERE WHAT IT READS IS OF BULK AT MOST 1048576: true; the input reads as it did. -/
def decodeUnknownUptoRow : OpenClaim := { program := "ytaddlmlpeghonaadoor", sum := "5bbeedc24e849487f21fc7e66a20e1b5b3da26d366b6d950140be54302e8bd82", func := "concordat/concordatlaw12.DecodeUnknown", spec := "decodeUnknown", inPlace := ["slices.overlaps[concordat/api.Entry]"], unfollowed := true, recurses := true, named := ["unicode/utf8.first", "unicode/utf8.acceptRanges"], apart := false, laid := [("unicode/utf8.acceptRanges", laid_unicode_utf8_acceptRanges), ("unicode/utf8.first", laid_unicode_utf8_first)], narrowed := true }
def DecodeUnknownUptoSaid : Prop := decodeUnknownUptoRow.holds Tryd.pinned (OpenSpec.upto decodeUnknownSpec)

/-- 'concordatlaw12.DecodeDeep', WHERE WHAT IT READS IS OF BULK AT MOST 1048576: true; the input reads as it did. -/
def decodeDeepUptoRow : OpenClaim := { program := "ytaddlmlpeghonaadoor", sum := "5bbeedc24e849487f21fc7e66a20e1b5b3da26d366b6d950140be54302e8bd82", func := "concordat/concordatlaw12.DecodeDeep", spec := "decodeDeep", inPlace := ["slices.overlaps[concordat/api.Entry]"], unfollowed := true, recurses := true, named := ["unicode/utf8.first", "unicode/utf8.acceptRanges"], apart := false, laid := [("unicode/utf8.acceptRanges", laid_unicode_utf8_acceptRanges), ("unicode/utf8.first", laid_unicode_utf8_first)], narrowed := true }
def DecodeDeepUptoSaid : Prop := decodeDeepUptoRow.holds Tryd.pinned (OpenSpec.upto decodeDeepSpec)

/-- 'concordatlaw12.DecodeLists', WHERE WHAT IT READS IS OF BULK AT MOST 1048576: true; the input reads as it did. -/
def decodeListsUptoRow : OpenClaim := { program := "ytaddlmlpeghonaadoor", sum := "5bbeedc24e849487f21fc7e66a20e1b5b3da26d366b6d950140be54302e8bd82", func := "concordat/concordatlaw12.DecodeLists", spec := "decodeLists", inPlace := ["slices.overlaps[concordat/api.Entry]"], unfollowed := true, recurses := true, named := ["unicode/utf8.first", "unicode/utf8.acceptRanges"], apart := false, laid := [("unicode/utf8.acceptRanges", laid_unicode_utf8_acceptRanges), ("unicode/utf8.first", laid_unicode_utf8_first)], narrowed := true }
def DecodeListsUptoSaid : Prop := decodeListsUptoRow.holds Tryd.pinned (OpenSpec.upto decodeListsSpec)

/-- 'concordatlaw25.ProxyTwice', WHERE WHAT IT READS IS OF BULK AT MOST 1048576: true; the input reads as it did. -/
def proxyTwiceUptoRow : OpenClaim := { program := "ytaddlmlpeghonaadoor", sum := "5bbeedc24e849487f21fc7e66a20e1b5b3da26d366b6d950140be54302e8bd82", func := "concordat/concordatlaw25.ProxyTwice", spec := "proxyTwice", inPlace := ["slices.overlaps[concordat/api.Entry]"], unfollowed := true, recurses := true, named := ["unicode/utf8.first", "unicode/utf8.acceptRanges"], apart := false, laid := [("unicode/utf8.acceptRanges", laid_unicode_utf8_acceptRanges), ("unicode/utf8.first", laid_unicode_utf8_first)], narrowed := true }
def ProxyTwiceUptoSaid : Prop := proxyTwiceUptoRow.holds Tryd.pinned (OpenSpec.upto proxyTwiceSpec)

/-- 'concordatlaw25.ProxyUnknown', WHERE WHAT IT READS IS OF BULK AT MOST 1048576: true; the input reads as it did. -/
def proxyUnknownUptoRow : OpenClaim := { program := "ytaddlmlpeghonaadoor", sum := "5bbeedc24e849487f21fc7e66a20e1b5b3da26d366b6d950140be54302e8bd82", func := "concordat/concordatlaw25.ProxyUnknown", spec := "proxyUnknown", inPlace := ["slices.overlaps[concordat/api.Entry]"], unfollowed := true, recurses := true, named := ["unicode/utf8.first", "unicode/utf8.acceptRanges"], loops := true, apart := false, laid := [("unicode/utf8.acceptRanges", laid_unicode_utf8_acceptRanges), ("unicode/utf8.first", laid_unicode_utf8_first)], narrowed := true }
def ProxyUnknownUptoSaid : Prop := proxyUnknownUptoRow.holds Tryd.pinned (OpenSpec.upto proxyUnknownSpec)

/-- 'concordatlaw25.ProxyChains', WHERE WHAT IT READS IS OF BULK AT MOST 1048576: true; the input reads as it did. -/
def proxyChainsUptoRow : OpenClaim := { program := "ytaddlmlpeghonaadoor", sum := "5bbeedc24e849487f21fc7e66a20e1b5b3da26d366b6d950140be54302e8bd82", func := "concordat/concordatlaw25.ProxyChains", spec := "proxyChains", inPlace := ["slices.overlaps[concordat/api.Entry]"], unfollowed := true, recurses := true, named := ["unicode/utf8.first", "unicode/utf8.acceptRanges"], apart := false, laid := [("unicode/utf8.acceptRanges", laid_unicode_utf8_acceptRanges), ("unicode/utf8.first", laid_unicode_utf8_first)], narrowed := true }
def ProxyChainsUptoSaid : Prop := proxyChainsUptoRow.holds Tryd.pinned (OpenSpec.upto proxyChainsSpec)

/-- 'concordatlaw12.DecodeAgain', WHERE WHAT IT READS IS OF BULK AT MOST 1048576: true; the input reads as it did. -/
def decodeAgainUptoRow : OpenClaim := { program := "ytaddlmlpeghonaadoor", sum := "5bbeedc24e849487f21fc7e66a20e1b5b3da26d366b6d950140be54302e8bd82", func := "concordat/concordatlaw12.DecodeAgain", spec := "decodeAgain", inPlace := ["slices.overlaps[concordat/api.Entry]"], unfollowed := true, recurses := true, named := ["unicode/utf8.first", "unicode/utf8.acceptRanges"], apart := false, laid := [("unicode/utf8.acceptRanges", laid_unicode_utf8_acceptRanges), ("unicode/utf8.first", laid_unicode_utf8_first)], narrowed := true }
def DecodeAgainUptoSaid : Prop := decodeAgainUptoRow.holds Tryd.pinned (OpenSpec.upto decodeAgainSpec)

end Rows
end Go.Proofs.YtaddlmlpeghonaaDoor
