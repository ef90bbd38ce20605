/-
  NARROWER THAN 'FOR EVERY INPUT', by the rows' own cells (each row's printed sentence says how): DecodeTrees: loops, laid · DecodeBack: laid · DecodeLast: laid · DecodeShuffled: laid · ProxyAll: laid · ProxyTrees: loops, laid · ProxySelf: laid · ProxyKeeps: laid.
  DERIVED. THE GIVEN ROWS OF THIS SEAT. 8 by the template 'for every input the law returns true; each argument reads behind the call as it read before'; 0 by the template 'total and deterministic' (their statements: YtaddlmlpeghonaaGreatDoorTotals.lean).
  GIVEN WITH THE SEED: the statements are not yours to turn. If you find one false, say at which input.
  Laid BY PROGRAM, IN A SANDBOX (cutbox-rows.mjs): the forced cells as the released guide's own fill.sh prints them over the translation 22417438c2a5e1d9… (all of the seat's roots in one cut). By AI agents, Wed Nov 11 2026. No macro, syntax, notation, axiom, sorry.
-/
import Derived.Test.YtaddlmlpeghonaaGreatDoorChecked
import GoSem.PinnedTables
import GoSem.Claim
import GoSem.ClaimJoined
import GoSem.ClaimMapViews
import Derived.JoinedTies
import Derived.KernelRfl
namespace Go.Proofs.YtaddlmlpeghonaaGreatDoor
/- THE CELL 'sum', in the pinned program and in every row, IS THE sha256 OF THE DUMP (.gsa) THAT YtaddlmlpeghonaaGreatDoorProg.lean LOADS. Nothing in Lean hashes anything: it is a label: what it is worth is what the hold of that sum in a sandbox is worth. -/
noncomputable def Tryz.pinned : Pinned := { name := "ytaddlmlpeghonaagreatdoor", sum := "22417438c2a5e1d96530e16d2fde3e761afaa46e468faffd498f29d55e92ad92", checked := Tryz.checked }
namespace Rows
def none {H : Type} : Left H := { results := [], args := [] }

/- WHAT THE LISTED PACKAGE-LEVEL VARIABLES READ AS WHEN THE CALL BEGINS. Each datum BY PROGRAM (the guide's laid-datum.mjs) off the statement by which the dump's own 'gosem.cut.vars' lays the variable. In a bare row this is a premise. The card (YtaddlmlpeghonaaGreatDoorCards.lean) ties it to the program's text. -/
def laid_unicode_utf8_acceptRanges {H : Type} : DataW H := .agg [.agg [.lit (.int .u8 128), .lit (.int .u8 191)], .agg [.lit (.int .u8 160), .lit (.int .u8 191)], .agg [.lit (.int .u8 128), .lit (.int .u8 159)], .agg [.lit (.int .u8 144), .lit (.int .u8 191)], .agg [.lit (.int .u8 128), .lit (.int .u8 143)], .agg [.lit (.int .u8 0), .lit (.int .u8 0)], .agg [.lit (.int .u8 0), .lit (.int .u8 0)], .agg [.lit (.int .u8 0), .lit (.int .u8 0)], .agg [.lit (.int .u8 0), .lit (.int .u8 0)], .agg [.lit (.int .u8 0), .lit (.int .u8 0)], .agg [.lit (.int .u8 0), .lit (.int .u8 0)], .agg [.lit (.int .u8 0), .lit (.int .u8 0)], .agg [.lit (.int .u8 0), .lit (.int .u8 0)], .agg [.lit (.int .u8 0), .lit (.int .u8 0)], .agg [.lit (.int .u8 0), .lit (.int .u8 0)], .agg [.lit (.int .u8 0), .lit (.int .u8 0)]]
/-- One of Go's own tables, pinned by name: the form's constant. -/
def laid_unicode_utf8_first : DataW Unit := Go.Pinned.utf8First

/-- 'concordatlaw12.DecodeTrees': WHATEVER THE INPUT: true; the input reads as it did. -/
def decodeTreesSpec : ChangeSpec := { name := "decodeTrees", fn := fun _ => fun
  | [d1, d2, d3] => { results := [.lit (.bool true)], args := [d1, d2, d3] }
  | _ => none }
def decodeTreesRow : OpenClaim := { program := "ytaddlmlpeghonaagreatdoor", sum := "22417438c2a5e1d96530e16d2fde3e761afaa46e468faffd498f29d55e92ad92", func := "concordat/concordatlaw12.DecodeTrees", spec := "decodeTrees", inPlace := ["slices.overlaps[concordat/api.Entry]"], unfollowed := true, recurses := true, named := ["unicode/utf8.first", "unicode/utf8.acceptRanges"], loops := true, plainKeys := false, apart := false, laid := [("unicode/utf8.acceptRanges", laid_unicode_utf8_acceptRanges), ("unicode/utf8.first", laid_unicode_utf8_first)] }
def DecodeTreesSaid : Prop := decodeTreesRow.holds Tryz.pinned (OpenSpec.ofChange decodeTreesSpec)

/-- ITS FALSE NEIGHBOUR: 'it returns false'. Refute it at one input. -/
def decodeTreesWrong : ChangeSpec := { name := "decodeTrees", fn := fun _ => fun
  | [d1, d2, d3] => { results := [.lit (.bool false)], args := [d1, d2, d3] }
  | _ => none }
def DecodeTreesWrongFalsely : Prop := decodeTreesRow.holds Tryz.pinned (OpenSpec.ofChange decodeTreesWrong)

/-- 'concordatlaw12.DecodeBack': WHATEVER THE INPUT: true; the input reads as it did. -/
def decodeBackSpec : ChangeSpec := { name := "decodeBack", fn := fun _ => fun
  | [d1, d2, d3] => { results := [.lit (.bool true)], args := [d1, d2, d3] }
  | _ => none }
def decodeBackRow : OpenClaim := { program := "ytaddlmlpeghonaagreatdoor", sum := "22417438c2a5e1d96530e16d2fde3e761afaa46e468faffd498f29d55e92ad92", func := "concordat/concordatlaw12.DecodeBack", spec := "decodeBack", inPlace := ["slices.overlaps[concordat/api.Entry]"], unfollowed := true, recurses := true, named := ["unicode/utf8.first", "unicode/utf8.acceptRanges"], plainKeys := false, apart := false, laid := [("unicode/utf8.acceptRanges", laid_unicode_utf8_acceptRanges), ("unicode/utf8.first", laid_unicode_utf8_first)] }
def DecodeBackSaid : Prop := decodeBackRow.holds Tryz.pinned (OpenSpec.ofChange decodeBackSpec)

/-- ITS FALSE NEIGHBOUR: 'it returns false'. Refute it at one input. -/
def decodeBackWrong : ChangeSpec := { name := "decodeBack", fn := fun _ => fun
  | [d1, d2, d3] => { results := [.lit (.bool false)], args := [d1, d2, d3] }
  | _ => none }
def DecodeBackWrongFalsely : Prop := decodeBackRow.holds Tryz.pinned (OpenSpec.ofChange decodeBackWrong)

/-- 'concordatlaw12.DecodeLast': WHATEVER THE INPUT: true; the input reads as it did. -/
def decodeLastSpec : ChangeSpec := { name := "decodeLast", fn := fun _ => fun
  | [d1, d2, d3, d4] => { results := [.lit (.bool true)], args := [d1, d2, d3, d4] }
  | _ => none }
def decodeLastRow : OpenClaim := { program := "ytaddlmlpeghonaagreatdoor", sum := "22417438c2a5e1d96530e16d2fde3e761afaa46e468faffd498f29d55e92ad92", func := "concordat/concordatlaw12.DecodeLast", spec := "decodeLast", inPlace := ["slices.overlaps[concordat/api.Entry]"], unfollowed := true, recurses := true, named := ["unicode/utf8.first", "unicode/utf8.acceptRanges"], plainKeys := false, apart := false, laid := [("unicode/utf8.acceptRanges", laid_unicode_utf8_acceptRanges), ("unicode/utf8.first", laid_unicode_utf8_first)] }
def DecodeLastSaid : Prop := decodeLastRow.holds Tryz.pinned (OpenSpec.ofChange decodeLastSpec)

/-- ITS FALSE NEIGHBOUR: 'it returns false'. Refute it at one input. -/
def decodeLastWrong : ChangeSpec := { name := "decodeLast", fn := fun _ => fun
  | [d1, d2, d3, d4] => { results := [.lit (.bool false)], args := [d1, d2, d3, d4] }
  | _ => none }
def DecodeLastWrongFalsely : Prop := decodeLastRow.holds Tryz.pinned (OpenSpec.ofChange decodeLastWrong)

/-- 'concordatlaw12.DecodeShuffled': WHATEVER THE INPUT: true; the input reads as it did. -/
def decodeShuffledSpec : ChangeSpec := { name := "decodeShuffled", fn := fun _ => fun
  | [d1, d2, d3, d4] => { results := [.lit (.bool true)], args := [d1, d2, d3, d4] }
  | _ => none }
def decodeShuffledRow : OpenClaim := { program := "ytaddlmlpeghonaagreatdoor", sum := "22417438c2a5e1d96530e16d2fde3e761afaa46e468faffd498f29d55e92ad92", func := "concordat/concordatlaw12.DecodeShuffled", spec := "decodeShuffled", inPlace := ["slices.overlaps[concordat/api.Entry]"], unfollowed := true, recurses := true, named := ["unicode/utf8.first", "unicode/utf8.acceptRanges"], plainKeys := false, apart := false, laid := [("unicode/utf8.acceptRanges", laid_unicode_utf8_acceptRanges), ("unicode/utf8.first", laid_unicode_utf8_first)] }
def DecodeShuffledSaid : Prop := decodeShuffledRow.holds Tryz.pinned (OpenSpec.ofChange decodeShuffledSpec)

/-- ITS FALSE NEIGHBOUR: 'it returns false'. Refute it at one input. -/
def decodeShuffledWrong : ChangeSpec := { name := "decodeShuffled", fn := fun _ => fun
  | [d1, d2, d3, d4] => { results := [.lit (.bool false)], args := [d1, d2, d3, d4] }
  | _ => none }
def DecodeShuffledWrongFalsely : Prop := decodeShuffledRow.holds Tryz.pinned (OpenSpec.ofChange decodeShuffledWrong)

/-- 'concordatlaw25.ProxyAll': WHATEVER THE INPUT: true; the input reads as it did. -/
def proxyAllSpec : ChangeSpec := { name := "proxyAll", fn := fun _ => fun
  | [d1, d2] => { results := [.lit (.bool true)], args := [d1, d2] }
  | _ => none }
def proxyAllRow : OpenClaim := { program := "ytaddlmlpeghonaagreatdoor", sum := "22417438c2a5e1d96530e16d2fde3e761afaa46e468faffd498f29d55e92ad92", func := "concordat/concordatlaw25.ProxyAll", spec := "proxyAll", inPlace := ["slices.overlaps[concordat/api.Entry]"], unfollowed := true, recurses := true, named := ["unicode/utf8.first", "unicode/utf8.acceptRanges"], plainKeys := false, apart := false, laid := [("unicode/utf8.acceptRanges", laid_unicode_utf8_acceptRanges), ("unicode/utf8.first", laid_unicode_utf8_first)] }
def ProxyAllSaid : Prop := proxyAllRow.holds Tryz.pinned (OpenSpec.ofChange proxyAllSpec)

/-- ITS FALSE NEIGHBOUR: 'it returns false'. Refute it at one input. -/
def proxyAllWrong : ChangeSpec := { name := "proxyAll", fn := fun _ => fun
  | [d1, d2] => { results := [.lit (.bool false)], args := [d1, d2] }
  | _ => none }
def ProxyAllWrongFalsely : Prop := proxyAllRow.holds Tryz.pinned (OpenSpec.ofChange proxyAllWrong)

/-- 'concordatlaw25.ProxyTrees': WHATEVER THE INPUT: true; the input reads as it did. -/
def proxyTreesSpec : ChangeSpec := { name := "proxyTrees", fn := fun _ => fun
  | [d1, d2, d3, d4] => { results := [.lit (.bool true)], args := [d1, d2, d3, d4] }
  | _ => none }
def proxyTreesRow : OpenClaim := { program := "ytaddlmlpeghonaagreatdoor", sum := "22417438c2a5e1d96530e16d2fde3e761afaa46e468faffd498f29d55e92ad92", func := "concordat/concordatlaw25.ProxyTrees", spec := "proxyTrees", inPlace := ["slices.overlaps[concordat/api.Entry]"], unfollowed := true, recurses := true, named := ["unicode/utf8.first", "unicode/utf8.acceptRanges"], loops := true, plainKeys := false, apart := false, laid := [("unicode/utf8.acceptRanges", laid_unicode_utf8_acceptRanges), ("unicode/utf8.first", laid_unicode_utf8_first)] }
def ProxyTreesSaid : Prop := proxyTreesRow.holds Tryz.pinned (OpenSpec.ofChange proxyTreesSpec)

/-- ITS FALSE NEIGHBOUR: 'it returns false'. Refute it at one input. -/
def proxyTreesWrong : ChangeSpec := { name := "proxyTrees", fn := fun _ => fun
  | [d1, d2, d3, d4] => { results := [.lit (.bool false)], args := [d1, d2, d3, d4] }
  | _ => none }
def ProxyTreesWrongFalsely : Prop := proxyTreesRow.holds Tryz.pinned (OpenSpec.ofChange proxyTreesWrong)

/-- 'concordatlaw25.ProxySelf': WHATEVER THE INPUT: true; the input reads as it did. -/
def proxySelfSpec : ChangeSpec := { name := "proxySelf", fn := fun _ => fun
  | [d1, d2, d3, d4] => { results := [.lit (.bool true)], args := [d1, d2, d3, d4] }
  | _ => none }
def proxySelfRow : OpenClaim := { program := "ytaddlmlpeghonaagreatdoor", sum := "22417438c2a5e1d96530e16d2fde3e761afaa46e468faffd498f29d55e92ad92", func := "concordat/concordatlaw25.ProxySelf", spec := "proxySelf", inPlace := ["slices.overlaps[concordat/api.Entry]"], unfollowed := true, recurses := true, named := ["unicode/utf8.first", "unicode/utf8.acceptRanges"], plainKeys := false, apart := false, laid := [("unicode/utf8.acceptRanges", laid_unicode_utf8_acceptRanges), ("unicode/utf8.first", laid_unicode_utf8_first)] }
def ProxySelfSaid : Prop := proxySelfRow.holds Tryz.pinned (OpenSpec.ofChange proxySelfSpec)

/-- ITS FALSE NEIGHBOUR: 'it returns false'. Refute it at one input. -/
def proxySelfWrong : ChangeSpec := { name := "proxySelf", fn := fun _ => fun
  | [d1, d2, d3, d4] => { results := [.lit (.bool false)], args := [d1, d2, d3, d4] }
  | _ => none }
def ProxySelfWrongFalsely : Prop := proxySelfRow.holds Tryz.pinned (OpenSpec.ofChange proxySelfWrong)

/-- 'concordatlaw25.ProxyKeeps': WHATEVER THE INPUT: true; the input reads as it did. -/
def proxyKeepsSpec : ChangeSpec := { name := "proxyKeeps", fn := fun _ => fun
  | [d1, d2, d3, d4, d5, d6] => { results := [.lit (.bool true)], args := [d1, d2, d3, d4, d5, d6] }
  | _ => none }
def proxyKeepsRow : OpenClaim := { program := "ytaddlmlpeghonaagreatdoor", sum := "22417438c2a5e1d96530e16d2fde3e761afaa46e468faffd498f29d55e92ad92", func := "concordat/concordatlaw25.ProxyKeeps", spec := "proxyKeeps", inPlace := ["slices.overlaps[concordat/api.Entry]"], unfollowed := true, recurses := true, named := ["unicode/utf8.first", "unicode/utf8.acceptRanges"], plainKeys := false, apart := false, laid := [("unicode/utf8.acceptRanges", laid_unicode_utf8_acceptRanges), ("unicode/utf8.first", laid_unicode_utf8_first)] }
def ProxyKeepsSaid : Prop := proxyKeepsRow.holds Tryz.pinned (OpenSpec.ofChange proxyKeepsSpec)

/-- ITS FALSE NEIGHBOUR: 'it returns false'. Refute it at one input. -/
def proxyKeepsWrong : ChangeSpec := { name := "proxyKeeps", fn := fun _ => fun
  | [d1, d2, d3, d4, d5, d6] => { results := [.lit (.bool false)], args := [d1, d2, d3, d4, d5, d6] }
  | _ => none }
def ProxyKeepsWrongFalsely : Prop := proxyKeepsRow.holds Tryz.pinned (OpenSpec.ofChange proxyKeepsWrong)

/- THE SECOND FORM. 'bulk': how many values and letters a reading holds, each counted each time it is reached (what is shared counts as often as it is met; a slice's spare places count too). A statement '..UptoSaid' is the law's where the arguments, and the package variables that the reading takes, are together of bulk at most 1048576: NARROWER than '..Said'. Prove '..Said' where nothing that the law and all that it calls make is longer than what came in: it says more and counts as full. Else prove '..UptoSaid'. A law counts once. -/
mutual
def uptoBulk {H : Type} : DataW H → Nat
  | .lit (.string bytes) => bytes.length + 1
  | .lit _ => 1
  | .nil => 1
  | .ptr d => uptoBulk d + 1
  | .slice elems spare => uptoBulkAll elems + uptoBulkAll spare + 1
  | .agg parts => uptoBulkAll parts + 1
  | .iface _ d => uptoBulk d + 1
  | .map entries => uptoBulkEntries entries + 1
  | .held _ => 1
def uptoBulkAll {H : Type} : List (DataW H) → Nat
  | [] => 0
  | d :: r => uptoBulk d + uptoBulkAll r
def uptoBulkEntries {H : Type} : List (Lit × DataW H) → Nat
  | [] => 0
  | x :: r => uptoBulkEntry x + uptoBulkEntries r
def uptoBulkEntry {H : Type} : Lit × DataW H → Nat
  | (.string bytes, d) => bytes.length + uptoBulk d + 1
  | (_, d) => uptoBulk d + 1
 end
def uptoSmall : (H : Type) → List (DataW H) → Bool := fun _ ds => decide (uptoBulkAll ds ≤ 1048576)
def OpenSpec.upto (s : _root_.Go.ChangeSpec) : _root_.Go.OpenSpec := { _root_.Go.OpenSpec.ofChange s with cond := some uptoSmall }

/-- 'concordatlaw12.DecodeTrees', WHERE WHAT IT READS IS OF BULK AT MOST 1048576: true; the input reads as it did. -/
def decodeTreesUptoRow : OpenClaim := { program := "ytaddlmlpeghonaagreatdoor", sum := "22417438c2a5e1d96530e16d2fde3e761afaa46e468faffd498f29d55e92ad92", func := "concordat/concordatlaw12.DecodeTrees", spec := "decodeTrees", inPlace := ["slices.overlaps[concordat/api.Entry]"], unfollowed := true, recurses := true, named := ["unicode/utf8.first", "unicode/utf8.acceptRanges"], loops := true, plainKeys := false, apart := false, laid := [("unicode/utf8.acceptRanges", laid_unicode_utf8_acceptRanges), ("unicode/utf8.first", laid_unicode_utf8_first)], narrowed := true }
def DecodeTreesUptoSaid : Prop := decodeTreesUptoRow.holds Tryz.pinned (OpenSpec.upto decodeTreesSpec)

/-- 'concordatlaw12.DecodeBack', WHERE WHAT IT READS IS OF BULK AT MOST 1048576: true; the input reads as it did. -/
def decodeBackUptoRow : OpenClaim := { program := "ytaddlmlpeghonaagreatdoor", sum := "22417438c2a5e1d96530e16d2fde3e761afaa46e468faffd498f29d55e92ad92", func := "concordat/concordatlaw12.DecodeBack", spec := "decodeBack", inPlace := ["slices.overlaps[concordat/api.Entry]"], unfollowed := true, recurses := true, named := ["unicode/utf8.first", "unicode/utf8.acceptRanges"], plainKeys := false, apart := false, laid := [("unicode/utf8.acceptRanges", laid_unicode_utf8_acceptRanges), ("unicode/utf8.first", laid_unicode_utf8_first)], narrowed := true }
def DecodeBackUptoSaid : Prop := decodeBackUptoRow.holds Tryz.pinned (OpenSpec.upto decodeBackSpec)

/-- 'concordatlaw12.DecodeLast', WHERE WHAT IT READS IS OF BULK AT MOST 1048576: true; the input reads as it did. -/
def decodeLastUptoRow : OpenClaim := { program := "ytaddlmlpeghonaagreatdoor", sum := "22417438c2a5e1d96530e16d2fde3e761afaa46e468faffd498f29d55e92ad92", func := "concordat/concordatlaw12.DecodeLast", spec := "decodeLast", inPlace := ["slices.overlaps[concordat/api.Entry]"], unfollowed := true, recurses := true, named := ["unicode/utf8.first", "unicode/utf8.acceptRanges"], plainKeys := false, apart := false, laid := [("unicode/utf8.acceptRanges", laid_unicode_utf8_acceptRanges), ("unicode/utf8.first", laid_unicode_utf8_first)], narrowed := true }
def DecodeLastUptoSaid : Prop := decodeLastUptoRow.holds Tryz.pinned (OpenSpec.upto decodeLastSpec)

/-- 'concordatlaw12.DecodeShuffled', WHERE WHAT IT READS IS OF BULK AT MOST 1048576: true; the input reads as it did. -/
def decodeShuffledUptoRow : OpenClaim := { program := "ytaddlmlpeghonaagreatdoor", sum := "22417438c2a5e1d96530e16d2fde3e761afaa46e468faffd498f29d55e92ad92", func := "concordat/concordatlaw12.DecodeShuffled", spec := "decodeShuffled", inPlace := ["slices.overlaps[concordat/api.Entry]"], unfollowed := true, recurses := true, named := ["unicode/utf8.first", "unicode/utf8.acceptRanges"], plainKeys := false, apart := false, laid := [("unicode/utf8.acceptRanges", laid_unicode_utf8_acceptRanges), ("unicode/utf8.first", laid_unicode_utf8_first)], narrowed := true }
def DecodeShuffledUptoSaid : Prop := decodeShuffledUptoRow.holds Tryz.pinned (OpenSpec.upto decodeShuffledSpec)

/-- 'concordatlaw25.ProxyAll', WHERE WHAT IT READS IS OF BULK AT MOST 1048576: true; the input reads as it did. -/
def proxyAllUptoRow : OpenClaim := { program := "ytaddlmlpeghonaagreatdoor", sum := "22417438c2a5e1d96530e16d2fde3e761afaa46e468faffd498f29d55e92ad92", func := "concordat/concordatlaw25.ProxyAll", spec := "proxyAll", inPlace := ["slices.overlaps[concordat/api.Entry]"], unfollowed := true, recurses := true, named := ["unicode/utf8.first", "unicode/utf8.acceptRanges"], plainKeys := false, apart := false, laid := [("unicode/utf8.acceptRanges", laid_unicode_utf8_acceptRanges), ("unicode/utf8.first", laid_unicode_utf8_first)], narrowed := true }
def ProxyAllUptoSaid : Prop := proxyAllUptoRow.holds Tryz.pinned (OpenSpec.upto proxyAllSpec)

/-- 'concordatlaw25.ProxyTrees', WHERE WHAT IT READS IS OF BULK AT MOST 1048576: true; the input reads as it did. -/
def proxyTreesUptoRow : OpenClaim := { program := "ytaddlmlpeghonaagreatdoor", sum := "22417438c2a5e1d96530e16d2fde3e761afaa46e468faffd498f29d55e92ad92", func := "concordat/concordatlaw25.ProxyTrees", spec := "proxyTrees", inPlace := ["slices.overlaps[concordat/api.Entry]"], unfollowed := true, recurses := true, named := ["unicode/utf8.first", "unicode/utf8.acceptRanges"], loops := true, plainKeys := false, apart := false, laid := [("unicode/utf8.acceptRanges", laid_unicode_utf8_acceptRanges), ("unicode/utf8.first", laid_unicode_utf8_first)], narrowed := true }
def ProxyTreesUptoSaid : Prop := proxyTreesUptoRow.holds Tryz.pinned (OpenSpec.upto proxyTreesSpec)

/-- 'concordatlaw25.ProxySelf', WHERE WHAT IT READS IS OF BULK AT MOST 1048576: true; the input reads as it did. -/
def proxySelfUptoRow : OpenClaim := { program := "ytaddlmlpeghonaagreatdoor", sum := "22417438c2a5e1d96530e16d2fde3e761afaa46e468faffd498f29d55e92ad92", func := "concordat/concordatlaw25.ProxySelf", spec := "proxySelf", inPlace := ["slices.overlaps[concordat/api.Entry]"], unfollowed := true, recurses := true, named := ["unicode/utf8.first", "unicode/utf8.acceptRanges"], plainKeys := false, apart := false, laid := [("unicode/utf8.acceptRanges", laid_unicode_utf8_acceptRanges), ("unicode/utf8.first", laid_unicode_utf8_first)], narrowed := true }
def ProxySelfUptoSaid : Prop := proxySelfUptoRow.holds Tryz.pinned (OpenSpec.upto proxySelfSpec)

/-- 'concordatlaw25.ProxyKeeps', WHERE WHAT IT READS IS OF BULK AT MOST 1048576: true; the input reads as it did. -/
def proxyKeepsUptoRow : OpenClaim := { program := "ytaddlmlpeghonaagreatdoor", sum := "22417438c2a5e1d96530e16d2fde3e761afaa46e468faffd498f29d55e92ad92", func := "concordat/concordatlaw25.ProxyKeeps", spec := "proxyKeeps", inPlace := ["slices.overlaps[concordat/api.Entry]"], unfollowed := true, recurses := true, named := ["unicode/utf8.first", "unicode/utf8.acceptRanges"], plainKeys := false, apart := false, laid := [("unicode/utf8.acceptRanges", laid_unicode_utf8_acceptRanges), ("unicode/utf8.first", laid_unicode_utf8_first)], narrowed := true }
def ProxyKeepsUptoSaid : Prop := proxyKeepsUptoRow.holds Tryz.pinned (OpenSpec.upto proxyKeepsSpec)

end Rows
end Go.Proofs.YtaddlmlpeghonaaGreatDoor
