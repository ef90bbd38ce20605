/-
  DERIVED. GIVEN WITH THE SEED: THE CARDS: each row of YtaddlmlpeghonaaGreatDoorRows.lean that lists a variable, with what it lists TIED to the program's text (the seventh form; the later family's looks); each row that meets fmt, with fmt's text TOLD by the authors' own Lean function (tested against real Go, not proved from fmt's source: count such statements apart). THE CARD IS WHAT COUNTS. Prove the row's statement (the work); the ties are given (YtaddlmlpeghonaaGreatDoorTie.lean); close each card by the builder's one call (the guide's Derived/Test/ToyasCard.lean, 'card_holds'). Laid BY PROGRAM, IN A SANDBOX (cutbox-door.mjs). By AI agents, Wed Nov 11 2026. No macro, syntax, notation, axiom, sorry.
-/
import Derived.Test.YtaddlmlpeghonaaGreatDoorRows
import GoSem.ClaimSeven
namespace Go.Proofs.YtaddlmlpeghonaaGreatDoor
namespace Rows

/-- THE TIED CARD OF 'concordatlaw12.DecodeTrees'. -/
def decodeTreesCard : Claim7 := { stood := { row := decodeTreesRow, standIns := [], harness := (true, "724f6e7ccc29a7372c4311c6a05191e59375c5401e6a58e11761d54108b5be0a"), looks := true }, kinds := [], alts := [], laidByText := true, laidKinds := [.data, .pinned], laidTests := true, laidLooks := .later }
def DecodeTreesCardSaid : Prop := Claim7.holds Tryz.pinned (.plain (OpenSpec.ofChange decodeTreesSpec)) decodeTreesCard

/-- THE TIED CARD OF 'concordatlaw12.DecodeBack'. -/
def decodeBackCard : Claim7 := { stood := { row := decodeBackRow, standIns := [], harness := (true, "724f6e7ccc29a7372c4311c6a05191e59375c5401e6a58e11761d54108b5be0a"), looks := true }, kinds := [], alts := [], laidByText := true, laidKinds := [.data, .pinned], laidTests := true, laidLooks := .later }
def DecodeBackCardSaid : Prop := Claim7.holds Tryz.pinned (.plain (OpenSpec.ofChange decodeBackSpec)) decodeBackCard

/-- THE TIED CARD OF 'concordatlaw12.DecodeLast'. -/
def decodeLastCard : Claim7 := { stood := { row := decodeLastRow, standIns := [], harness := (true, "724f6e7ccc29a7372c4311c6a05191e59375c5401e6a58e11761d54108b5be0a"), looks := true }, kinds := [], alts := [], laidByText := true, laidKinds := [.data, .pinned], laidTests := true, laidLooks := .later }
def DecodeLastCardSaid : Prop := Claim7.holds Tryz.pinned (.plain (OpenSpec.ofChange decodeLastSpec)) decodeLastCard

/-- THE TIED CARD OF 'concordatlaw12.DecodeShuffled'. -/
def decodeShuffledCard : Claim7 := { stood := { row := decodeShuffledRow, standIns := [], harness := (true, "724f6e7ccc29a7372c4311c6a05191e59375c5401e6a58e11761d54108b5be0a"), looks := true }, kinds := [], alts := [], laidByText := true, laidKinds := [.data, .pinned], laidTests := true, laidLooks := .later }
def DecodeShuffledCardSaid : Prop := Claim7.holds Tryz.pinned (.plain (OpenSpec.ofChange decodeShuffledSpec)) decodeShuffledCard

/-- THE TIED CARD OF 'concordatlaw25.ProxyAll'. -/
def proxyAllCard : Claim7 := { stood := { row := proxyAllRow, standIns := [], harness := (true, "724f6e7ccc29a7372c4311c6a05191e59375c5401e6a58e11761d54108b5be0a"), looks := true }, kinds := [], alts := [], laidByText := true, laidKinds := [.data, .pinned], laidTests := true, laidLooks := .later }
def ProxyAllCardSaid : Prop := Claim7.holds Tryz.pinned (.plain (OpenSpec.ofChange proxyAllSpec)) proxyAllCard

/-- THE TIED CARD OF 'concordatlaw25.ProxyTrees'. -/
def proxyTreesCard : Claim7 := { stood := { row := proxyTreesRow, standIns := [], harness := (true, "724f6e7ccc29a7372c4311c6a05191e59375c5401e6a58e11761d54108b5be0a"), looks := true }, kinds := [], alts := [], laidByText := true, laidKinds := [.data, .pinned], laidTests := true, laidLooks := .later }
def ProxyTreesCardSaid : Prop := Claim7.holds Tryz.pinned (.plain (OpenSpec.ofChange proxyTreesSpec)) proxyTreesCard

/-- THE TIED CARD OF 'concordatlaw25.ProxySelf'. -/
def proxySelfCard : Claim7 := { stood := { row := proxySelfRow, standIns := [], harness := (true, "724f6e7ccc29a7372c4311c6a05191e59375c5401e6a58e11761d54108b5be0a"), looks := true }, kinds := [], alts := [], laidByText := true, laidKinds := [.data, .pinned], laidTests := true, laidLooks := .later }
def ProxySelfCardSaid : Prop := Claim7.holds Tryz.pinned (.plain (OpenSpec.ofChange proxySelfSpec)) proxySelfCard

/-- THE TIED CARD OF 'concordatlaw25.ProxyKeeps'. -/
def proxyKeepsCard : Claim7 := { stood := { row := proxyKeepsRow, standIns := [], harness := (true, "724f6e7ccc29a7372c4311c6a05191e59375c5401e6a58e11761d54108b5be0a"), looks := true }, kinds := [], alts := [], laidByText := true, laidKinds := [.data, .pinned], laidTests := true, laidLooks := .later }
def ProxyKeepsCardSaid : Prop := Claim7.holds Tryz.pinned (.plain (OpenSpec.ofChange proxyKeepsSpec)) proxyKeepsCard

/-- THE SECOND FORM's CARD OF 'concordatlaw12.DecodeTrees'. -/
def decodeTreesUptoCard : Claim7 := { stood := { row := decodeTreesUptoRow, standIns := [], harness := (true, "724f6e7ccc29a7372c4311c6a05191e59375c5401e6a58e11761d54108b5be0a"), looks := true }, kinds := [], alts := [], laidByText := true, laidKinds := [.data, .pinned], laidTests := true, laidLooks := .later }
def DecodeTreesUptoCardSaid : Prop := Claim7.holds Tryz.pinned (.plain (OpenSpec.upto decodeTreesSpec)) decodeTreesUptoCard

/-- THE SECOND FORM's CARD OF 'concordatlaw12.DecodeBack'. -/
def decodeBackUptoCard : Claim7 := { stood := { row := decodeBackUptoRow, standIns := [], harness := (true, "724f6e7ccc29a7372c4311c6a05191e59375c5401e6a58e11761d54108b5be0a"), looks := true }, kinds := [], alts := [], laidByText := true, laidKinds := [.data, .pinned], laidTests := true, laidLooks := .later }
def DecodeBackUptoCardSaid : Prop := Claim7.holds Tryz.pinned (.plain (OpenSpec.upto decodeBackSpec)) decodeBackUptoCard

/-- THE SECOND FORM's CARD OF 'concordatlaw12.DecodeLast'. -/
def decodeLastUptoCard : Claim7 := { stood := { row := decodeLastUptoRow, standIns := [], harness := (true, "724f6e7ccc29a7372c4311c6a05191e59375c5401e6a58e11761d54108b5be0a"), looks := true }, kinds := [], alts := [], laidByText := true, laidKinds := [.data, .pinned], laidTests := true, laidLooks := .later }
def DecodeLastUptoCardSaid : Prop := Claim7.holds Tryz.pinned (.plain (OpenSpec.upto decodeLastSpec)) decodeLastUptoCard

/-- THE SECOND FORM's CARD OF 'concordatlaw12.DecodeShuffled'. -/
def decodeShuffledUptoCard : Claim7 := { stood := { row := decodeShuffledUptoRow, standIns := [], harness := (true, "724f6e7ccc29a7372c4311c6a05191e59375c5401e6a58e11761d54108b5be0a"), looks := true }, kinds := [], alts := [], laidByText := true, laidKinds := [.data, .pinned], laidTests := true, laidLooks := .later }
def DecodeShuffledUptoCardSaid : Prop := Claim7.holds Tryz.pinned (.plain (OpenSpec.upto decodeShuffledSpec)) decodeShuffledUptoCard

/-- THE SECOND FORM's CARD OF 'concordatlaw25.ProxyAll'. -/
def proxyAllUptoCard : Claim7 := { stood := { row := proxyAllUptoRow, standIns := [], harness := (true, "724f6e7ccc29a7372c4311c6a05191e59375c5401e6a58e11761d54108b5be0a"), looks := true }, kinds := [], alts := [], laidByText := true, laidKinds := [.data, .pinned], laidTests := true, laidLooks := .later }
def ProxyAllUptoCardSaid : Prop := Claim7.holds Tryz.pinned (.plain (OpenSpec.upto proxyAllSpec)) proxyAllUptoCard

/-- THE SECOND FORM's CARD OF 'concordatlaw25.ProxyTrees'. -/
def proxyTreesUptoCard : Claim7 := { stood := { row := proxyTreesUptoRow, standIns := [], harness := (true, "724f6e7ccc29a7372c4311c6a05191e59375c5401e6a58e11761d54108b5be0a"), looks := true }, kinds := [], alts := [], laidByText := true, laidKinds := [.data, .pinned], laidTests := true, laidLooks := .later }
def ProxyTreesUptoCardSaid : Prop := Claim7.holds Tryz.pinned (.plain (OpenSpec.upto proxyTreesSpec)) proxyTreesUptoCard

/-- THE SECOND FORM's CARD OF 'concordatlaw25.ProxySelf'. -/
def proxySelfUptoCard : Claim7 := { stood := { row := proxySelfUptoRow, standIns := [], harness := (true, "724f6e7ccc29a7372c4311c6a05191e59375c5401e6a58e11761d54108b5be0a"), looks := true }, kinds := [], alts := [], laidByText := true, laidKinds := [.data, .pinned], laidTests := true, laidLooks := .later }
def ProxySelfUptoCardSaid : Prop := Claim7.holds Tryz.pinned (.plain (OpenSpec.upto proxySelfSpec)) proxySelfUptoCard

/-- THE SECOND FORM's CARD OF 'concordatlaw25.ProxyKeeps'. -/
def proxyKeepsUptoCard : Claim7 := { stood := { row := proxyKeepsUptoRow, standIns := [], harness := (true, "724f6e7ccc29a7372c4311c6a05191e59375c5401e6a58e11761d54108b5be0a"), looks := true }, kinds := [], alts := [], laidByText := true, laidKinds := [.data, .pinned], laidTests := true, laidLooks := .later }
def ProxyKeepsUptoCardSaid : Prop := Claim7.holds Tryz.pinned (.plain (OpenSpec.upto proxyKeepsSpec)) proxyKeepsUptoCard
end Rows
end Go.Proofs.YtaddlmlpeghonaaGreatDoor
