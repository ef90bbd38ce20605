/-
  DERIVED. GIVEN WITH THE SEED: THE CARDS: each row of YtaddlmlpeghonaaDoorRows.lean that lists a variable, with what it lists TIED to the program's text (the seventh form; the later family's looks); each row that meets fmt, with fmt's text TOLD by the authors' own Lean function (tested against real Go, not proved from fmt's source: count such statements apart). THE CARD IS WHAT COUNTS. Prove the row's statement (the work); the ties are given (YtaddlmlpeghonaaDoorTie.lean); close each card by the builder's one call (the guide's Derived/Test/ToyasCard.lean, 'card_holds'). Laid BY PROGRAM, IN A SANDBOX (cutbox-door.mjs). By AI agents, Wed Nov 11 2026. No macro, syntax, notation, axiom, sorry.
-/
import Derived.Test.YtaddlmlpeghonaaDoorRows
import GoSem.ClaimSeven
namespace Go.Proofs.YtaddlmlpeghonaaDoor
namespace Rows

/-- THE TIED CARD OF 'concordatlaw12.DecodeUnknown'. -/
def decodeUnknownCard : Claim7 := { stood := { row := decodeUnknownRow, standIns := [], harness := (true, "f57588bc76ee22ee5e52e8ca0365b40b3cfc37f184123b13599a8a6ce80a4d39"), looks := true }, kinds := [], alts := [], laidByText := true, laidKinds := [.data, .pinned], laidTests := true, laidLooks := .later }
def DecodeUnknownCardSaid : Prop := Claim7.holds Tryd.pinned (.plain (OpenSpec.ofChange decodeUnknownSpec)) decodeUnknownCard

/-- THE TIED CARD OF 'concordatlaw12.DecodeDeep'. -/
def decodeDeepCard : Claim7 := { stood := { row := decodeDeepRow, standIns := [], harness := (true, "f57588bc76ee22ee5e52e8ca0365b40b3cfc37f184123b13599a8a6ce80a4d39"), looks := true }, kinds := [], alts := [], laidByText := true, laidKinds := [.data, .pinned], laidTests := true, laidLooks := .later }
def DecodeDeepCardSaid : Prop := Claim7.holds Tryd.pinned (.plain (OpenSpec.ofChange decodeDeepSpec)) decodeDeepCard

/-- THE TIED CARD OF 'concordatlaw12.DecodeLists'. -/
def decodeListsCard : Claim7 := { stood := { row := decodeListsRow, standIns := [], harness := (true, "f57588bc76ee22ee5e52e8ca0365b40b3cfc37f184123b13599a8a6ce80a4d39"), looks := true }, kinds := [], alts := [], laidByText := true, laidKinds := [.data, .pinned], laidTests := true, laidLooks := .later }
def DecodeListsCardSaid : Prop := Claim7.holds Tryd.pinned (.plain (OpenSpec.ofChange decodeListsSpec)) decodeListsCard

/-- THE TIED CARD OF 'concordatlaw25.ProxyTwice'. -/
def proxyTwiceCard : Claim7 := { stood := { row := proxyTwiceRow, standIns := [], harness := (true, "f57588bc76ee22ee5e52e8ca0365b40b3cfc37f184123b13599a8a6ce80a4d39"), looks := true }, kinds := [], alts := [], laidByText := true, laidKinds := [.data, .pinned], laidTests := true, laidLooks := .later }
def ProxyTwiceCardSaid : Prop := Claim7.holds Tryd.pinned (.plain (OpenSpec.ofChange proxyTwiceSpec)) proxyTwiceCard

/-- THE TIED CARD OF 'concordatlaw25.ProxyUnknown'. -/
def proxyUnknownCard : Claim7 := { stood := { row := proxyUnknownRow, standIns := [], harness := (true, "f57588bc76ee22ee5e52e8ca0365b40b3cfc37f184123b13599a8a6ce80a4d39"), looks := true }, kinds := [], alts := [], laidByText := true, laidKinds := [.data, .pinned], laidTests := true, laidLooks := .later }
def ProxyUnknownCardSaid : Prop := Claim7.holds Tryd.pinned (.plain (OpenSpec.ofChange proxyUnknownSpec)) proxyUnknownCard

/-- THE TIED CARD OF 'concordatlaw25.ProxyChains'. -/
def proxyChainsCard : Claim7 := { stood := { row := proxyChainsRow, standIns := [], harness := (true, "f57588bc76ee22ee5e52e8ca0365b40b3cfc37f184123b13599a8a6ce80a4d39"), looks := true }, kinds := [], alts := [], laidByText := true, laidKinds := [.data, .pinned], laidTests := true, laidLooks := .later }
def ProxyChainsCardSaid : Prop := Claim7.holds Tryd.pinned (.plain (OpenSpec.ofChange proxyChainsSpec)) proxyChainsCard

/-- THE TIED CARD OF 'concordatlaw12.DecodeAgain'. -/
def decodeAgainCard : Claim7 := { stood := { row := decodeAgainRow, standIns := [], harness := (true, "f57588bc76ee22ee5e52e8ca0365b40b3cfc37f184123b13599a8a6ce80a4d39"), looks := true }, kinds := [], alts := [], laidByText := true, laidKinds := [.data, .pinned], laidTests := true, laidLooks := .later }
def DecodeAgainCardSaid : Prop := Claim7.holds Tryd.pinned (.plain (OpenSpec.ofChange decodeAgainSpec)) decodeAgainCard

/-- THE SECOND FORM's CARD OF 'concordatlaw12.DecodeUnknown'. -/
def decodeUnknownUptoCard : Claim7 := { stood := { row := decodeUnknownUptoRow, standIns := [], harness := (true, "f57588bc76ee22ee5e52e8ca0365b40b3cfc37f184123b13599a8a6ce80a4d39"), looks := true }, kinds := [], alts := [], laidByText := true, laidKinds := [.data, .pinned], laidTests := true, laidLooks := .later }
def DecodeUnknownUptoCardSaid : Prop := Claim7.holds Tryd.pinned (.plain (OpenSpec.upto decodeUnknownSpec)) decodeUnknownUptoCard

/-- THE SECOND FORM's CARD OF 'concordatlaw12.DecodeDeep'. -/
def decodeDeepUptoCard : Claim7 := { stood := { row := decodeDeepUptoRow, standIns := [], harness := (true, "f57588bc76ee22ee5e52e8ca0365b40b3cfc37f184123b13599a8a6ce80a4d39"), looks := true }, kinds := [], alts := [], laidByText := true, laidKinds := [.data, .pinned], laidTests := true, laidLooks := .later }
def DecodeDeepUptoCardSaid : Prop := Claim7.holds Tryd.pinned (.plain (OpenSpec.upto decodeDeepSpec)) decodeDeepUptoCard

/-- THE SECOND FORM's CARD OF 'concordatlaw12.DecodeLists'. -/
def decodeListsUptoCard : Claim7 := { stood := { row := decodeListsUptoRow, standIns := [], harness := (true, "f57588bc76ee22ee5e52e8ca0365b40b3cfc37f184123b13599a8a6ce80a4d39"), looks := true }, kinds := [], alts := [], laidByText := true, laidKinds := [.data, .pinned], laidTests := true, laidLooks := .later }
def DecodeListsUptoCardSaid : Prop := Claim7.holds Tryd.pinned (.plain (OpenSpec.upto decodeListsSpec)) decodeListsUptoCard

/-- THE SECOND FORM's CARD OF 'concordatlaw25.ProxyTwice'. -/
def proxyTwiceUptoCard : Claim7 := { stood := { row := proxyTwiceUptoRow, standIns := [], harness := (true, "f57588bc76ee22ee5e52e8ca0365b40b3cfc37f184123b13599a8a6ce80a4d39"), looks := true }, kinds := [], alts := [], laidByText := true, laidKinds := [.data, .pinned], laidTests := true, laidLooks := .later }
def ProxyTwiceUptoCardSaid : Prop := Claim7.holds Tryd.pinned (.plain (OpenSpec.upto proxyTwiceSpec)) proxyTwiceUptoCard

/-- THE SECOND FORM's CARD OF 'concordatlaw25.ProxyUnknown'. -/
def proxyUnknownUptoCard : Claim7 := { stood := { row := proxyUnknownUptoRow, standIns := [], harness := (true, "f57588bc76ee22ee5e52e8ca0365b40b3cfc37f184123b13599a8a6ce80a4d39"), looks := true }, kinds := [], alts := [], laidByText := true, laidKinds := [.data, .pinned], laidTests := true, laidLooks := .later }
def ProxyUnknownUptoCardSaid : Prop := Claim7.holds Tryd.pinned (.plain (OpenSpec.upto proxyUnknownSpec)) proxyUnknownUptoCard

/-- THE SECOND FORM's CARD OF 'concordatlaw25.ProxyChains'. -/
def proxyChainsUptoCard : Claim7 := { stood := { row := proxyChainsUptoRow, standIns := [], harness := (true, "f57588bc76ee22ee5e52e8ca0365b40b3cfc37f184123b13599a8a6ce80a4d39"), looks := true }, kinds := [], alts := [], laidByText := true, laidKinds := [.data, .pinned], laidTests := true, laidLooks := .later }
def ProxyChainsUptoCardSaid : Prop := Claim7.holds Tryd.pinned (.plain (OpenSpec.upto proxyChainsSpec)) proxyChainsUptoCard

/-- THE SECOND FORM's CARD OF 'concordatlaw12.DecodeAgain'. -/
def decodeAgainUptoCard : Claim7 := { stood := { row := decodeAgainUptoRow, standIns := [], harness := (true, "f57588bc76ee22ee5e52e8ca0365b40b3cfc37f184123b13599a8a6ce80a4d39"), looks := true }, kinds := [], alts := [], laidByText := true, laidKinds := [.data, .pinned], laidTests := true, laidLooks := .later }
def DecodeAgainUptoCardSaid : Prop := Claim7.holds Tryd.pinned (.plain (OpenSpec.upto decodeAgainSpec)) decodeAgainUptoCard
end Rows
end Go.Proofs.YtaddlmlpeghonaaDoor
