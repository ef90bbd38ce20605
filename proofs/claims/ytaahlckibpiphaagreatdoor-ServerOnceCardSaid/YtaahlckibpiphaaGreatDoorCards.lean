/-
  DERIVED. GIVEN WITH THE SEED: THE CARDS: each row of YtaahlckibpiphaaGreatDoorRows.lean that lists a variable, with what it lists TIED to the program's text (the seventh form; the later family's looks); each row that meets fmt, with fmt's text TOLD by the authors' own Lean function (tested against real Go, not proved from fmt's source: count such statements apart). THE CARD IS WHAT COUNTS. Prove the row's statement (the work); the ties are given (YtaahlckibpiphaaGreatDoorTie.lean); close each card by the builder's one call (the guide's Derived/Test/ToyasCard.lean, 'card_holds'). Laid BY PROGRAM, IN A SANDBOX (cutbox-door.mjs). By AI agents, Wed Nov 11 2026. No macro, syntax, notation, axiom, sorry.
-/
import Derived.Test.YtaahlckibpiphaaGreatDoorRows
import GoSem.ClaimSeven
namespace Go.Proofs.YtaahlckibpiphaaGreatDoor
namespace Rows

/-- THE TIED CARD OF 'concordatlaw23.ClientElder'. -/
def clientElderCard : Claim7 := { stood := { row := clientElderRow, standIns := [], harness := (true, "f96f8411beb50a2f40b52158634dfaa03f7cf1cc9202d6bb1e1ae93ed6a1b33a"), looks := true }, kinds := [], alts := [], laidByText := true, laidKinds := [.data, .pinned], laidTests := true, laidLooks := .later }
def ClientElderCardSaid : Prop := Claim7.holds Tryz.pinned (.plain (OpenSpec.ofChange clientElderSpec)) clientElderCard

/-- THE TIED CARD OF 'concordatlaw23.ClientErrors'. -/
def clientErrorsCard : Claim7 := { stood := { row := clientErrorsRow, standIns := [], harness := (true, "f96f8411beb50a2f40b52158634dfaa03f7cf1cc9202d6bb1e1ae93ed6a1b33a"), looks := true }, kinds := [], alts := [], laidByText := true, laidKinds := [.data, .pinned], laidTests := true, laidLooks := .later }
def ClientErrorsCardSaid : Prop := Claim7.holds Tryz.pinned (.plain (OpenSpec.ofChange clientErrorsSpec)) clientErrorsCard

/-- THE TIED CARD OF 'concordatlaw23.ClientCalls'. -/
def clientCallsCard : Claim7 := { stood := { row := clientCallsRow, standIns := [], harness := (true, "f96f8411beb50a2f40b52158634dfaa03f7cf1cc9202d6bb1e1ae93ed6a1b33a"), looks := true }, kinds := [], alts := [], laidByText := true, laidKinds := [.data, .pinned], laidTests := true, laidLooks := .later }
def ClientCallsCardSaid : Prop := Claim7.holds Tryz.pinned (.plain (OpenSpec.ofChange clientCallsSpec)) clientCallsCard

/-- THE TIED CARD OF 'concordatlaw23.ClientDeaf'. -/
def clientDeafCard : Claim7 := { stood := { row := clientDeafRow, standIns := [], harness := (true, "f96f8411beb50a2f40b52158634dfaa03f7cf1cc9202d6bb1e1ae93ed6a1b33a"), looks := true }, kinds := [], alts := [], laidByText := true, laidKinds := [.data, .pinned], laidTests := true, laidLooks := .later }
def ClientDeafCardSaid : Prop := Claim7.holds Tryz.pinned (.plain (OpenSpec.ofChange clientDeafSpec)) clientDeafCard

/-- THE TIED CARD OF 'concordatlaw23.ClientPlays'. -/
def clientPlaysCard : Claim7 := { stood := { row := clientPlaysRow, standIns := [], harness := (true, "f96f8411beb50a2f40b52158634dfaa03f7cf1cc9202d6bb1e1ae93ed6a1b33a"), looks := true }, kinds := [], alts := [], laidByText := true, laidKinds := [.data, .pinned], laidTests := true, laidLooks := .later }
def ClientPlaysCardSaid : Prop := Claim7.holds Tryz.pinned (.plain (OpenSpec.ofChange clientPlaysSpec)) clientPlaysCard

/-- THE TIED CARD OF 'concordatlaw24.ServerAnswers'. -/
def serverAnswersCard : Claim7 := { stood := { row := serverAnswersRow, standIns := [], harness := (true, "f96f8411beb50a2f40b52158634dfaa03f7cf1cc9202d6bb1e1ae93ed6a1b33a"), looks := true }, kinds := [], alts := [], laidByText := true, laidKinds := [.data, .pinned], laidTests := true, laidLooks := .later }
def ServerAnswersCardSaid : Prop := Claim7.holds Tryz.pinned (.plain (OpenSpec.ofChange serverAnswersSpec)) serverAnswersCard

/-- THE TIED CARD OF 'concordatlaw24.ServerOnce'. -/
def serverOnceCard : Claim7 := { stood := { row := serverOnceRow, standIns := [], harness := (true, "f96f8411beb50a2f40b52158634dfaa03f7cf1cc9202d6bb1e1ae93ed6a1b33a"), looks := true }, kinds := [], alts := [], laidByText := true, laidKinds := [.data, .pinned], laidTests := true, laidLooks := .later }
def ServerOnceCardSaid : Prop := Claim7.holds Tryz.pinned (.plain (OpenSpec.ofChange serverOnceSpec)) serverOnceCard

/-- THE TIED CARD OF 'concordatlaw24.ServerRows'. -/
def serverRowsCard : Claim7 := { stood := { row := serverRowsRow, standIns := [], harness := (true, "f96f8411beb50a2f40b52158634dfaa03f7cf1cc9202d6bb1e1ae93ed6a1b33a"), looks := true }, kinds := [], alts := [], laidByText := true, laidKinds := [.data, .pinned], laidTests := true, laidLooks := .later }
def ServerRowsCardSaid : Prop := Claim7.holds Tryz.pinned (.plain (OpenSpec.ofChange serverRowsSpec)) serverRowsCard

/-- THE TIED CARD OF 'concordatlaw24.ServerCommon'. -/
def serverCommonCard : Claim7 := { stood := { row := serverCommonRow, standIns := [], harness := (true, "f96f8411beb50a2f40b52158634dfaa03f7cf1cc9202d6bb1e1ae93ed6a1b33a"), looks := true }, kinds := [], alts := [], laidByText := true, laidKinds := [.data, .pinned], laidTests := true, laidLooks := .later }
def ServerCommonCardSaid : Prop := Claim7.holds Tryz.pinned (.plain (OpenSpec.ofChange serverCommonSpec)) serverCommonCard

/-- THE TIED CARD OF 'concordatlaw24.ServerWrong'. -/
def serverWrongCard : Claim7 := { stood := { row := serverWrongRow, standIns := [], harness := (true, "f96f8411beb50a2f40b52158634dfaa03f7cf1cc9202d6bb1e1ae93ed6a1b33a"), looks := true }, kinds := [], alts := [], laidByText := true, laidKinds := [.data, .pinned], laidTests := true, laidLooks := .later }
def ServerWrongCardSaid : Prop := Claim7.holds Tryz.pinned (.plain (OpenSpec.ofChange serverWrongSpec)) serverWrongCard

/-- THE TIED CARD OF 'concordatlaw24.ServerPlays'. -/
def serverPlaysCard : Claim7 := { stood := { row := serverPlaysRow, standIns := [], harness := (true, "f96f8411beb50a2f40b52158634dfaa03f7cf1cc9202d6bb1e1ae93ed6a1b33a"), looks := true }, kinds := [], alts := [], laidByText := true, laidKinds := [.data, .pinned], laidTests := true, laidLooks := .later }
def ServerPlaysCardSaid : Prop := Claim7.holds Tryz.pinned (.plain (OpenSpec.ofChange serverPlaysSpec)) serverPlaysCard

/-- THE TIED CARD OF 'concordatlaw24.ServerDeploys'. -/
def serverDeploysCard : Claim7 := { stood := { row := serverDeploysRow, standIns := [], harness := (true, "f96f8411beb50a2f40b52158634dfaa03f7cf1cc9202d6bb1e1ae93ed6a1b33a"), looks := true }, kinds := [], alts := [], laidByText := true, laidKinds := [.data, .pinned], laidTests := true, laidLooks := .later }
def ServerDeploysCardSaid : Prop := Claim7.holds Tryz.pinned (.plain (OpenSpec.ofChange serverDeploysSpec)) serverDeploysCard

/-- THE SECOND FORM's CARD OF 'concordatlaw23.ClientElder'. -/
def clientElderUptoCard : Claim7 := { stood := { row := clientElderUptoRow, standIns := [], harness := (true, "f96f8411beb50a2f40b52158634dfaa03f7cf1cc9202d6bb1e1ae93ed6a1b33a"), looks := true }, kinds := [], alts := [], laidByText := true, laidKinds := [.data, .pinned], laidTests := true, laidLooks := .later }
def ClientElderUptoCardSaid : Prop := Claim7.holds Tryz.pinned (.plain (OpenSpec.upto clientElderSpec)) clientElderUptoCard

/-- THE SECOND FORM's CARD OF 'concordatlaw23.ClientErrors'. -/
def clientErrorsUptoCard : Claim7 := { stood := { row := clientErrorsUptoRow, standIns := [], harness := (true, "f96f8411beb50a2f40b52158634dfaa03f7cf1cc9202d6bb1e1ae93ed6a1b33a"), looks := true }, kinds := [], alts := [], laidByText := true, laidKinds := [.data, .pinned], laidTests := true, laidLooks := .later }
def ClientErrorsUptoCardSaid : Prop := Claim7.holds Tryz.pinned (.plain (OpenSpec.upto clientErrorsSpec)) clientErrorsUptoCard

/-- THE SECOND FORM's CARD OF 'concordatlaw23.ClientCalls'. -/
def clientCallsUptoCard : Claim7 := { stood := { row := clientCallsUptoRow, standIns := [], harness := (true, "f96f8411beb50a2f40b52158634dfaa03f7cf1cc9202d6bb1e1ae93ed6a1b33a"), looks := true }, kinds := [], alts := [], laidByText := true, laidKinds := [.data, .pinned], laidTests := true, laidLooks := .later }
def ClientCallsUptoCardSaid : Prop := Claim7.holds Tryz.pinned (.plain (OpenSpec.upto clientCallsSpec)) clientCallsUptoCard

/-- THE SECOND FORM's CARD OF 'concordatlaw23.ClientDeaf'. -/
def clientDeafUptoCard : Claim7 := { stood := { row := clientDeafUptoRow, standIns := [], harness := (true, "f96f8411beb50a2f40b52158634dfaa03f7cf1cc9202d6bb1e1ae93ed6a1b33a"), looks := true }, kinds := [], alts := [], laidByText := true, laidKinds := [.data, .pinned], laidTests := true, laidLooks := .later }
def ClientDeafUptoCardSaid : Prop := Claim7.holds Tryz.pinned (.plain (OpenSpec.upto clientDeafSpec)) clientDeafUptoCard

/-- THE SECOND FORM's CARD OF 'concordatlaw23.ClientPlays'. -/
def clientPlaysUptoCard : Claim7 := { stood := { row := clientPlaysUptoRow, standIns := [], harness := (true, "f96f8411beb50a2f40b52158634dfaa03f7cf1cc9202d6bb1e1ae93ed6a1b33a"), looks := true }, kinds := [], alts := [], laidByText := true, laidKinds := [.data, .pinned], laidTests := true, laidLooks := .later }
def ClientPlaysUptoCardSaid : Prop := Claim7.holds Tryz.pinned (.plain (OpenSpec.upto clientPlaysSpec)) clientPlaysUptoCard

/-- THE SECOND FORM's CARD OF 'concordatlaw24.ServerAnswers'. -/
def serverAnswersUptoCard : Claim7 := { stood := { row := serverAnswersUptoRow, standIns := [], harness := (true, "f96f8411beb50a2f40b52158634dfaa03f7cf1cc9202d6bb1e1ae93ed6a1b33a"), looks := true }, kinds := [], alts := [], laidByText := true, laidKinds := [.data, .pinned], laidTests := true, laidLooks := .later }
def ServerAnswersUptoCardSaid : Prop := Claim7.holds Tryz.pinned (.plain (OpenSpec.upto serverAnswersSpec)) serverAnswersUptoCard

/-- THE SECOND FORM's CARD OF 'concordatlaw24.ServerOnce'. -/
def serverOnceUptoCard : Claim7 := { stood := { row := serverOnceUptoRow, standIns := [], harness := (true, "f96f8411beb50a2f40b52158634dfaa03f7cf1cc9202d6bb1e1ae93ed6a1b33a"), looks := true }, kinds := [], alts := [], laidByText := true, laidKinds := [.data, .pinned], laidTests := true, laidLooks := .later }
def ServerOnceUptoCardSaid : Prop := Claim7.holds Tryz.pinned (.plain (OpenSpec.upto serverOnceSpec)) serverOnceUptoCard

/-- THE SECOND FORM's CARD OF 'concordatlaw24.ServerRows'. -/
def serverRowsUptoCard : Claim7 := { stood := { row := serverRowsUptoRow, standIns := [], harness := (true, "f96f8411beb50a2f40b52158634dfaa03f7cf1cc9202d6bb1e1ae93ed6a1b33a"), looks := true }, kinds := [], alts := [], laidByText := true, laidKinds := [.data, .pinned], laidTests := true, laidLooks := .later }
def ServerRowsUptoCardSaid : Prop := Claim7.holds Tryz.pinned (.plain (OpenSpec.upto serverRowsSpec)) serverRowsUptoCard

/-- THE SECOND FORM's CARD OF 'concordatlaw24.ServerCommon'. -/
def serverCommonUptoCard : Claim7 := { stood := { row := serverCommonUptoRow, standIns := [], harness := (true, "f96f8411beb50a2f40b52158634dfaa03f7cf1cc9202d6bb1e1ae93ed6a1b33a"), looks := true }, kinds := [], alts := [], laidByText := true, laidKinds := [.data, .pinned], laidTests := true, laidLooks := .later }
def ServerCommonUptoCardSaid : Prop := Claim7.holds Tryz.pinned (.plain (OpenSpec.upto serverCommonSpec)) serverCommonUptoCard

/-- THE SECOND FORM's CARD OF 'concordatlaw24.ServerWrong'. -/
def serverWrongUptoCard : Claim7 := { stood := { row := serverWrongUptoRow, standIns := [], harness := (true, "f96f8411beb50a2f40b52158634dfaa03f7cf1cc9202d6bb1e1ae93ed6a1b33a"), looks := true }, kinds := [], alts := [], laidByText := true, laidKinds := [.data, .pinned], laidTests := true, laidLooks := .later }
def ServerWrongUptoCardSaid : Prop := Claim7.holds Tryz.pinned (.plain (OpenSpec.upto serverWrongSpec)) serverWrongUptoCard

/-- THE SECOND FORM's CARD OF 'concordatlaw24.ServerPlays'. -/
def serverPlaysUptoCard : Claim7 := { stood := { row := serverPlaysUptoRow, standIns := [], harness := (true, "f96f8411beb50a2f40b52158634dfaa03f7cf1cc9202d6bb1e1ae93ed6a1b33a"), looks := true }, kinds := [], alts := [], laidByText := true, laidKinds := [.data, .pinned], laidTests := true, laidLooks := .later }
def ServerPlaysUptoCardSaid : Prop := Claim7.holds Tryz.pinned (.plain (OpenSpec.upto serverPlaysSpec)) serverPlaysUptoCard

/-- THE SECOND FORM's CARD OF 'concordatlaw24.ServerDeploys'. -/
def serverDeploysUptoCard : Claim7 := { stood := { row := serverDeploysUptoRow, standIns := [], harness := (true, "f96f8411beb50a2f40b52158634dfaa03f7cf1cc9202d6bb1e1ae93ed6a1b33a"), looks := true }, kinds := [], alts := [], laidByText := true, laidKinds := [.data, .pinned], laidTests := true, laidLooks := .later }
def ServerDeploysUptoCardSaid : Prop := Claim7.holds Tryz.pinned (.plain (OpenSpec.upto serverDeploysSpec)) serverDeploysUptoCard
end Rows
end Go.Proofs.YtaahlckibpiphaaGreatDoor
