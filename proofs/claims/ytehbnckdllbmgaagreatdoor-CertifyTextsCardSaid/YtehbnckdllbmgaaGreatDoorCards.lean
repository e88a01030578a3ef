/-
  DERIVED. GIVEN WITH THE SEED: THE CARDS: each row of YtehbnckdllbmgaaGreatDoorRows.lean that lists a variable, with what it lists TIED to the program's text (the seventh form; the later family's looks); each row that meets fmt, with fmt's text TOLD by the authors' own Lean function (tested against real Go, not proved from fmt's source: count such statements apart). THE CARD IS WHAT COUNTS. Prove the row's statement (the work); the ties are given (YtehbnckdllbmgaaGreatDoorTie.lean); close each card by the builder's one call (the guide's Derived/Test/ToyasCard.lean, 'card_holds'). Laid BY PROGRAM, IN A SANDBOX (cutbox-door.mjs). By AI agents, Wed Nov 11 2026. No macro, syntax, notation, axiom, sorry.
-/
import Derived.Test.YtehbnckdllbmgaaGreatDoorRows
import GoSem.ClaimSeven
namespace Go.Proofs.YtehbnckdllbmgaaGreatDoor
namespace Rows

/-- THE TIED CARD OF 'shipyardlaw38.CertifyCovers'. -/
def certifyCoversCard : Claim7 := { stood := { row := certifyCoversRow, standIns := [], harness := (true, "19fd06bdf9dc4a212cf6f007c052220122a276e2395e5e6f8a4614f226b63995"), looks := true }, kinds := [], alts := [], laidByText := true, laidKinds := [.data, .data, .data, .data, .sentinel, .sentinel, .pinned], laidTests := true, laidLooks := .later }
def CertifyCoversCardSaid : Prop := Claim7.holds Tryz.pinned (.plain (OpenSpec.ofChange certifyCoversSpec)) certifyCoversCard

/-- THE TIED CARD OF 'shipyardlaw38.CertifyChecks'. -/
def certifyChecksCard : Claim7 := { stood := { row := certifyChecksRow, standIns := [], harness := (true, "19fd06bdf9dc4a212cf6f007c052220122a276e2395e5e6f8a4614f226b63995"), looks := true }, kinds := [], alts := [], laidByText := true, laidKinds := [.data, .data, .data, .data, .sentinel, .sentinel, .pinned], laidTests := true, laidLooks := .later }
def CertifyChecksCardSaid : Prop := Claim7.holds Tryz.pinned (.plain (OpenSpec.ofChange certifyChecksSpec)) certifyChecksCard

/-- THE TIED CARD OF 'shipyardlaw38.CertifyMakes'. -/
def certifyMakesCard : Claim7 := { stood := { row := certifyMakesRow, standIns := [], harness := (true, "19fd06bdf9dc4a212cf6f007c052220122a276e2395e5e6f8a4614f226b63995"), looks := true }, kinds := [], alts := [], laidByText := true, laidKinds := [.data, .data, .data, .data, .sentinel, .sentinel, .pinned], laidTests := true, laidLooks := .later }
def CertifyMakesCardSaid : Prop := Claim7.holds Tryz.pinned (.plain (OpenSpec.ofChange certifyMakesSpec)) certifyMakesCard

/-- THE TIED CARD OF 'shipyardlaw38.CertifyTexts'. -/
def certifyTextsCard : Claim7 := { stood := { row := certifyTextsRow, standIns := [], harness := (true, "19fd06bdf9dc4a212cf6f007c052220122a276e2395e5e6f8a4614f226b63995"), looks := true }, kinds := [], alts := [], laidByText := true, laidKinds := [.data, .data, .data, .data, .sentinel, .sentinel, .pinned], laidTests := true, laidLooks := .later }
def CertifyTextsCardSaid : Prop := Claim7.holds Tryz.pinned (.plain (OpenSpec.ofChange certifyTextsSpec)) certifyTextsCard

/-- THE TIED CARD OF 'shipyardlaw38.CertifyShows'. -/
def certifyShowsCard : Claim7 := { stood := { row := certifyShowsRow, standIns := [], harness := (true, "19fd06bdf9dc4a212cf6f007c052220122a276e2395e5e6f8a4614f226b63995"), looks := true }, kinds := [], alts := [], laidByText := true, laidKinds := [.data, .data, .data, .data, .sentinel, .sentinel, .pinned], laidTests := true, laidLooks := .later }
def CertifyShowsCardSaid : Prop := Claim7.holds Tryz.pinned (.plain (OpenSpec.ofChange certifyShowsSpec)) certifyShowsCard

/-- THE TIED CARD OF 'shipyardlaw38.CertifyBest'. -/
def certifyBestCard : Claim7 := { stood := { row := certifyBestRow, standIns := [], harness := (true, "19fd06bdf9dc4a212cf6f007c052220122a276e2395e5e6f8a4614f226b63995"), looks := true }, kinds := [], alts := [], laidByText := true, laidKinds := [.data, .data, .data, .data, .sentinel, .sentinel, .pinned], laidTests := true, laidLooks := .later }
def CertifyBestCardSaid : Prop := Claim7.holds Tryz.pinned (.plain (OpenSpec.ofChange certifyBestSpec)) certifyBestCard

/-- THE TIED CARD OF 'shipyardlaw38.CertifyOnce'. -/
def certifyOnceCard : Claim7 := { stood := { row := certifyOnceRow, standIns := [], harness := (true, "19fd06bdf9dc4a212cf6f007c052220122a276e2395e5e6f8a4614f226b63995"), looks := true }, kinds := [], alts := [], laidByText := true, laidKinds := [.data, .data, .data, .data, .sentinel, .sentinel, .pinned], laidTests := true, laidLooks := .later }
def CertifyOnceCardSaid : Prop := Claim7.holds Tryz.pinned (.plain (OpenSpec.ofChange certifyOnceSpec)) certifyOnceCard

/-- THE TIED CARD OF 'shipyardlaw38.CertifyParts'. -/
def certifyPartsCard : Claim7 := { stood := { row := certifyPartsRow, standIns := [], harness := (true, "19fd06bdf9dc4a212cf6f007c052220122a276e2395e5e6f8a4614f226b63995"), looks := true }, kinds := [], alts := [], laidByText := true, laidKinds := [.data, .data, .data, .data, .sentinel, .sentinel, .pinned], laidTests := true, laidLooks := .later }
def CertifyPartsCardSaid : Prop := Claim7.holds Tryz.pinned (.plain (OpenSpec.ofChange certifyPartsSpec)) certifyPartsCard

/-- THE TIED CARD OF 'shipyardlaw38.CertifyBack'. -/
def certifyBackCard : Claim7 := { stood := { row := certifyBackRow, standIns := [], harness := (true, "19fd06bdf9dc4a212cf6f007c052220122a276e2395e5e6f8a4614f226b63995"), looks := true }, kinds := [], alts := [], laidByText := true, laidKinds := [.data, .data, .data, .data, .sentinel, .sentinel, .pinned], laidTests := true, laidLooks := .later }
def CertifyBackCardSaid : Prop := Claim7.holds Tryz.pinned (.plain (OpenSpec.ofChange certifyBackSpec)) certifyBackCard

/-- THE TIED CARD OF 'shipyardlaw38.CertifyLeast'. -/
def certifyLeastCard : Claim7 := { stood := { row := certifyLeastRow, standIns := [], harness := (true, "19fd06bdf9dc4a212cf6f007c052220122a276e2395e5e6f8a4614f226b63995"), looks := true }, kinds := [], alts := [], laidByText := true, laidKinds := [.data, .data, .data, .data, .sentinel, .sentinel, .pinned], laidTests := true, laidLooks := .later }
def CertifyLeastCardSaid : Prop := Claim7.holds Tryz.pinned (.plain (OpenSpec.ofChange certifyLeastSpec)) certifyLeastCard

/-- THE TIED CARD OF 'shipyardlaw38.CertifyLong'. -/
def certifyLongCard : Claim7 := { stood := { row := certifyLongRow, standIns := [], harness := (true, "19fd06bdf9dc4a212cf6f007c052220122a276e2395e5e6f8a4614f226b63995"), looks := true }, kinds := [], alts := [], laidByText := true, laidKinds := [.data, .data, .data, .data, .sentinel, .sentinel, .pinned], laidTests := true, laidLooks := .later }
def CertifyLongCardSaid : Prop := Claim7.holds Tryz.pinned (.plain (OpenSpec.ofChange certifyLongSpec)) certifyLongCard

/-- THE SECOND FORM's CARD OF 'shipyardlaw38.CertifyCovers'. -/
def certifyCoversUptoCard : Claim7 := { stood := { row := certifyCoversUptoRow, standIns := [], harness := (true, "19fd06bdf9dc4a212cf6f007c052220122a276e2395e5e6f8a4614f226b63995"), looks := true }, kinds := [], alts := [], laidByText := true, laidKinds := [.data, .data, .data, .data, .sentinel, .sentinel, .pinned], laidTests := true, laidLooks := .later }
def CertifyCoversUptoCardSaid : Prop := Claim7.holds Tryz.pinned (.plain (OpenSpec.upto certifyCoversSpec)) certifyCoversUptoCard

/-- THE SECOND FORM's CARD OF 'shipyardlaw38.CertifyChecks'. -/
def certifyChecksUptoCard : Claim7 := { stood := { row := certifyChecksUptoRow, standIns := [], harness := (true, "19fd06bdf9dc4a212cf6f007c052220122a276e2395e5e6f8a4614f226b63995"), looks := true }, kinds := [], alts := [], laidByText := true, laidKinds := [.data, .data, .data, .data, .sentinel, .sentinel, .pinned], laidTests := true, laidLooks := .later }
def CertifyChecksUptoCardSaid : Prop := Claim7.holds Tryz.pinned (.plain (OpenSpec.upto certifyChecksSpec)) certifyChecksUptoCard

/-- THE SECOND FORM's CARD OF 'shipyardlaw38.CertifyMakes'. -/
def certifyMakesUptoCard : Claim7 := { stood := { row := certifyMakesUptoRow, standIns := [], harness := (true, "19fd06bdf9dc4a212cf6f007c052220122a276e2395e5e6f8a4614f226b63995"), looks := true }, kinds := [], alts := [], laidByText := true, laidKinds := [.data, .data, .data, .data, .sentinel, .sentinel, .pinned], laidTests := true, laidLooks := .later }
def CertifyMakesUptoCardSaid : Prop := Claim7.holds Tryz.pinned (.plain (OpenSpec.upto certifyMakesSpec)) certifyMakesUptoCard

/-- THE SECOND FORM's CARD OF 'shipyardlaw38.CertifyTexts'. -/
def certifyTextsUptoCard : Claim7 := { stood := { row := certifyTextsUptoRow, standIns := [], harness := (true, "19fd06bdf9dc4a212cf6f007c052220122a276e2395e5e6f8a4614f226b63995"), looks := true }, kinds := [], alts := [], laidByText := true, laidKinds := [.data, .data, .data, .data, .sentinel, .sentinel, .pinned], laidTests := true, laidLooks := .later }
def CertifyTextsUptoCardSaid : Prop := Claim7.holds Tryz.pinned (.plain (OpenSpec.upto certifyTextsSpec)) certifyTextsUptoCard

/-- THE SECOND FORM's CARD OF 'shipyardlaw38.CertifyShows'. -/
def certifyShowsUptoCard : Claim7 := { stood := { row := certifyShowsUptoRow, standIns := [], harness := (true, "19fd06bdf9dc4a212cf6f007c052220122a276e2395e5e6f8a4614f226b63995"), looks := true }, kinds := [], alts := [], laidByText := true, laidKinds := [.data, .data, .data, .data, .sentinel, .sentinel, .pinned], laidTests := true, laidLooks := .later }
def CertifyShowsUptoCardSaid : Prop := Claim7.holds Tryz.pinned (.plain (OpenSpec.upto certifyShowsSpec)) certifyShowsUptoCard

/-- THE SECOND FORM's CARD OF 'shipyardlaw38.CertifyBest'. -/
def certifyBestUptoCard : Claim7 := { stood := { row := certifyBestUptoRow, standIns := [], harness := (true, "19fd06bdf9dc4a212cf6f007c052220122a276e2395e5e6f8a4614f226b63995"), looks := true }, kinds := [], alts := [], laidByText := true, laidKinds := [.data, .data, .data, .data, .sentinel, .sentinel, .pinned], laidTests := true, laidLooks := .later }
def CertifyBestUptoCardSaid : Prop := Claim7.holds Tryz.pinned (.plain (OpenSpec.upto certifyBestSpec)) certifyBestUptoCard

/-- THE SECOND FORM's CARD OF 'shipyardlaw38.CertifyOnce'. -/
def certifyOnceUptoCard : Claim7 := { stood := { row := certifyOnceUptoRow, standIns := [], harness := (true, "19fd06bdf9dc4a212cf6f007c052220122a276e2395e5e6f8a4614f226b63995"), looks := true }, kinds := [], alts := [], laidByText := true, laidKinds := [.data, .data, .data, .data, .sentinel, .sentinel, .pinned], laidTests := true, laidLooks := .later }
def CertifyOnceUptoCardSaid : Prop := Claim7.holds Tryz.pinned (.plain (OpenSpec.upto certifyOnceSpec)) certifyOnceUptoCard

/-- THE SECOND FORM's CARD OF 'shipyardlaw38.CertifyParts'. -/
def certifyPartsUptoCard : Claim7 := { stood := { row := certifyPartsUptoRow, standIns := [], harness := (true, "19fd06bdf9dc4a212cf6f007c052220122a276e2395e5e6f8a4614f226b63995"), looks := true }, kinds := [], alts := [], laidByText := true, laidKinds := [.data, .data, .data, .data, .sentinel, .sentinel, .pinned], laidTests := true, laidLooks := .later }
def CertifyPartsUptoCardSaid : Prop := Claim7.holds Tryz.pinned (.plain (OpenSpec.upto certifyPartsSpec)) certifyPartsUptoCard

/-- THE SECOND FORM's CARD OF 'shipyardlaw38.CertifyBack'. -/
def certifyBackUptoCard : Claim7 := { stood := { row := certifyBackUptoRow, standIns := [], harness := (true, "19fd06bdf9dc4a212cf6f007c052220122a276e2395e5e6f8a4614f226b63995"), looks := true }, kinds := [], alts := [], laidByText := true, laidKinds := [.data, .data, .data, .data, .sentinel, .sentinel, .pinned], laidTests := true, laidLooks := .later }
def CertifyBackUptoCardSaid : Prop := Claim7.holds Tryz.pinned (.plain (OpenSpec.upto certifyBackSpec)) certifyBackUptoCard

/-- THE SECOND FORM's CARD OF 'shipyardlaw38.CertifyLeast'. -/
def certifyLeastUptoCard : Claim7 := { stood := { row := certifyLeastUptoRow, standIns := [], harness := (true, "19fd06bdf9dc4a212cf6f007c052220122a276e2395e5e6f8a4614f226b63995"), looks := true }, kinds := [], alts := [], laidByText := true, laidKinds := [.data, .data, .data, .data, .sentinel, .sentinel, .pinned], laidTests := true, laidLooks := .later }
def CertifyLeastUptoCardSaid : Prop := Claim7.holds Tryz.pinned (.plain (OpenSpec.upto certifyLeastSpec)) certifyLeastUptoCard

/-- THE SECOND FORM's CARD OF 'shipyardlaw38.CertifyLong'. -/
def certifyLongUptoCard : Claim7 := { stood := { row := certifyLongUptoRow, standIns := [], harness := (true, "19fd06bdf9dc4a212cf6f007c052220122a276e2395e5e6f8a4614f226b63995"), looks := true }, kinds := [], alts := [], laidByText := true, laidKinds := [.data, .data, .data, .data, .sentinel, .sentinel, .pinned], laidTests := true, laidLooks := .later }
def CertifyLongUptoCardSaid : Prop := Claim7.holds Tryz.pinned (.plain (OpenSpec.upto certifyLongSpec)) certifyLongUptoCard
end Rows
end Go.Proofs.YtehbnckdllbmgaaGreatDoor
