/-
  DERIVED. GIVEN WITH THE SEED: THE CARDS: each row of YtlmfcigabojbmaaGreatDoorRows.lean that lists a variable, with what it lists TIED to the program's text (the seventh form; the later family's looks); each row that meets fmt, with fmt's text TOLD by the authors' own Lean function (tested against real Go, not proved from fmt's source: count such statements apart). THE CARD IS WHAT COUNTS. Prove the row's statement (the work); the ties are given (YtlmfcigabojbmaaGreatDoorTie.lean); close each card by the builder's one call (the guide's Derived/Test/ToyasCard.lean, 'card_holds'). Laid BY PROGRAM, IN A SANDBOX (cutbox-door.mjs). By AI agents, Wed Nov 11 2026. No macro, syntax, notation, axiom, sorry.
-/
import Derived.Test.YtlmfcigabojbmaaGreatDoorRows
import GoSem.ClaimSeven
namespace Go.Proofs.YtlmfcigabojbmaaGreatDoor
namespace Rows

/-- THE TIED CARD OF 'shipyardtop.TopShops'. -/
def topShopsCard : Claim7 := { stood := { row := topShopsRow, standIns := [], harness := (true, "9f216d6c9c65afbd23ce08eb492a83b111b4902494fc34f0f0c25868dc128abd"), looks := false }, kinds := [], alts := [], laidByText := true, laidKinds := [.data, .pinned], laidTests := true, laidLooks := .later }
def TopShopsCardSaid : Prop := Claim7.holds Tryz.pinned (.plain (OpenSpec.ofChange topShopsSpec)) topShopsCard

/-- THE SECOND FORM's CARD OF 'shipyardtop.TopShops'. -/
def topShopsUptoCard : Claim7 := { stood := { row := topShopsUptoRow, standIns := [], harness := (true, "9f216d6c9c65afbd23ce08eb492a83b111b4902494fc34f0f0c25868dc128abd"), looks := false }, kinds := [], alts := [], laidByText := true, laidKinds := [.data, .pinned], laidTests := true, laidLooks := .later }
def TopShopsUptoCardSaid : Prop := Claim7.holds Tryz.pinned (.plain (OpenSpec.upto topShopsSpec)) topShopsUptoCard
end Rows
end Go.Proofs.YtlmfcigabojbmaaGreatDoor
