/-
  DERIVED. GIVEN WITH THE SEED: THE CARDS: each row of YtpbmmdoodmbneaaGreatDoorRows.lean that lists a variable, with what it lists TIED to the program's text (the seventh form; the later family's looks); each row that meets fmt, with fmt's text TOLD by the authors' own Lean function (tested against real Go, not proved from fmt's source: count such statements apart). THE CARD IS WHAT COUNTS. Prove the row's statement (the work); the ties are given (YtpbmmdoodmbneaaGreatDoorTie.lean); close each card by the builder's one call (the guide's Derived/Test/ToyasCard.lean, 'card_holds'). Laid BY PROGRAM, IN A SANDBOX (cutbox-door.mjs). By AI agents, Wed Nov 11 2026. No macro, syntax, notation, axiom, sorry.
-/
import Derived.Test.YtpbmmdoodmbneaaGreatDoorRows
import GoSem.ClaimSeven
namespace Go.Proofs.YtpbmmdoodmbneaaGreatDoor
namespace Rows

/-- THE TIED CARD OF 'shipyardlaw40.TransportChecks'. -/
def transportChecksCard : Claim7 := { stood := { row := transportChecksRow, standIns := [], harness := (true, "9f168ca0ca4281d770e23cb96f08a3265b0d0ea84a5f20d2518f81c943e686c2"), looks := false }, kinds := [], alts := [], laidByText := true, laidKinds := [.data, .pinned], laidTests := true, laidLooks := .later }
def TransportChecksCardSaid : Prop := Claim7.holds Tryz.pinned (.plain (OpenSpec.ofChange transportChecksSpec)) transportChecksCard

/-- THE SECOND FORM's CARD OF 'shipyardlaw40.TransportChecks'. -/
def transportChecksUptoCard : Claim7 := { stood := { row := transportChecksUptoRow, standIns := [], harness := (true, "9f168ca0ca4281d770e23cb96f08a3265b0d0ea84a5f20d2518f81c943e686c2"), looks := false }, kinds := [], alts := [], laidByText := true, laidKinds := [.data, .pinned], laidTests := true, laidLooks := .later }
def TransportChecksUptoCardSaid : Prop := Claim7.holds Tryz.pinned (.plain (OpenSpec.upto transportChecksSpec)) transportChecksUptoCard
end Rows
end Go.Proofs.YtpbmmdoodmbneaaGreatDoor
