/-
  DERIVED. GIVEN WITH THE SEED: THE CARDS: each row of YtgmecjmepbaolaaDoorRows.lean that lists a variable, with what it lists TIED to the program's text (the seventh form; the later family's looks); each row that meets fmt, with fmt's text TOLD by the authors' own Lean function (tested against real Go, not proved from fmt's source: count such statements apart). THE CARD IS WHAT COUNTS. Prove the row's statement (the work); the ties are given (YtgmecjmepbaolaaDoorTie.lean); close each card by the builder's one call (the guide's Derived/Test/ToyasCard.lean, 'card_holds'). Laid BY PROGRAM, IN A SANDBOX (cutbox-door.mjs). By AI agents, Wed Nov 11 2026. No macro, syntax, notation, axiom, sorry.
-/
import Derived.Test.YtgmecjmepbaolaaDoorRows
import GoSem.ClaimSeven
namespace Go.Proofs.YtgmecjmepbaolaaDoor
namespace Rows

/-- THE TIED CARD OF 'shipyardtop.TopDocks'. -/
def topDocksCard : Claim7 := { stood := { row := topDocksRow, standIns := [], harness := (true, "79eeee9217fa67b66150c1403d94357b2fdba4e2b37e4d6ddc6ed937e1590654"), looks := false }, kinds := [], alts := [], laidByText := true, laidKinds := [.data, .pinned], laidTests := true, laidLooks := .later }
def TopDocksCardSaid : Prop := Claim7.holds Tryd.pinned (.plain (OpenSpec.ofChange topDocksSpec)) topDocksCard

/-- THE SECOND FORM's CARD OF 'shipyardtop.TopDocks'. -/
def topDocksUptoCard : Claim7 := { stood := { row := topDocksUptoRow, standIns := [], harness := (true, "79eeee9217fa67b66150c1403d94357b2fdba4e2b37e4d6ddc6ed937e1590654"), looks := false }, kinds := [], alts := [], laidByText := true, laidKinds := [.data, .pinned], laidTests := true, laidLooks := .later }
def TopDocksUptoCardSaid : Prop := Claim7.holds Tryd.pinned (.plain (OpenSpec.upto topDocksSpec)) topDocksUptoCard
end Rows
end Go.Proofs.YtgmecjmepbaolaaDoor
