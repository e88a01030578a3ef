/-
  DERIVED. GIVEN WITH THE SEED: THE CARDS: each row of YtgfefnfnpplhlaaDoorRows.lean that lists a variable, with what it lists TIED to the program's text (the seventh form; the later family's looks); each row that meets fmt, with fmt's text TOLD by the authors' own Lean function (tested against real Go, not proved from fmt's source: count such statements apart). THE CARD IS WHAT COUNTS. Prove the row's statement (the work); the ties are given (YtgfefnfnpplhlaaDoorTie.lean); close each card by the builder's one call (the guide's Derived/Test/ToyasCard.lean, 'card_holds'). Laid BY PROGRAM, IN A SANDBOX (cutbox-door.mjs). By AI agents, Wed Nov 11 2026. No macro, syntax, notation, axiom, sorry.
-/
import Derived.Test.YtgfefnfnpplhlaaDoorRows
import GoSem.ClaimSeven
namespace Go.Proofs.YtgfefnfnpplhlaaDoor
namespace Rows

/-- THE TIED CARD OF 'shipyardlaw04.IdentNames'. -/
def identNamesCard : Claim7 := { stood := { row := identNamesRow, standIns := [], harness := (true, "f60d3f85b0cb8527159326a69783419ba195922f928aa9649314ddaea2eca312"), looks := false }, kinds := [], alts := [], laidByText := true, laidKinds := [.data, .data, .data, .data, .pinned], laidTests := true, laidLooks := .later }
def IdentNamesCardSaid : Prop := Claim7.holds Tryd.pinned (.plain (OpenSpec.ofChange identNamesSpec)) identNamesCard

/-- THE TIED CARD OF 'shipyardlaw04.IdentSplits'. -/
def identSplitsCard : Claim7 := { stood := { row := identSplitsRow, standIns := [], harness := (true, "f60d3f85b0cb8527159326a69783419ba195922f928aa9649314ddaea2eca312"), looks := false }, kinds := [], alts := [], laidByText := true, laidKinds := [.data, .data, .data, .data, .pinned], laidTests := true, laidLooks := .later }
def IdentSplitsCardSaid : Prop := Claim7.holds Tryd.pinned (.plain (OpenSpec.ofChange identSplitsSpec)) identSplitsCard

/-- THE TIED CARD OF 'shipyardlaw04.IdentJoins'. -/
def identJoinsCard : Claim7 := { stood := { row := identJoinsRow, standIns := [], harness := (true, "f60d3f85b0cb8527159326a69783419ba195922f928aa9649314ddaea2eca312"), looks := false }, kinds := [], alts := [], laidByText := true, laidKinds := [.data, .data, .data, .data, .pinned], laidTests := true, laidLooks := .later }
def IdentJoinsCardSaid : Prop := Claim7.holds Tryd.pinned (.plain (OpenSpec.ofChange identJoinsSpec)) identJoinsCard

/-- THE TIED CARD OF 'shipyardlaw04.IdentCompares'. -/
def identComparesCard : Claim7 := { stood := { row := identComparesRow, standIns := [], harness := (true, "f60d3f85b0cb8527159326a69783419ba195922f928aa9649314ddaea2eca312"), looks := false }, kinds := [], alts := [], laidByText := true, laidKinds := [.data, .data, .data, .data, .pinned], laidTests := true, laidLooks := .later }
def IdentComparesCardSaid : Prop := Claim7.holds Tryd.pinned (.plain (OpenSpec.ofChange identComparesSpec)) identComparesCard

/-- THE TIED CARD OF 'shipyardlaw04.IdentOrders'. -/
def identOrdersCard : Claim7 := { stood := { row := identOrdersRow, standIns := [], harness := (true, "f60d3f85b0cb8527159326a69783419ba195922f928aa9649314ddaea2eca312"), looks := false }, kinds := [], alts := [], laidByText := true, laidKinds := [.data, .data, .data, .data, .pinned], laidTests := true, laidLooks := .later }
def IdentOrdersCardSaid : Prop := Claim7.holds Tryd.pinned (.plain (OpenSpec.ofChange identOrdersSpec)) identOrdersCard

/-- THE TIED CARD OF 'shipyardlaw04.IdentSeals'. -/
def identSealsCard : Claim7 := { stood := { row := identSealsRow, standIns := [], harness := (true, "f60d3f85b0cb8527159326a69783419ba195922f928aa9649314ddaea2eca312"), looks := false }, kinds := [], alts := [], laidByText := true, laidKinds := [.data, .data, .data, .data, .pinned], laidTests := true, laidLooks := .later }
def IdentSealsCardSaid : Prop := Claim7.holds Tryd.pinned (.plain (OpenSpec.ofChange identSealsSpec)) identSealsCard

/-- THE TIED CARD OF 'shipyardlaw04.IdentOpens'. -/
def identOpensCard : Claim7 := { stood := { row := identOpensRow, standIns := [], harness := (true, "f60d3f85b0cb8527159326a69783419ba195922f928aa9649314ddaea2eca312"), looks := false }, kinds := [], alts := [], laidByText := true, laidKinds := [.data, .data, .data, .data, .pinned], laidTests := true, laidLooks := .later }
def IdentOpensCardSaid : Prop := Claim7.holds Tryd.pinned (.plain (OpenSpec.ofChange identOpensSpec)) identOpensCard

/-- THE TIED CARD OF 'shipyardlaw04.IdentDetects'. -/
def identDetectsCard : Claim7 := { stood := { row := identDetectsRow, standIns := [], harness := (true, "f60d3f85b0cb8527159326a69783419ba195922f928aa9649314ddaea2eca312"), looks := false }, kinds := [], alts := [], laidByText := true, laidKinds := [.data, .data, .data, .data, .pinned], laidTests := true, laidLooks := .later }
def IdentDetectsCardSaid : Prop := Claim7.holds Tryd.pinned (.plain (OpenSpec.ofChange identDetectsSpec)) identDetectsCard

/-- THE SECOND FORM's CARD OF 'shipyardlaw04.IdentNames'. -/
def identNamesUptoCard : Claim7 := { stood := { row := identNamesUptoRow, standIns := [], harness := (true, "f60d3f85b0cb8527159326a69783419ba195922f928aa9649314ddaea2eca312"), looks := false }, kinds := [], alts := [], laidByText := true, laidKinds := [.data, .data, .data, .data, .pinned], laidTests := true, laidLooks := .later }
def IdentNamesUptoCardSaid : Prop := Claim7.holds Tryd.pinned (.plain (OpenSpec.upto identNamesSpec)) identNamesUptoCard

/-- THE SECOND FORM's CARD OF 'shipyardlaw04.IdentSplits'. -/
def identSplitsUptoCard : Claim7 := { stood := { row := identSplitsUptoRow, standIns := [], harness := (true, "f60d3f85b0cb8527159326a69783419ba195922f928aa9649314ddaea2eca312"), looks := false }, kinds := [], alts := [], laidByText := true, laidKinds := [.data, .data, .data, .data, .pinned], laidTests := true, laidLooks := .later }
def IdentSplitsUptoCardSaid : Prop := Claim7.holds Tryd.pinned (.plain (OpenSpec.upto identSplitsSpec)) identSplitsUptoCard

/-- THE SECOND FORM's CARD OF 'shipyardlaw04.IdentJoins'. -/
def identJoinsUptoCard : Claim7 := { stood := { row := identJoinsUptoRow, standIns := [], harness := (true, "f60d3f85b0cb8527159326a69783419ba195922f928aa9649314ddaea2eca312"), looks := false }, kinds := [], alts := [], laidByText := true, laidKinds := [.data, .data, .data, .data, .pinned], laidTests := true, laidLooks := .later }
def IdentJoinsUptoCardSaid : Prop := Claim7.holds Tryd.pinned (.plain (OpenSpec.upto identJoinsSpec)) identJoinsUptoCard

/-- THE SECOND FORM's CARD OF 'shipyardlaw04.IdentCompares'. -/
def identComparesUptoCard : Claim7 := { stood := { row := identComparesUptoRow, standIns := [], harness := (true, "f60d3f85b0cb8527159326a69783419ba195922f928aa9649314ddaea2eca312"), looks := false }, kinds := [], alts := [], laidByText := true, laidKinds := [.data, .data, .data, .data, .pinned], laidTests := true, laidLooks := .later }
def IdentComparesUptoCardSaid : Prop := Claim7.holds Tryd.pinned (.plain (OpenSpec.upto identComparesSpec)) identComparesUptoCard

/-- THE SECOND FORM's CARD OF 'shipyardlaw04.IdentOrders'. -/
def identOrdersUptoCard : Claim7 := { stood := { row := identOrdersUptoRow, standIns := [], harness := (true, "f60d3f85b0cb8527159326a69783419ba195922f928aa9649314ddaea2eca312"), looks := false }, kinds := [], alts := [], laidByText := true, laidKinds := [.data, .data, .data, .data, .pinned], laidTests := true, laidLooks := .later }
def IdentOrdersUptoCardSaid : Prop := Claim7.holds Tryd.pinned (.plain (OpenSpec.upto identOrdersSpec)) identOrdersUptoCard

/-- THE SECOND FORM's CARD OF 'shipyardlaw04.IdentSeals'. -/
def identSealsUptoCard : Claim7 := { stood := { row := identSealsUptoRow, standIns := [], harness := (true, "f60d3f85b0cb8527159326a69783419ba195922f928aa9649314ddaea2eca312"), looks := false }, kinds := [], alts := [], laidByText := true, laidKinds := [.data, .data, .data, .data, .pinned], laidTests := true, laidLooks := .later }
def IdentSealsUptoCardSaid : Prop := Claim7.holds Tryd.pinned (.plain (OpenSpec.upto identSealsSpec)) identSealsUptoCard

/-- THE SECOND FORM's CARD OF 'shipyardlaw04.IdentOpens'. -/
def identOpensUptoCard : Claim7 := { stood := { row := identOpensUptoRow, standIns := [], harness := (true, "f60d3f85b0cb8527159326a69783419ba195922f928aa9649314ddaea2eca312"), looks := false }, kinds := [], alts := [], laidByText := true, laidKinds := [.data, .data, .data, .data, .pinned], laidTests := true, laidLooks := .later }
def IdentOpensUptoCardSaid : Prop := Claim7.holds Tryd.pinned (.plain (OpenSpec.upto identOpensSpec)) identOpensUptoCard

/-- THE SECOND FORM's CARD OF 'shipyardlaw04.IdentDetects'. -/
def identDetectsUptoCard : Claim7 := { stood := { row := identDetectsUptoRow, standIns := [], harness := (true, "f60d3f85b0cb8527159326a69783419ba195922f928aa9649314ddaea2eca312"), looks := false }, kinds := [], alts := [], laidByText := true, laidKinds := [.data, .data, .data, .data, .pinned], laidTests := true, laidLooks := .later }
def IdentDetectsUptoCardSaid : Prop := Claim7.holds Tryd.pinned (.plain (OpenSpec.upto identDetectsSpec)) identDetectsUptoCard
end Rows
end Go.Proofs.YtgfefnfnpplhlaaDoor
