/-
  DERIVED. GIVEN WITH THE SEED: THE CARDS: each row of YtjbegegjpepkjaaDoorRows.lean that lists a variable, with what it lists TIED to the program's text (the seventh form; the later family's looks); each row that meets fmt, with fmt's text TOLD by the authors' own Lean function (tested against real Go, not proved from fmt's source: count such statements apart). THE CARD IS WHAT COUNTS. Prove the row's statement (the work); the ties are given (YtjbegegjpepkjaaDoorTie.lean); close each card by the builder's one call (the guide's Derived/Test/ToyasCard.lean, 'card_holds'). Laid BY PROGRAM, IN A SANDBOX (cutbox-door.mjs). By AI agents, Wed Nov 11 2026. No macro, syntax, notation, axiom, sorry.
-/
import Derived.Test.YtjbegegjpepkjaaDoorRows
import GoSem.ClaimSeven
namespace Go.Proofs.YtjbegegjpepkjaaDoor
namespace Rows

/-- THE TIED CARD OF 'shipyardlaw30.TraceAdds'. -/
def traceAddsCard : Claim7 := { stood := { row := traceAddsRow, standIns := [], harness := (true, "de1e15c8e4c75ccc7d969e7a1dd661219093f82aefa82ea48645040e5bf8cd04"), looks := false }, kinds := [], alts := [], laidByText := true, laidKinds := [.data, .data, .data, .data, .pinned], laidTests := true, laidLooks := .later }
def TraceAddsCardSaid : Prop := Claim7.holds Tryd.pinned (.plain (OpenSpec.ofChange traceAddsSpec)) traceAddsCard

/-- THE TIED CARD OF 'shipyardlaw30.TraceFull'. -/
def traceFullCard : Claim7 := { stood := { row := traceFullRow, standIns := [], harness := (true, "de1e15c8e4c75ccc7d969e7a1dd661219093f82aefa82ea48645040e5bf8cd04"), looks := false }, kinds := [], alts := [], laidByText := true, laidKinds := [.data, .data, .data, .data, .pinned], laidTests := true, laidLooks := .later }
def TraceFullCardSaid : Prop := Claim7.holds Tryd.pinned (.plain (OpenSpec.ofChange traceFullSpec)) traceFullCard

/-- THE TIED CARD OF 'shipyardlaw30.TraceChecks'. -/
def traceChecksCard : Claim7 := { stood := { row := traceChecksRow, standIns := [], harness := (true, "de1e15c8e4c75ccc7d969e7a1dd661219093f82aefa82ea48645040e5bf8cd04"), looks := false }, kinds := [], alts := [], laidByText := true, laidKinds := [.data, .data, .data, .data, .pinned], laidTests := true, laidLooks := .later }
def TraceChecksCardSaid : Prop := Claim7.holds Tryd.pinned (.plain (OpenSpec.ofChange traceChecksSpec)) traceChecksCard

/-- THE TIED CARD OF 'shipyardlaw30.TraceOrigins'. -/
def traceOriginsCard : Claim7 := { stood := { row := traceOriginsRow, standIns := [], harness := (true, "de1e15c8e4c75ccc7d969e7a1dd661219093f82aefa82ea48645040e5bf8cd04"), looks := false }, kinds := [], alts := [], laidByText := true, laidKinds := [.data, .data, .data, .data, .pinned], laidTests := true, laidLooks := .later }
def TraceOriginsCardSaid : Prop := Claim7.holds Tryd.pinned (.plain (OpenSpec.ofChange traceOriginsSpec)) traceOriginsCard

/-- THE TIED CARD OF 'shipyardlaw30.TraceHashes'. -/
def traceHashesCard : Claim7 := { stood := { row := traceHashesRow, standIns := [], harness := (true, "de1e15c8e4c75ccc7d969e7a1dd661219093f82aefa82ea48645040e5bf8cd04"), looks := false }, kinds := [], alts := [], laidByText := true, laidKinds := [.data, .data, .data, .data, .pinned], laidTests := true, laidLooks := .later }
def TraceHashesCardSaid : Prop := Claim7.holds Tryd.pinned (.plain (OpenSpec.ofChange traceHashesSpec)) traceHashesCard

/-- THE TIED CARD OF 'shipyardlaw30.TraceNobody'. -/
def traceNobodyCard : Claim7 := { stood := { row := traceNobodyRow, standIns := [], harness := (true, "de1e15c8e4c75ccc7d969e7a1dd661219093f82aefa82ea48645040e5bf8cd04"), looks := false }, kinds := [], alts := [], laidByText := true, laidKinds := [.data, .data, .data, .data, .pinned], laidTests := true, laidLooks := .later }
def TraceNobodyCardSaid : Prop := Claim7.holds Tryd.pinned (.plain (OpenSpec.ofChange traceNobodySpec)) traceNobodyCard

/-- THE SECOND FORM's CARD OF 'shipyardlaw30.TraceAdds'. -/
def traceAddsUptoCard : Claim7 := { stood := { row := traceAddsUptoRow, standIns := [], harness := (true, "de1e15c8e4c75ccc7d969e7a1dd661219093f82aefa82ea48645040e5bf8cd04"), looks := false }, kinds := [], alts := [], laidByText := true, laidKinds := [.data, .data, .data, .data, .pinned], laidTests := true, laidLooks := .later }
def TraceAddsUptoCardSaid : Prop := Claim7.holds Tryd.pinned (.plain (OpenSpec.upto traceAddsSpec)) traceAddsUptoCard

/-- THE SECOND FORM's CARD OF 'shipyardlaw30.TraceFull'. -/
def traceFullUptoCard : Claim7 := { stood := { row := traceFullUptoRow, standIns := [], harness := (true, "de1e15c8e4c75ccc7d969e7a1dd661219093f82aefa82ea48645040e5bf8cd04"), looks := false }, kinds := [], alts := [], laidByText := true, laidKinds := [.data, .data, .data, .data, .pinned], laidTests := true, laidLooks := .later }
def TraceFullUptoCardSaid : Prop := Claim7.holds Tryd.pinned (.plain (OpenSpec.upto traceFullSpec)) traceFullUptoCard

/-- THE SECOND FORM's CARD OF 'shipyardlaw30.TraceChecks'. -/
def traceChecksUptoCard : Claim7 := { stood := { row := traceChecksUptoRow, standIns := [], harness := (true, "de1e15c8e4c75ccc7d969e7a1dd661219093f82aefa82ea48645040e5bf8cd04"), looks := false }, kinds := [], alts := [], laidByText := true, laidKinds := [.data, .data, .data, .data, .pinned], laidTests := true, laidLooks := .later }
def TraceChecksUptoCardSaid : Prop := Claim7.holds Tryd.pinned (.plain (OpenSpec.upto traceChecksSpec)) traceChecksUptoCard

/-- THE SECOND FORM's CARD OF 'shipyardlaw30.TraceOrigins'. -/
def traceOriginsUptoCard : Claim7 := { stood := { row := traceOriginsUptoRow, standIns := [], harness := (true, "de1e15c8e4c75ccc7d969e7a1dd661219093f82aefa82ea48645040e5bf8cd04"), looks := false }, kinds := [], alts := [], laidByText := true, laidKinds := [.data, .data, .data, .data, .pinned], laidTests := true, laidLooks := .later }
def TraceOriginsUptoCardSaid : Prop := Claim7.holds Tryd.pinned (.plain (OpenSpec.upto traceOriginsSpec)) traceOriginsUptoCard

/-- THE SECOND FORM's CARD OF 'shipyardlaw30.TraceHashes'. -/
def traceHashesUptoCard : Claim7 := { stood := { row := traceHashesUptoRow, standIns := [], harness := (true, "de1e15c8e4c75ccc7d969e7a1dd661219093f82aefa82ea48645040e5bf8cd04"), looks := false }, kinds := [], alts := [], laidByText := true, laidKinds := [.data, .data, .data, .data, .pinned], laidTests := true, laidLooks := .later }
def TraceHashesUptoCardSaid : Prop := Claim7.holds Tryd.pinned (.plain (OpenSpec.upto traceHashesSpec)) traceHashesUptoCard

/-- THE SECOND FORM's CARD OF 'shipyardlaw30.TraceNobody'. -/
def traceNobodyUptoCard : Claim7 := { stood := { row := traceNobodyUptoRow, standIns := [], harness := (true, "de1e15c8e4c75ccc7d969e7a1dd661219093f82aefa82ea48645040e5bf8cd04"), looks := false }, kinds := [], alts := [], laidByText := true, laidKinds := [.data, .data, .data, .data, .pinned], laidTests := true, laidLooks := .later }
def TraceNobodyUptoCardSaid : Prop := Claim7.holds Tryd.pinned (.plain (OpenSpec.upto traceNobodySpec)) traceNobodyUptoCard
end Rows
end Go.Proofs.YtjbegegjpepkjaaDoor
