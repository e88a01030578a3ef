/-
  DERIVED. GIVEN WITH THE SEED: THE CARDS: each row of YtpbmmdoodmbneaaDoorRows.lean that lists a variable, with what it lists TIED to the program's text (the seventh form; the later family's looks); each row that meets fmt, with fmt's text TOLD by the authors' own Lean function (tested against real Go, not proved from fmt's source: count such statements apart). THE CARD IS WHAT COUNTS. Prove the row's statement (the work); the ties are given (YtpbmmdoodmbneaaDoorTie.lean); close each card by the builder's one call (the guide's Derived/Test/ToyasCard.lean, 'card_holds'). Laid BY PROGRAM, IN A SANDBOX (cutbox-door.mjs). By AI agents, Wed Nov 11 2026. No macro, syntax, notation, axiom, sorry.
-/
import Derived.Test.YtpbmmdoodmbneaaDoorRows
import GoSem.ClaimSeven
namespace Go.Proofs.YtpbmmdoodmbneaaDoor
namespace Rows

/-- THE TIED CARD OF 'shipyardlaw40.TransportYards'. -/
def transportYardsCard : Claim7 := { stood := { row := transportYardsRow, standIns := [], harness := (true, "b4421acae059f1ca4469c6d829511a45043f456775c4b7d7e7ec4edbbdce9be1"), looks := false }, kinds := [], alts := [], laidByText := true, laidKinds := [.data, .pinned], laidTests := true, laidLooks := .later }
def TransportYardsCardSaid : Prop := Claim7.holds Tryd.pinned (.plain (OpenSpec.ofChange transportYardsSpec)) transportYardsCard

/-- THE TIED CARD OF 'shipyardlaw40.TransportPlans'. -/
def transportPlansCard : Claim7 := { stood := { row := transportPlansRow, standIns := [], harness := (true, "b4421acae059f1ca4469c6d829511a45043f456775c4b7d7e7ec4edbbdce9be1"), looks := false }, kinds := [], alts := [], laidByText := true, laidKinds := [.data, .pinned], laidTests := true, laidLooks := .later }
def TransportPlansCardSaid : Prop := Claim7.holds Tryd.pinned (.plain (OpenSpec.ofChange transportPlansSpec)) transportPlansCard

/-- THE TIED CARD OF 'shipyardlaw40.TransportValid'. -/
def transportValidCard : Claim7 := { stood := { row := transportValidRow, standIns := [], harness := (true, "b4421acae059f1ca4469c6d829511a45043f456775c4b7d7e7ec4edbbdce9be1"), looks := false }, kinds := [], alts := [], laidByText := true, laidKinds := [.data, .pinned], laidTests := true, laidLooks := .later }
def TransportValidCardSaid : Prop := Claim7.holds Tryd.pinned (.plain (OpenSpec.ofChange transportValidSpec)) transportValidCard

/-- THE TIED CARD OF 'shipyardlaw40.TransportShifts'. -/
def transportShiftsCard : Claim7 := { stood := { row := transportShiftsRow, standIns := [], harness := (true, "b4421acae059f1ca4469c6d829511a45043f456775c4b7d7e7ec4edbbdce9be1"), looks := false }, kinds := [], alts := [], laidByText := true, laidKinds := [.data, .pinned], laidTests := true, laidLooks := .later }
def TransportShiftsCardSaid : Prop := Claim7.holds Tryd.pinned (.plain (OpenSpec.ofChange transportShiftsSpec)) transportShiftsCard

/-- THE TIED CARD OF 'shipyardlaw40.TransportLater'. -/
def transportLaterCard : Claim7 := { stood := { row := transportLaterRow, standIns := [], harness := (true, "b4421acae059f1ca4469c6d829511a45043f456775c4b7d7e7ec4edbbdce9be1"), looks := false }, kinds := [], alts := [], laidByText := true, laidKinds := [.data, .pinned], laidTests := true, laidLooks := .later }
def TransportLaterCardSaid : Prop := Claim7.holds Tryd.pinned (.plain (OpenSpec.ofChange transportLaterSpec)) transportLaterCard

/-- THE TIED CARD OF 'shipyardlaw40.TransportBound'. -/
def transportBoundCard : Claim7 := { stood := { row := transportBoundRow, standIns := [], harness := (true, "b4421acae059f1ca4469c6d829511a45043f456775c4b7d7e7ec4edbbdce9be1"), looks := false }, kinds := [], alts := [], laidByText := true, laidKinds := [.data, .pinned], laidTests := true, laidLooks := .later }
def TransportBoundCardSaid : Prop := Claim7.holds Tryd.pinned (.plain (OpenSpec.ofChange transportBoundSpec)) transportBoundCard

/-- THE SECOND FORM's CARD OF 'shipyardlaw40.TransportYards'. -/
def transportYardsUptoCard : Claim7 := { stood := { row := transportYardsUptoRow, standIns := [], harness := (true, "b4421acae059f1ca4469c6d829511a45043f456775c4b7d7e7ec4edbbdce9be1"), looks := false }, kinds := [], alts := [], laidByText := true, laidKinds := [.data, .pinned], laidTests := true, laidLooks := .later }
def TransportYardsUptoCardSaid : Prop := Claim7.holds Tryd.pinned (.plain (OpenSpec.upto transportYardsSpec)) transportYardsUptoCard

/-- THE SECOND FORM's CARD OF 'shipyardlaw40.TransportPlans'. -/
def transportPlansUptoCard : Claim7 := { stood := { row := transportPlansUptoRow, standIns := [], harness := (true, "b4421acae059f1ca4469c6d829511a45043f456775c4b7d7e7ec4edbbdce9be1"), looks := false }, kinds := [], alts := [], laidByText := true, laidKinds := [.data, .pinned], laidTests := true, laidLooks := .later }
def TransportPlansUptoCardSaid : Prop := Claim7.holds Tryd.pinned (.plain (OpenSpec.upto transportPlansSpec)) transportPlansUptoCard

/-- THE SECOND FORM's CARD OF 'shipyardlaw40.TransportValid'. -/
def transportValidUptoCard : Claim7 := { stood := { row := transportValidUptoRow, standIns := [], harness := (true, "b4421acae059f1ca4469c6d829511a45043f456775c4b7d7e7ec4edbbdce9be1"), looks := false }, kinds := [], alts := [], laidByText := true, laidKinds := [.data, .pinned], laidTests := true, laidLooks := .later }
def TransportValidUptoCardSaid : Prop := Claim7.holds Tryd.pinned (.plain (OpenSpec.upto transportValidSpec)) transportValidUptoCard

/-- THE SECOND FORM's CARD OF 'shipyardlaw40.TransportShifts'. -/
def transportShiftsUptoCard : Claim7 := { stood := { row := transportShiftsUptoRow, standIns := [], harness := (true, "b4421acae059f1ca4469c6d829511a45043f456775c4b7d7e7ec4edbbdce9be1"), looks := false }, kinds := [], alts := [], laidByText := true, laidKinds := [.data, .pinned], laidTests := true, laidLooks := .later }
def TransportShiftsUptoCardSaid : Prop := Claim7.holds Tryd.pinned (.plain (OpenSpec.upto transportShiftsSpec)) transportShiftsUptoCard

/-- THE SECOND FORM's CARD OF 'shipyardlaw40.TransportLater'. -/
def transportLaterUptoCard : Claim7 := { stood := { row := transportLaterUptoRow, standIns := [], harness := (true, "b4421acae059f1ca4469c6d829511a45043f456775c4b7d7e7ec4edbbdce9be1"), looks := false }, kinds := [], alts := [], laidByText := true, laidKinds := [.data, .pinned], laidTests := true, laidLooks := .later }
def TransportLaterUptoCardSaid : Prop := Claim7.holds Tryd.pinned (.plain (OpenSpec.upto transportLaterSpec)) transportLaterUptoCard

/-- THE SECOND FORM's CARD OF 'shipyardlaw40.TransportBound'. -/
def transportBoundUptoCard : Claim7 := { stood := { row := transportBoundUptoRow, standIns := [], harness := (true, "b4421acae059f1ca4469c6d829511a45043f456775c4b7d7e7ec4edbbdce9be1"), looks := false }, kinds := [], alts := [], laidByText := true, laidKinds := [.data, .pinned], laidTests := true, laidLooks := .later }
def TransportBoundUptoCardSaid : Prop := Claim7.holds Tryd.pinned (.plain (OpenSpec.upto transportBoundSpec)) transportBoundUptoCard
end Rows
end Go.Proofs.YtpbmmdoodmbneaaDoor
