/-
  DERIVED. GIVEN WITH THE SEED: THE CARDS: each row of YtbjnpiaooehmjaaGreatDoorRows.lean that lists a variable, with what it lists TIED to the program's text (the seventh form; the later family's looks); each row that meets fmt, with fmt's text TOLD by the authors' own Lean function (tested against real Go, not proved from fmt's source: count such statements apart). THE CARD IS WHAT COUNTS. Prove the row's statement (the work); the ties are given (YtbjnpiaooehmjaaGreatDoorTie.lean); close each card by the builder's one call (the guide's Derived/Test/ToyasCard.lean, 'card_holds'). Laid BY PROGRAM, IN A SANDBOX (cutbox-door.mjs). By AI agents, Wed Nov 11 2026. No macro, syntax, notation, axiom, sorry.
-/
import Derived.Test.YtbjnpiaooehmjaaGreatDoorRows
import GoSem.ClaimSeven
namespace Go.Proofs.YtbjnpiaooehmjaaGreatDoor
namespace Rows

/-- THE TIED CARD OF 'shipyardlaw09.CalendarHours'. -/
def calendarHoursCard : Claim7 := { stood := { row := calendarHoursRow, standIns := [], harness := (true, "770725e47c60817a3d2033ddb86e4e7acba3450d8178dc1a8d15fec1b144c1f4"), looks := true }, kinds := [], alts := [], laidByText := true, laidKinds := [.data, .data, .data, .data, .sentinel, .sentinel, .pinned], laidTests := true, laidLooks := .later }
def CalendarHoursCardSaid : Prop := Claim7.holds Tryz.pinned (.plain (OpenSpec.ofChange calendarHoursSpec)) calendarHoursCard

/-- THE TIED CARD OF 'shipyardlaw09.CalendarCounts'. -/
def calendarCountsCard : Claim7 := { stood := { row := calendarCountsRow, standIns := [], harness := (true, "770725e47c60817a3d2033ddb86e4e7acba3450d8178dc1a8d15fec1b144c1f4"), looks := true }, kinds := [], alts := [], laidByText := true, laidKinds := [.data, .data, .data, .data, .sentinel, .sentinel, .pinned], laidTests := true, laidLooks := .later }
def CalendarCountsCardSaid : Prop := Claim7.holds Tryz.pinned (.plain (OpenSpec.ofChange calendarCountsSpec)) calendarCountsCard

/-- THE TIED CARD OF 'shipyardlaw09.CalendarDates'. -/
def calendarDatesCard : Claim7 := { stood := { row := calendarDatesRow, standIns := [], harness := (true, "770725e47c60817a3d2033ddb86e4e7acba3450d8178dc1a8d15fec1b144c1f4"), looks := true }, kinds := [], alts := [], laidByText := true, laidKinds := [.data, .data, .data, .data, .sentinel, .sentinel, .pinned], laidTests := true, laidLooks := .later }
def CalendarDatesCardSaid : Prop := Claim7.holds Tryz.pinned (.plain (OpenSpec.ofChange calendarDatesSpec)) calendarDatesCard

/-- THE TIED CARD OF 'shipyardlaw09.CalendarAdds'. -/
def calendarAddsCard : Claim7 := { stood := { row := calendarAddsRow, standIns := [], harness := (true, "770725e47c60817a3d2033ddb86e4e7acba3450d8178dc1a8d15fec1b144c1f4"), looks := true }, kinds := [], alts := [], laidByText := true, laidKinds := [.data, .data, .data, .data, .sentinel, .sentinel, .pinned], laidTests := true, laidLooks := .later }
def CalendarAddsCardSaid : Prop := Claim7.holds Tryz.pinned (.plain (OpenSpec.ofChange calendarAddsSpec)) calendarAddsCard

/-- THE TIED CARD OF 'shipyardlaw09.CalendarNexts'. -/
def calendarNextsCard : Claim7 := { stood := { row := calendarNextsRow, standIns := [], harness := (true, "770725e47c60817a3d2033ddb86e4e7acba3450d8178dc1a8d15fec1b144c1f4"), looks := true }, kinds := [], alts := [], laidByText := true, laidKinds := [.data, .data, .data, .data, .sentinel, .sentinel, .pinned], laidTests := true, laidLooks := .later }
def CalendarNextsCardSaid : Prop := Claim7.holds Tryz.pinned (.plain (OpenSpec.ofChange calendarNextsSpec)) calendarNextsCard

/-- THE TIED CARD OF 'shipyardlaw09.CalendarWeeks'. -/
def calendarWeeksCard : Claim7 := { stood := { row := calendarWeeksRow, standIns := [], harness := (true, "770725e47c60817a3d2033ddb86e4e7acba3450d8178dc1a8d15fec1b144c1f4"), looks := true }, kinds := [], alts := [], laidByText := true, laidKinds := [.data, .data, .data, .data, .sentinel, .sentinel, .pinned], laidTests := true, laidLooks := .later }
def CalendarWeeksCardSaid : Prop := Claim7.holds Tryz.pinned (.plain (OpenSpec.ofChange calendarWeeksSpec)) calendarWeeksCard

/-- THE SECOND FORM's CARD OF 'shipyardlaw09.CalendarHours'. -/
def calendarHoursUptoCard : Claim7 := { stood := { row := calendarHoursUptoRow, standIns := [], harness := (true, "770725e47c60817a3d2033ddb86e4e7acba3450d8178dc1a8d15fec1b144c1f4"), looks := true }, kinds := [], alts := [], laidByText := true, laidKinds := [.data, .data, .data, .data, .sentinel, .sentinel, .pinned], laidTests := true, laidLooks := .later }
def CalendarHoursUptoCardSaid : Prop := Claim7.holds Tryz.pinned (.plain (OpenSpec.upto calendarHoursSpec)) calendarHoursUptoCard

/-- THE SECOND FORM's CARD OF 'shipyardlaw09.CalendarCounts'. -/
def calendarCountsUptoCard : Claim7 := { stood := { row := calendarCountsUptoRow, standIns := [], harness := (true, "770725e47c60817a3d2033ddb86e4e7acba3450d8178dc1a8d15fec1b144c1f4"), looks := true }, kinds := [], alts := [], laidByText := true, laidKinds := [.data, .data, .data, .data, .sentinel, .sentinel, .pinned], laidTests := true, laidLooks := .later }
def CalendarCountsUptoCardSaid : Prop := Claim7.holds Tryz.pinned (.plain (OpenSpec.upto calendarCountsSpec)) calendarCountsUptoCard

/-- THE SECOND FORM's CARD OF 'shipyardlaw09.CalendarDates'. -/
def calendarDatesUptoCard : Claim7 := { stood := { row := calendarDatesUptoRow, standIns := [], harness := (true, "770725e47c60817a3d2033ddb86e4e7acba3450d8178dc1a8d15fec1b144c1f4"), looks := true }, kinds := [], alts := [], laidByText := true, laidKinds := [.data, .data, .data, .data, .sentinel, .sentinel, .pinned], laidTests := true, laidLooks := .later }
def CalendarDatesUptoCardSaid : Prop := Claim7.holds Tryz.pinned (.plain (OpenSpec.upto calendarDatesSpec)) calendarDatesUptoCard

/-- THE SECOND FORM's CARD OF 'shipyardlaw09.CalendarAdds'. -/
def calendarAddsUptoCard : Claim7 := { stood := { row := calendarAddsUptoRow, standIns := [], harness := (true, "770725e47c60817a3d2033ddb86e4e7acba3450d8178dc1a8d15fec1b144c1f4"), looks := true }, kinds := [], alts := [], laidByText := true, laidKinds := [.data, .data, .data, .data, .sentinel, .sentinel, .pinned], laidTests := true, laidLooks := .later }
def CalendarAddsUptoCardSaid : Prop := Claim7.holds Tryz.pinned (.plain (OpenSpec.upto calendarAddsSpec)) calendarAddsUptoCard

/-- THE SECOND FORM's CARD OF 'shipyardlaw09.CalendarNexts'. -/
def calendarNextsUptoCard : Claim7 := { stood := { row := calendarNextsUptoRow, standIns := [], harness := (true, "770725e47c60817a3d2033ddb86e4e7acba3450d8178dc1a8d15fec1b144c1f4"), looks := true }, kinds := [], alts := [], laidByText := true, laidKinds := [.data, .data, .data, .data, .sentinel, .sentinel, .pinned], laidTests := true, laidLooks := .later }
def CalendarNextsUptoCardSaid : Prop := Claim7.holds Tryz.pinned (.plain (OpenSpec.upto calendarNextsSpec)) calendarNextsUptoCard

/-- THE SECOND FORM's CARD OF 'shipyardlaw09.CalendarWeeks'. -/
def calendarWeeksUptoCard : Claim7 := { stood := { row := calendarWeeksUptoRow, standIns := [], harness := (true, "770725e47c60817a3d2033ddb86e4e7acba3450d8178dc1a8d15fec1b144c1f4"), looks := true }, kinds := [], alts := [], laidByText := true, laidKinds := [.data, .data, .data, .data, .sentinel, .sentinel, .pinned], laidTests := true, laidLooks := .later }
def CalendarWeeksUptoCardSaid : Prop := Claim7.holds Tryz.pinned (.plain (OpenSpec.upto calendarWeeksSpec)) calendarWeeksUptoCard
end Rows
end Go.Proofs.YtbjnpiaooehmjaaGreatDoor
