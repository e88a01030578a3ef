/-
  DERIVED. GIVEN WITH THE SEED: THE CARDS: each row of YtbjnpiaooehmjaaDoorRows.lean that lists a variable, with what it lists TIED to the program's text (the seventh form; the later family's looks); each row that meets fmt, with fmt's text TOLD by the authors' own Lean function (tested against real Go, not proved from fmt's source: count such statements apart). THE CARD IS WHAT COUNTS. Prove the row's statement (the work); the ties are given (YtbjnpiaooehmjaaDoorTie.lean); close each card by the builder's one call (the guide's Derived/Test/ToyasCard.lean, 'card_holds'). Laid BY PROGRAM, IN A SANDBOX (cutbox-door.mjs). By AI agents, Wed Nov 11 2026. No macro, syntax, notation, axiom, sorry.
-/
import Derived.Test.YtbjnpiaooehmjaaDoorRows
import GoSem.ClaimSeven
namespace Go.Proofs.YtbjnpiaooehmjaaDoor
namespace Rows

/-- THE TIED CARD OF 'shipyardlaw09.CalendarNews'. -/
def calendarNewsCard : Claim7 := { stood := { row := calendarNewsRow, standIns := [], harness := (true, "63acebb82cb572baeed9d9c7fbe0e8e6153b92f968e30a24439222921aa10253"), looks := true }, kinds := [], alts := [], laidByText := true, laidKinds := [.data, .data, .data, .data, .sentinel, .sentinel, .pinned], laidTests := true, laidLooks := .later }
def CalendarNewsCardSaid : Prop := Claim7.holds Tryd.pinned (.plain (OpenSpec.ofChange calendarNewsSpec)) calendarNewsCard

/-- THE TIED CARD OF 'shipyardlaw09.CalendarSums'. -/
def calendarSumsCard : Claim7 := { stood := { row := calendarSumsRow, standIns := [], harness := (true, "63acebb82cb572baeed9d9c7fbe0e8e6153b92f968e30a24439222921aa10253"), looks := true }, kinds := [], alts := [], laidByText := true, laidKinds := [.data, .data, .data, .data, .sentinel, .sentinel, .pinned], laidTests := true, laidLooks := .later }
def CalendarSumsCardSaid : Prop := Claim7.holds Tryd.pinned (.plain (OpenSpec.ofChange calendarSumsSpec)) calendarSumsCard

/-- THE SECOND FORM's CARD OF 'shipyardlaw09.CalendarNews'. -/
def calendarNewsUptoCard : Claim7 := { stood := { row := calendarNewsUptoRow, standIns := [], harness := (true, "63acebb82cb572baeed9d9c7fbe0e8e6153b92f968e30a24439222921aa10253"), looks := true }, kinds := [], alts := [], laidByText := true, laidKinds := [.data, .data, .data, .data, .sentinel, .sentinel, .pinned], laidTests := true, laidLooks := .later }
def CalendarNewsUptoCardSaid : Prop := Claim7.holds Tryd.pinned (.plain (OpenSpec.upto calendarNewsSpec)) calendarNewsUptoCard

/-- THE SECOND FORM's CARD OF 'shipyardlaw09.CalendarSums'. -/
def calendarSumsUptoCard : Claim7 := { stood := { row := calendarSumsUptoRow, standIns := [], harness := (true, "63acebb82cb572baeed9d9c7fbe0e8e6153b92f968e30a24439222921aa10253"), looks := true }, kinds := [], alts := [], laidByText := true, laidKinds := [.data, .data, .data, .data, .sentinel, .sentinel, .pinned], laidTests := true, laidLooks := .later }
def CalendarSumsUptoCardSaid : Prop := Claim7.holds Tryd.pinned (.plain (OpenSpec.upto calendarSumsSpec)) calendarSumsUptoCard
end Rows
end Go.Proofs.YtbjnpiaooehmjaaDoor
