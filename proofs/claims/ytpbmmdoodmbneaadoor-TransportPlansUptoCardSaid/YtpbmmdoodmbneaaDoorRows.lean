/-
  NARROWER THAN 'FOR EVERY INPUT', by the rows' own cells (each row's printed sentence says how): TransportYards: laid · TransportPlans: laid · TransportValid: laid · TransportShifts: laid · TransportLater: laid · TransportBound: laid.
  DERIVED. THE GIVEN ROWS OF THIS SEAT. 6 by the template 'for every input the law returns true; each argument reads behind the call as it read before'; 0 by the template 'total and deterministic' (their statements: YtpbmmdoodmbneaaDoorTotals.lean).
  GIVEN WITH THE SEED: the statements are not yours to turn. If you find one false, say at which input.
  Laid BY PROGRAM, IN A SANDBOX (cutbox-rows.mjs): the forced cells as the released guide's own fill.sh prints them over the translation d8f28c3c606826b3… (all of the seat's roots in one cut). By AI agents, Wed Nov 11 2026. No macro, syntax, notation, axiom, sorry.
-/
import Derived.Test.YtpbmmdoodmbneaaDoorChecked
import GoSem.PinnedTables
import GoSem.Claim
import GoSem.ClaimJoined
import GoSem.ClaimMapViews
import Derived.JoinedTies
import Derived.KernelRfl
namespace Go.Proofs.YtpbmmdoodmbneaaDoor
/- THE CELL 'sum', in the pinned program and in every row, IS THE sha256 OF THE DUMP (.gsa) THAT YtpbmmdoodmbneaaDoorProg.lean LOADS. Nothing in Lean hashes anything: it is a label: what it is worth is what the hold of that sum in a sandbox is worth. -/
noncomputable def Tryd.pinned : Pinned := { name := "ytpbmmdoodmbneaadoor", sum := "d8f28c3c606826b3f83788f6b6345a89cba6ee32238ffd670f143068a657e1c3", checked := Tryd.checked }
namespace Rows
def none {H : Type} : Left H := { results := [], args := [] }

/- WHAT THE LISTED PACKAGE-LEVEL VARIABLES READ AS WHEN THE CALL BEGINS. Each datum BY PROGRAM (the guide's laid-datum.mjs) off the statement by which the dump's own 'gosem.cut.vars' lays the variable. In a bare row this is a premise. The card (YtpbmmdoodmbneaaDoorCards.lean) ties it to the program's text. -/
def laid_unicode_utf8_acceptRanges {H : Type} : DataW H := .agg [.agg [.lit (.int .u8 128), .lit (.int .u8 191)], .agg [.lit (.int .u8 160), .lit (.int .u8 191)], .agg [.lit (.int .u8 128), .lit (.int .u8 159)], .agg [.lit (.int .u8 144), .lit (.int .u8 191)], .agg [.lit (.int .u8 128), .lit (.int .u8 143)], .agg [.lit (.int .u8 0), .lit (.int .u8 0)], .agg [.lit (.int .u8 0), .lit (.int .u8 0)], .agg [.lit (.int .u8 0), .lit (.int .u8 0)], .agg [.lit (.int .u8 0), .lit (.int .u8 0)], .agg [.lit (.int .u8 0), .lit (.int .u8 0)], .agg [.lit (.int .u8 0), .lit (.int .u8 0)], .agg [.lit (.int .u8 0), .lit (.int .u8 0)], .agg [.lit (.int .u8 0), .lit (.int .u8 0)], .agg [.lit (.int .u8 0), .lit (.int .u8 0)], .agg [.lit (.int .u8 0), .lit (.int .u8 0)], .agg [.lit (.int .u8 0), .lit (.int .u8 0)]]
/-- One of Go's own tables, pinned by name: the form's constant. -/
def laid_unicode_utf8_first : DataW Unit := Go.Pinned.utf8First

/-- 'shipyardlaw40.TransportYards': WHATEVER THE INPUT: true; the input reads as it did. -/
def transportYardsSpec : ChangeSpec := { name := "transportYards", fn := fun _ => fun
  | [d1, d2, d3] => { results := [.lit (.bool true)], args := [d1, d2, d3] }
  | _ => none }
def transportYardsRow : OpenClaim := { program := "ytpbmmdoodmbneaadoor", sum := "d8f28c3c606826b3f83788f6b6345a89cba6ee32238ffd670f143068a657e1c3", func := "shipyard/shipyardlaw40.TransportYards", spec := "transportYards", inPlace := ["internal/bytealg.CountString", "internal/bytealg.IndexByteString", "internal/bytealg.IndexString"], unfollowed := true, recurses := true, named := ["unicode/utf8.first", "unicode/utf8.acceptRanges", "internal/bytealg.MaxLen"], apart := false, laid := [("unicode/utf8.acceptRanges", laid_unicode_utf8_acceptRanges), ("unicode/utf8.first", laid_unicode_utf8_first)] }
def TransportYardsSaid : Prop := transportYardsRow.holds Tryd.pinned (OpenSpec.ofChange transportYardsSpec)

/-- ITS FALSE NEIGHBOUR: 'it returns false'. Refute it at one input. -/
def transportYardsWrong : ChangeSpec := { name := "transportYards", fn := fun _ => fun
  | [d1, d2, d3] => { results := [.lit (.bool false)], args := [d1, d2, d3] }
  | _ => none }
def TransportYardsWrongFalsely : Prop := transportYardsRow.holds Tryd.pinned (OpenSpec.ofChange transportYardsWrong)

/-- 'shipyardlaw40.TransportPlans': WHATEVER THE INPUT: true; the input reads as it did. -/
def transportPlansSpec : ChangeSpec := { name := "transportPlans", fn := fun _ => fun
  | [d] => { results := [.lit (.bool true)], args := [d] }
  | _ => none }
def transportPlansRow : OpenClaim := { program := "ytpbmmdoodmbneaadoor", sum := "d8f28c3c606826b3f83788f6b6345a89cba6ee32238ffd670f143068a657e1c3", func := "shipyard/shipyardlaw40.TransportPlans", spec := "transportPlans", inPlace := ["internal/bytealg.CountString", "internal/bytealg.IndexByteString", "internal/bytealg.IndexString"], unfollowed := true, recurses := true, named := ["unicode/utf8.first", "unicode/utf8.acceptRanges", "internal/bytealg.MaxLen"], apart := false, laid := [("unicode/utf8.acceptRanges", laid_unicode_utf8_acceptRanges), ("unicode/utf8.first", laid_unicode_utf8_first)] }
def TransportPlansSaid : Prop := transportPlansRow.holds Tryd.pinned (OpenSpec.ofChange transportPlansSpec)

/-- ITS FALSE NEIGHBOUR: 'it returns false'. Refute it at one input. -/
def transportPlansWrong : ChangeSpec := { name := "transportPlans", fn := fun _ => fun
  | [d] => { results := [.lit (.bool false)], args := [d] }
  | _ => none }
def TransportPlansWrongFalsely : Prop := transportPlansRow.holds Tryd.pinned (OpenSpec.ofChange transportPlansWrong)

/-- 'shipyardlaw40.TransportValid': WHATEVER THE INPUT: true; the input reads as it did. -/
def transportValidSpec : ChangeSpec := { name := "transportValid", fn := fun _ => fun
  | [d] => { results := [.lit (.bool true)], args := [d] }
  | _ => none }
def transportValidRow : OpenClaim := { program := "ytpbmmdoodmbneaadoor", sum := "d8f28c3c606826b3f83788f6b6345a89cba6ee32238ffd670f143068a657e1c3", func := "shipyard/shipyardlaw40.TransportValid", spec := "transportValid", inPlace := ["internal/bytealg.CountString", "internal/bytealg.IndexByteString", "internal/bytealg.IndexString"], unfollowed := true, recurses := true, named := ["unicode/utf8.first", "unicode/utf8.acceptRanges", "internal/bytealg.MaxLen"], apart := false, laid := [("unicode/utf8.acceptRanges", laid_unicode_utf8_acceptRanges), ("unicode/utf8.first", laid_unicode_utf8_first)] }
def TransportValidSaid : Prop := transportValidRow.holds Tryd.pinned (OpenSpec.ofChange transportValidSpec)

/-- ITS FALSE NEIGHBOUR: 'it returns false'. Refute it at one input. -/
def transportValidWrong : ChangeSpec := { name := "transportValid", fn := fun _ => fun
  | [d] => { results := [.lit (.bool false)], args := [d] }
  | _ => none }
def TransportValidWrongFalsely : Prop := transportValidRow.holds Tryd.pinned (OpenSpec.ofChange transportValidWrong)

/-- 'shipyardlaw40.TransportShifts': WHATEVER THE INPUT: true; the input reads as it did. -/
def transportShiftsSpec : ChangeSpec := { name := "transportShifts", fn := fun _ => fun
  | [d1, d2, d3] => { results := [.lit (.bool true)], args := [d1, d2, d3] }
  | _ => none }
def transportShiftsRow : OpenClaim := { program := "ytpbmmdoodmbneaadoor", sum := "d8f28c3c606826b3f83788f6b6345a89cba6ee32238ffd670f143068a657e1c3", func := "shipyard/shipyardlaw40.TransportShifts", spec := "transportShifts", inPlace := ["internal/bytealg.CountString", "internal/bytealg.IndexByteString", "internal/bytealg.IndexString"], unfollowed := true, recurses := true, named := ["unicode/utf8.first", "unicode/utf8.acceptRanges", "internal/bytealg.MaxLen"], apart := false, laid := [("unicode/utf8.acceptRanges", laid_unicode_utf8_acceptRanges), ("unicode/utf8.first", laid_unicode_utf8_first)] }
def TransportShiftsSaid : Prop := transportShiftsRow.holds Tryd.pinned (OpenSpec.ofChange transportShiftsSpec)

/-- ITS FALSE NEIGHBOUR: 'it returns false'. Refute it at one input. -/
def transportShiftsWrong : ChangeSpec := { name := "transportShifts", fn := fun _ => fun
  | [d1, d2, d3] => { results := [.lit (.bool false)], args := [d1, d2, d3] }
  | _ => none }
def TransportShiftsWrongFalsely : Prop := transportShiftsRow.holds Tryd.pinned (OpenSpec.ofChange transportShiftsWrong)

/-- 'shipyardlaw40.TransportLater': WHATEVER THE INPUT: true; the input reads as it did. -/
def transportLaterSpec : ChangeSpec := { name := "transportLater", fn := fun _ => fun
  | [d1, d2, d3] => { results := [.lit (.bool true)], args := [d1, d2, d3] }
  | _ => none }
def transportLaterRow : OpenClaim := { program := "ytpbmmdoodmbneaadoor", sum := "d8f28c3c606826b3f83788f6b6345a89cba6ee32238ffd670f143068a657e1c3", func := "shipyard/shipyardlaw40.TransportLater", spec := "transportLater", inPlace := ["internal/bytealg.CountString", "internal/bytealg.IndexByteString", "internal/bytealg.IndexString"], unfollowed := true, recurses := true, named := ["unicode/utf8.first", "unicode/utf8.acceptRanges", "internal/bytealg.MaxLen"], apart := false, laid := [("unicode/utf8.acceptRanges", laid_unicode_utf8_acceptRanges), ("unicode/utf8.first", laid_unicode_utf8_first)] }
def TransportLaterSaid : Prop := transportLaterRow.holds Tryd.pinned (OpenSpec.ofChange transportLaterSpec)

/-- ITS FALSE NEIGHBOUR: 'it returns false'. Refute it at one input. -/
def transportLaterWrong : ChangeSpec := { name := "transportLater", fn := fun _ => fun
  | [d1, d2, d3] => { results := [.lit (.bool false)], args := [d1, d2, d3] }
  | _ => none }
def TransportLaterWrongFalsely : Prop := transportLaterRow.holds Tryd.pinned (OpenSpec.ofChange transportLaterWrong)

/-- 'shipyardlaw40.TransportBound': WHATEVER THE INPUT: true; the input reads as it did. -/
def transportBoundSpec : ChangeSpec := { name := "transportBound", fn := fun _ => fun
  | [d1, d2] => { results := [.lit (.bool true)], args := [d1, d2] }
  | _ => none }
def transportBoundRow : OpenClaim := { program := "ytpbmmdoodmbneaadoor", sum := "d8f28c3c606826b3f83788f6b6345a89cba6ee32238ffd670f143068a657e1c3", func := "shipyard/shipyardlaw40.TransportBound", spec := "transportBound", inPlace := ["internal/bytealg.CountString", "internal/bytealg.IndexByteString", "internal/bytealg.IndexString"], unfollowed := true, recurses := true, named := ["unicode/utf8.first", "unicode/utf8.acceptRanges", "internal/bytealg.MaxLen"], apart := false, laid := [("unicode/utf8.acceptRanges", laid_unicode_utf8_acceptRanges), ("unicode/utf8.first", laid_unicode_utf8_first)] }
def TransportBoundSaid : Prop := transportBoundRow.holds Tryd.pinned (OpenSpec.ofChange transportBoundSpec)

/-- ITS FALSE NEIGHBOUR: 'it returns false'. Refute it at one input. -/
def transportBoundWrong : ChangeSpec := { name := "transportBound", fn := fun _ => fun
  | [d1, d2] => { results := [.lit (.bool false)], args := [d1, d2] }
  | _ => none }
def TransportBoundWrongFalsely : Prop := transportBoundRow.holds Tryd.pinned (OpenSpec.ofChange transportBoundWrong)

/- THE SECOND FORM. 'bulk': how many values and letters a reading holds, each counted each time it is reached (what is shared counts as often as it is met; a slice's spare places count too). A statement '..UptoSaid' is the law's where the arguments, and the package variables that the reading takes, are together of bulk at most 1048576: NARROWER than '..Said'. Prove '..Said' where nothing that the law and all that it calls make is longer than what came in: it says more and counts as full. Else prove '..UptoSaid'. A law counts once. -/
mutual
def uptoBulk {H : Type} : DataW H → Nat
  | .lit (.string bytes) => bytes.length + 1
  | .lit _ => 1
  | .nil => 1
  | .ptr d => uptoBulk d + 1
  | .slice elems spare => uptoBulkAll elems + uptoBulkAll spare + 1
  | .agg parts => uptoBulkAll parts + 1
  | .iface _ d => uptoBulk d + 1
  | .map entries => uptoBulkEntries entries + 1
  | .held _ => 1
def uptoBulkAll {H : Type} : List (DataW H) → Nat
  | [] => 0
  | d :: r => uptoBulk d + uptoBulkAll r
def uptoBulkEntries {H : Type} : List (Lit × DataW H) → Nat
  | [] => 0
  | x :: r => uptoBulkEntry x + uptoBulkEntries r
def uptoBulkEntry {H : Type} : Lit × DataW H → Nat
  | (.string bytes, d) => bytes.length + uptoBulk d + 1
  | (_, d) => uptoBulk d + 1
 end
def uptoSmall : (H : Type) → List (DataW H) → Bool := fun _ ds => decide (uptoBulkAll ds ≤ 1048576)
def OpenSpec.upto (s : _root_.Go.ChangeSpec) : _root_.Go.OpenSpec := { _root_.Go.OpenSpec.ofChange s with cond := some uptoSmall }

/-- 'shipyardlaw40.TransportYards', WHERE WHAT IT READS IS OF BULK AT MOST 1048576: true; the input reads as it did. -/
def transportYardsUptoRow : OpenClaim := { program := "ytpbmmdoodmbneaadoor", sum := "d8f28c3c606826b3f83788f6b6345a89cba6ee32238ffd670f143068a657e1c3", func := "shipyard/shipyardlaw40.TransportYards", spec := "transportYards", inPlace := ["internal/bytealg.CountString", "internal/bytealg.IndexByteString", "internal/bytealg.IndexString"], unfollowed := true, recurses := true, named := ["unicode/utf8.first", "unicode/utf8.acceptRanges", "internal/bytealg.MaxLen"], apart := false, laid := [("unicode/utf8.acceptRanges", laid_unicode_utf8_acceptRanges), ("unicode/utf8.first", laid_unicode_utf8_first)], narrowed := true }
def TransportYardsUptoSaid : Prop := transportYardsUptoRow.holds Tryd.pinned (OpenSpec.upto transportYardsSpec)

/-- 'shipyardlaw40.TransportPlans', WHERE WHAT IT READS IS OF BULK AT MOST 1048576: true; the input reads as it did. -/
def transportPlansUptoRow : OpenClaim := { program := "ytpbmmdoodmbneaadoor", sum := "d8f28c3c606826b3f83788f6b6345a89cba6ee32238ffd670f143068a657e1c3", func := "shipyard/shipyardlaw40.TransportPlans", spec := "transportPlans", inPlace := ["internal/bytealg.CountString", "internal/bytealg.IndexByteString", "internal/bytealg.IndexString"], unfollowed := true, recurses := true, named := ["unicode/utf8.first", "unicode/utf8.acceptRanges", "internal/bytealg.MaxLen"], apart := false, laid := [("unicode/utf8.acceptRanges", laid_unicode_utf8_acceptRanges), ("unicode/utf8.first", laid_unicode_utf8_first)], narrowed := true }
def TransportPlansUptoSaid : Prop := transportPlansUptoRow.holds Tryd.pinned (OpenSpec.upto transportPlansSpec)

/-- 'shipyardlaw40.TransportValid', WHERE WHAT IT READS IS OF BULK AT MOST 1048576: true; the input reads as it did. -/
def transportValidUptoRow : OpenClaim := { program := "ytpbmmdoodmbneaadoor", sum := "d8f28c3c606826b3f83788f6b6345a89cba6ee32238ffd670f143068a657e1c3", func := "shipyard/shipyardlaw40.TransportValid", spec := "transportValid", inPlace := ["internal/bytealg.CountString", "internal/bytealg.IndexByteString", "internal/bytealg.IndexString"], unfollowed := true, recurses := true, named := ["unicode/utf8.first", "unicode/utf8.acceptRanges", "internal/bytealg.MaxLen"], apart := false, laid := [("unicode/utf8.acceptRanges", laid_unicode_utf8_acceptRanges), ("unicode/utf8.first", laid_unicode_utf8_first)], narrowed := true }
def TransportValidUptoSaid : Prop := transportValidUptoRow.holds Tryd.pinned (OpenSpec.upto transportValidSpec)

/-- 'shipyardlaw40.TransportShifts', WHERE WHAT IT READS IS OF BULK AT MOST 1048576: true; the input reads as it did. -/
def transportShiftsUptoRow : OpenClaim := { program := "ytpbmmdoodmbneaadoor", sum := "d8f28c3c606826b3f83788f6b6345a89cba6ee32238ffd670f143068a657e1c3", func := "shipyard/shipyardlaw40.TransportShifts", spec := "transportShifts", inPlace := ["internal/bytealg.CountString", "internal/bytealg.IndexByteString", "internal/bytealg.IndexString"], unfollowed := true, recurses := true, named := ["unicode/utf8.first", "unicode/utf8.acceptRanges", "internal/bytealg.MaxLen"], apart := false, laid := [("unicode/utf8.acceptRanges", laid_unicode_utf8_acceptRanges), ("unicode/utf8.first", laid_unicode_utf8_first)], narrowed := true }
def TransportShiftsUptoSaid : Prop := transportShiftsUptoRow.holds Tryd.pinned (OpenSpec.upto transportShiftsSpec)

/-- 'shipyardlaw40.TransportLater', WHERE WHAT IT READS IS OF BULK AT MOST 1048576: true; the input reads as it did. -/
def transportLaterUptoRow : OpenClaim := { program := "ytpbmmdoodmbneaadoor", sum := "d8f28c3c606826b3f83788f6b6345a89cba6ee32238ffd670f143068a657e1c3", func := "shipyard/shipyardlaw40.TransportLater", spec := "transportLater", inPlace := ["internal/bytealg.CountString", "internal/bytealg.IndexByteString", "internal/bytealg.IndexString"], unfollowed := true, recurses := true, named := ["unicode/utf8.first", "unicode/utf8.acceptRanges", "internal/bytealg.MaxLen"], apart := false, laid := [("unicode/utf8.acceptRanges", laid_unicode_utf8_acceptRanges), ("unicode/utf8.first", laid_unicode_utf8_first)], narrowed := true }
def TransportLaterUptoSaid : Prop := transportLaterUptoRow.holds Tryd.pinned (OpenSpec.upto transportLaterSpec)

/-- 'shipyardlaw40.TransportBound', WHERE WHAT IT READS IS OF BULK AT MOST 1048576: true; the input reads as it did. -/
def transportBoundUptoRow : OpenClaim := { program := "ytpbmmdoodmbneaadoor", sum := "d8f28c3c606826b3f83788f6b6345a89cba6ee32238ffd670f143068a657e1c3", func := "shipyard/shipyardlaw40.TransportBound", spec := "transportBound", inPlace := ["internal/bytealg.CountString", "internal/bytealg.IndexByteString", "internal/bytealg.IndexString"], unfollowed := true, recurses := true, named := ["unicode/utf8.first", "unicode/utf8.acceptRanges", "internal/bytealg.MaxLen"], apart := false, laid := [("unicode/utf8.acceptRanges", laid_unicode_utf8_acceptRanges), ("unicode/utf8.first", laid_unicode_utf8_first)], narrowed := true }
def TransportBoundUptoSaid : Prop := transportBoundUptoRow.holds Tryd.pinned (OpenSpec.upto transportBoundSpec)

end Rows
end Go.Proofs.YtpbmmdoodmbneaaDoor
