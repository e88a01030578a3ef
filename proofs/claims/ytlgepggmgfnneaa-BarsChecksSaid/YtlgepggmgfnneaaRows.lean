/-
  No cell of these rows narrows 'for every input' (looked for: loops, veiled, ifaces, maps, wideKeys, modest, calm, conditions, laid).
  DERIVED. THE GIVEN ROWS OF THIS SEAT. 8 by the template 'for every input the law returns true; each argument reads behind the call as it read before'; 0 by the template 'total and deterministic' (their statements: YtlgepggmgfnneaaTotals.lean).
  GIVEN WITH THE SEED: the statements are not yours to turn. If you find one false, say at which input.
  Laid BY PROGRAM, IN A SANDBOX (cutbox-rows.mjs): the forced cells as the released guide's own fill.sh prints them over the translation aa26ecbddb64bf44… (all of the seat's roots in one cut). By AI agents, Wed Nov 11 2026. No macro, syntax, notation, axiom, sorry.
-/
import Derived.Test.YtlgepggmgfnneaaChecked
import GoSem.Claim
import GoSem.ClaimJoined
import GoSem.ClaimMapViews
import Derived.JoinedTies
import Derived.KernelRfl
namespace Go.Proofs.Ytlgepggmgfnneaa
/- THE CELL 'sum', in the pinned program and in every row, IS THE sha256 OF THE DUMP (.gsa) THAT YtlgepggmgfnneaaProg.lean LOADS. Nothing in Lean hashes anything: it is a label: what it is worth is what the hold of that sum in a sandbox is worth. -/
noncomputable def Try.pinned : Pinned := { name := "ytlgepggmgfnneaa", sum := "aa26ecbddb64bf44d95c92f7f750c6454cd9ca6b7f402dcb5224f32537b5f175", checked := Try.checked }
namespace Rows
def none {H : Type} : Left H := { results := [], args := [] }

/-- 'shipyardlaw25.BarsChecks': WHATEVER THE INPUT: true; the input reads as it did. -/
def barsChecksSpec : ChangeSpec := { name := "barsChecks", fn := fun _ => fun
  | [d] => { results := [.lit (.bool true)], args := [d] }
  | _ => none }
def barsChecksRow : OpenClaim := { program := "ytlgepggmgfnneaa", sum := "aa26ecbddb64bf44d95c92f7f750c6454cd9ca6b7f402dcb5224f32537b5f175", func := "shipyard/shipyardlaw25.BarsChecks", spec := "barsChecks", unfollowed := true, recurses := true, apart := false }
def BarsChecksSaid : Prop := barsChecksRow.holds Try.pinned (OpenSpec.ofChange barsChecksSpec)

/-- ITS FALSE NEIGHBOUR: 'it returns false'. Refute it at one input. -/
def barsChecksWrong : ChangeSpec := { name := "barsChecks", fn := fun _ => fun
  | [d] => { results := [.lit (.bool false)], args := [d] }
  | _ => none }
def BarsChecksWrongFalsely : Prop := barsChecksRow.holds Try.pinned (OpenSpec.ofChange barsChecksWrong)

/-- 'shipyardlaw25.BarsBounds': WHATEVER THE INPUT: true; the input reads as it did. -/
def barsBoundsSpec : ChangeSpec := { name := "barsBounds", fn := fun _ => fun
  | [d1, d2, d3] => { results := [.lit (.bool true)], args := [d1, d2, d3] }
  | _ => none }
def barsBoundsRow : OpenClaim := { program := "ytlgepggmgfnneaa", sum := "aa26ecbddb64bf44d95c92f7f750c6454cd9ca6b7f402dcb5224f32537b5f175", func := "shipyard/shipyardlaw25.BarsBounds", spec := "barsBounds", unfollowed := true, recurses := true, apart := false }
def BarsBoundsSaid : Prop := barsBoundsRow.holds Try.pinned (OpenSpec.ofChange barsBoundsSpec)

/-- ITS FALSE NEIGHBOUR: 'it returns false'. Refute it at one input. -/
def barsBoundsWrong : ChangeSpec := { name := "barsBounds", fn := fun _ => fun
  | [d1, d2, d3] => { results := [.lit (.bool false)], args := [d1, d2, d3] }
  | _ => none }
def BarsBoundsWrongFalsely : Prop := barsBoundsRow.holds Try.pinned (OpenSpec.ofChange barsBoundsWrong)

/-- 'shipyardlaw25.BarsGreedy': WHATEVER THE INPUT: true; the input reads as it did. -/
def barsGreedySpec : ChangeSpec := { name := "barsGreedy", fn := fun _ => fun
  | [d1, d2, d3] => { results := [.lit (.bool true)], args := [d1, d2, d3] }
  | _ => none }
def barsGreedyRow : OpenClaim := { program := "ytlgepggmgfnneaa", sum := "aa26ecbddb64bf44d95c92f7f750c6454cd9ca6b7f402dcb5224f32537b5f175", func := "shipyard/shipyardlaw25.BarsGreedy", spec := "barsGreedy", unfollowed := true, recurses := true, apart := false }
def BarsGreedySaid : Prop := barsGreedyRow.holds Try.pinned (OpenSpec.ofChange barsGreedySpec)

/-- ITS FALSE NEIGHBOUR: 'it returns false'. Refute it at one input. -/
def barsGreedyWrong : ChangeSpec := { name := "barsGreedy", fn := fun _ => fun
  | [d1, d2, d3] => { results := [.lit (.bool false)], args := [d1, d2, d3] }
  | _ => none }
def BarsGreedyWrongFalsely : Prop := barsGreedyRow.holds Try.pinned (OpenSpec.ofChange barsGreedyWrong)

/-- 'shipyardlaw25.BarsBest': WHATEVER THE INPUT: true; the input reads as it did. -/
def barsBestSpec : ChangeSpec := { name := "barsBest", fn := fun _ => fun
  | [d1, d2, d3] => { results := [.lit (.bool true)], args := [d1, d2, d3] }
  | _ => none }
def barsBestRow : OpenClaim := { program := "ytlgepggmgfnneaa", sum := "aa26ecbddb64bf44d95c92f7f750c6454cd9ca6b7f402dcb5224f32537b5f175", func := "shipyard/shipyardlaw25.BarsBest", spec := "barsBest", unfollowed := true, recurses := true, apart := false }
def BarsBestSaid : Prop := barsBestRow.holds Try.pinned (OpenSpec.ofChange barsBestSpec)

/-- ITS FALSE NEIGHBOUR: 'it returns false'. Refute it at one input. -/
def barsBestWrong : ChangeSpec := { name := "barsBest", fn := fun _ => fun
  | [d1, d2, d3] => { results := [.lit (.bool false)], args := [d1, d2, d3] }
  | _ => none }
def BarsBestWrongFalsely : Prop := barsBestRow.holds Try.pinned (OpenSpec.ofChange barsBestWrong)

/-- 'shipyardlaw25.BarsRight': WHATEVER THE INPUT: true; the input reads as it did. -/
def barsRightSpec : ChangeSpec := { name := "barsRight", fn := fun _ => fun
  | [d1, d2, d3] => { results := [.lit (.bool true)], args := [d1, d2, d3] }
  | _ => none }
def barsRightRow : OpenClaim := { program := "ytlgepggmgfnneaa", sum := "aa26ecbddb64bf44d95c92f7f750c6454cd9ca6b7f402dcb5224f32537b5f175", func := "shipyard/shipyardlaw25.BarsRight", spec := "barsRight", unfollowed := true, recurses := true, apart := false }
def BarsRightSaid : Prop := barsRightRow.holds Try.pinned (OpenSpec.ofChange barsRightSpec)

/-- ITS FALSE NEIGHBOUR: 'it returns false'. Refute it at one input. -/
def barsRightWrong : ChangeSpec := { name := "barsRight", fn := fun _ => fun
  | [d1, d2, d3] => { results := [.lit (.bool false)], args := [d1, d2, d3] }
  | _ => none }
def BarsRightWrongFalsely : Prop := barsRightRow.holds Try.pinned (OpenSpec.ofChange barsRightWrong)

/-- 'shipyardlaw25.BarsLeast': WHATEVER THE INPUT: true; the input reads as it did. -/
def barsLeastSpec : ChangeSpec := { name := "barsLeast", fn := fun _ => fun
  | [d] => { results := [.lit (.bool true)], args := [d] }
  | _ => none }
def barsLeastRow : OpenClaim := { program := "ytlgepggmgfnneaa", sum := "aa26ecbddb64bf44d95c92f7f750c6454cd9ca6b7f402dcb5224f32537b5f175", func := "shipyard/shipyardlaw25.BarsLeast", spec := "barsLeast", unfollowed := true, recurses := true, apart := false }
def BarsLeastSaid : Prop := barsLeastRow.holds Try.pinned (OpenSpec.ofChange barsLeastSpec)

/-- ITS FALSE NEIGHBOUR: 'it returns false'. Refute it at one input. -/
def barsLeastWrong : ChangeSpec := { name := "barsLeast", fn := fun _ => fun
  | [d] => { results := [.lit (.bool false)], args := [d] }
  | _ => none }
def BarsLeastWrongFalsely : Prop := barsLeastRow.holds Try.pinned (OpenSpec.ofChange barsLeastWrong)

/-- 'shipyardlaw25.BarsOrder': WHATEVER THE INPUT: true; the input reads as it did. -/
def barsOrderSpec : ChangeSpec := { name := "barsOrder", fn := fun _ => fun
  | [d1, d2, d3] => { results := [.lit (.bool true)], args := [d1, d2, d3] }
  | _ => none }
def barsOrderRow : OpenClaim := { program := "ytlgepggmgfnneaa", sum := "aa26ecbddb64bf44d95c92f7f750c6454cd9ca6b7f402dcb5224f32537b5f175", func := "shipyard/shipyardlaw25.BarsOrder", spec := "barsOrder", unfollowed := true, recurses := true, apart := false }
def BarsOrderSaid : Prop := barsOrderRow.holds Try.pinned (OpenSpec.ofChange barsOrderSpec)

/-- ITS FALSE NEIGHBOUR: 'it returns false'. Refute it at one input. -/
def barsOrderWrong : ChangeSpec := { name := "barsOrder", fn := fun _ => fun
  | [d1, d2, d3] => { results := [.lit (.bool false)], args := [d1, d2, d3] }
  | _ => none }
def BarsOrderWrongFalsely : Prop := barsOrderRow.holds Try.pinned (OpenSpec.ofChange barsOrderWrong)

/-- 'shipyardlaw25.BarsSaws': WHATEVER THE INPUT: true; the input reads as it did. -/
def barsSawsSpec : ChangeSpec := { name := "barsSaws", fn := fun _ => fun
  | [d1, d2, d3] => { results := [.lit (.bool true)], args := [d1, d2, d3] }
  | _ => none }
def barsSawsRow : OpenClaim := { program := "ytlgepggmgfnneaa", sum := "aa26ecbddb64bf44d95c92f7f750c6454cd9ca6b7f402dcb5224f32537b5f175", func := "shipyard/shipyardlaw25.BarsSaws", spec := "barsSaws", unfollowed := true, recurses := true, apart := false }
def BarsSawsSaid : Prop := barsSawsRow.holds Try.pinned (OpenSpec.ofChange barsSawsSpec)

/-- ITS FALSE NEIGHBOUR: 'it returns false'. Refute it at one input. -/
def barsSawsWrong : ChangeSpec := { name := "barsSaws", fn := fun _ => fun
  | [d1, d2, d3] => { results := [.lit (.bool false)], args := [d1, d2, d3] }
  | _ => none }
def BarsSawsWrongFalsely : Prop := barsSawsRow.holds Try.pinned (OpenSpec.ofChange barsSawsWrong)

/- THE SECOND FORM. 'bulk': how many values and letters a reading holds, each counted each time it is reached (what is shared counts as often as it is met; a slice's spare places count too). A statement '..UptoSaid' is the law's where the arguments, and the package variables that the reading takes, are together of bulk at most 1048576: NARROWER than '..Said'. Prove '..Said' where nothing that the law and all that it calls make is longer than what came in: it says more and counts as full. Else prove '..UptoSaid'. A law counts once. -/
mutual
def uptoBulk {H : Type} : DataW H → Nat
  | .lit (.string bytes) => bytes.length + 1
  | .lit _ => 1
  | .nil => 1
  | .ptr d => uptoBulk d + 1
  | .slice elems spare => uptoBulkAll elems + uptoBulkAll spare + 1
  | .agg parts => uptoBulkAll parts + 1
  | .iface _ d => uptoBulk d + 1
  | .map entries => uptoBulkEntries entries + 1
  | .held _ => 1
def uptoBulkAll {H : Type} : List (DataW H) → Nat
  | [] => 0
  | d :: r => uptoBulk d + uptoBulkAll r
def uptoBulkEntries {H : Type} : List (Lit × DataW H) → Nat
  | [] => 0
  | x :: r => uptoBulkEntry x + uptoBulkEntries r
def uptoBulkEntry {H : Type} : Lit × DataW H → Nat
  | (.string bytes, d) => bytes.length + uptoBulk d + 1
  | (_, d) => uptoBulk d + 1
 end
def uptoSmall : (H : Type) → List (DataW H) → Bool := fun _ ds => decide (uptoBulkAll ds ≤ 1048576)
def OpenSpec.upto (s : _root_.Go.ChangeSpec) : _root_.Go.OpenSpec := { _root_.Go.OpenSpec.ofChange s with cond := some uptoSmall }

/-- 'shipyardlaw25.BarsChecks', WHERE WHAT IT READS IS OF BULK AT MOST 1048576: true; the input reads as it did. -/
def barsChecksUptoRow : OpenClaim := { program := "ytlgepggmgfnneaa", sum := "aa26ecbddb64bf44d95c92f7f750c6454cd9ca6b7f402dcb5224f32537b5f175", func := "shipyard/shipyardlaw25.BarsChecks", spec := "barsChecks", unfollowed := true, recurses := true, apart := false, narrowed := true }
def BarsChecksUptoSaid : Prop := barsChecksUptoRow.holds Try.pinned (OpenSpec.upto barsChecksSpec)

/-- 'shipyardlaw25.BarsBounds', WHERE WHAT IT READS IS OF BULK AT MOST 1048576: true; the input reads as it did. -/
def barsBoundsUptoRow : OpenClaim := { program := "ytlgepggmgfnneaa", sum := "aa26ecbddb64bf44d95c92f7f750c6454cd9ca6b7f402dcb5224f32537b5f175", func := "shipyard/shipyardlaw25.BarsBounds", spec := "barsBounds", unfollowed := true, recurses := true, apart := false, narrowed := true }
def BarsBoundsUptoSaid : Prop := barsBoundsUptoRow.holds Try.pinned (OpenSpec.upto barsBoundsSpec)

/-- 'shipyardlaw25.BarsGreedy', WHERE WHAT IT READS IS OF BULK AT MOST 1048576: true; the input reads as it did. -/
def barsGreedyUptoRow : OpenClaim := { program := "ytlgepggmgfnneaa", sum := "aa26ecbddb64bf44d95c92f7f750c6454cd9ca6b7f402dcb5224f32537b5f175", func := "shipyard/shipyardlaw25.BarsGreedy", spec := "barsGreedy", unfollowed := true, recurses := true, apart := false, narrowed := true }
def BarsGreedyUptoSaid : Prop := barsGreedyUptoRow.holds Try.pinned (OpenSpec.upto barsGreedySpec)

/-- 'shipyardlaw25.BarsBest', WHERE WHAT IT READS IS OF BULK AT MOST 1048576: true; the input reads as it did. -/
def barsBestUptoRow : OpenClaim := { program := "ytlgepggmgfnneaa", sum := "aa26ecbddb64bf44d95c92f7f750c6454cd9ca6b7f402dcb5224f32537b5f175", func := "shipyard/shipyardlaw25.BarsBest", spec := "barsBest", unfollowed := true, recurses := true, apart := false, narrowed := true }
def BarsBestUptoSaid : Prop := barsBestUptoRow.holds Try.pinned (OpenSpec.upto barsBestSpec)

/-- 'shipyardlaw25.BarsRight', WHERE WHAT IT READS IS OF BULK AT MOST 1048576: true; the input reads as it did. -/
def barsRightUptoRow : OpenClaim := { program := "ytlgepggmgfnneaa", sum := "aa26ecbddb64bf44d95c92f7f750c6454cd9ca6b7f402dcb5224f32537b5f175", func := "shipyard/shipyardlaw25.BarsRight", spec := "barsRight", unfollowed := true, recurses := true, apart := false, narrowed := true }
def BarsRightUptoSaid : Prop := barsRightUptoRow.holds Try.pinned (OpenSpec.upto barsRightSpec)

/-- 'shipyardlaw25.BarsLeast', WHERE WHAT IT READS IS OF BULK AT MOST 1048576: true; the input reads as it did. -/
def barsLeastUptoRow : OpenClaim := { program := "ytlgepggmgfnneaa", sum := "aa26ecbddb64bf44d95c92f7f750c6454cd9ca6b7f402dcb5224f32537b5f175", func := "shipyard/shipyardlaw25.BarsLeast", spec := "barsLeast", unfollowed := true, recurses := true, apart := false, narrowed := true }
def BarsLeastUptoSaid : Prop := barsLeastUptoRow.holds Try.pinned (OpenSpec.upto barsLeastSpec)

/-- 'shipyardlaw25.BarsOrder', WHERE WHAT IT READS IS OF BULK AT MOST 1048576: true; the input reads as it did. -/
def barsOrderUptoRow : OpenClaim := { program := "ytlgepggmgfnneaa", sum := "aa26ecbddb64bf44d95c92f7f750c6454cd9ca6b7f402dcb5224f32537b5f175", func := "shipyard/shipyardlaw25.BarsOrder", spec := "barsOrder", unfollowed := true, recurses := true, apart := false, narrowed := true }
def BarsOrderUptoSaid : Prop := barsOrderUptoRow.holds Try.pinned (OpenSpec.upto barsOrderSpec)

/-- 'shipyardlaw25.BarsSaws', WHERE WHAT IT READS IS OF BULK AT MOST 1048576: true; the input reads as it did. -/
def barsSawsUptoRow : OpenClaim := { program := "ytlgepggmgfnneaa", sum := "aa26ecbddb64bf44d95c92f7f750c6454cd9ca6b7f402dcb5224f32537b5f175", func := "shipyard/shipyardlaw25.BarsSaws", spec := "barsSaws", unfollowed := true, recurses := true, apart := false, narrowed := true }
def BarsSawsUptoSaid : Prop := barsSawsUptoRow.holds Try.pinned (OpenSpec.upto barsSawsSpec)

end Rows
end Go.Proofs.Ytlgepggmgfnneaa
