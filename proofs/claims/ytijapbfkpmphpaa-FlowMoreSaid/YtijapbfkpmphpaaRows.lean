/-
  No cell of these rows narrows 'for every input' (looked for: loops, veiled, ifaces, maps, wideKeys, modest, calm, conditions, laid).
  DERIVED. THE GIVEN ROWS OF THIS SEAT. 9 by the template 'for every input the law returns true; each argument reads behind the call as it read before'; 0 by the template 'total and deterministic' (their statements: YtijapbfkpmphpaaTotals.lean).
  GIVEN WITH THE SEED: the statements are not yours to turn. If you find one false, say at which input.
  Laid BY PROGRAM, IN A SANDBOX (cutbox-rows.mjs): the forced cells as the released guide's own fill.sh prints them over the translation afc3bee8376008fb… (all of the seat's roots in one cut). By AI agents, Wed Nov 11 2026. No macro, syntax, notation, axiom, sorry.
-/
import Derived.Test.YtijapbfkpmphpaaChecked
import GoSem.Claim
import GoSem.ClaimJoined
import GoSem.ClaimMapViews
import Derived.JoinedTies
import Derived.KernelRfl
namespace Go.Proofs.Ytijapbfkpmphpaa
/- THE CELL 'sum', in the pinned program and in every row, IS THE sha256 OF THE DUMP (.gsa) THAT YtijapbfkpmphpaaProg.lean LOADS. Nothing in Lean hashes anything: it is a label: what it is worth is what the hold of that sum in a sandbox is worth. -/
noncomputable def Try.pinned : Pinned := { name := "ytijapbfkpmphpaa", sum := "afc3bee8376008fb52993ff6ab8d47db8283d7a6a13c42125beb4e636d11939e", checked := Try.checked }
namespace Rows
def none {H : Type} : Left H := { results := [], args := [] }

/-- 'shipyardlaw37.FlowTimes': WHATEVER THE INPUT: true; the input reads as it did. -/
def flowTimesSpec : ChangeSpec := { name := "flowTimes", fn := fun _ => fun
  | [d1, d2] => { results := [.lit (.bool true)], args := [d1, d2] }
  | _ => none }
def flowTimesRow : OpenClaim := { program := "ytijapbfkpmphpaa", sum := "afc3bee8376008fb52993ff6ab8d47db8283d7a6a13c42125beb4e636d11939e", func := "shipyard/shipyardlaw37.FlowTimes", spec := "flowTimes", unfollowed := true, recurses := true, apart := false }
def FlowTimesSaid : Prop := flowTimesRow.holds Try.pinned (OpenSpec.ofChange flowTimesSpec)

/-- ITS FALSE NEIGHBOUR: 'it returns false'. Refute it at one input. -/
def flowTimesWrong : ChangeSpec := { name := "flowTimes", fn := fun _ => fun
  | [d1, d2] => { results := [.lit (.bool false)], args := [d1, d2] }
  | _ => none }
def FlowTimesWrongFalsely : Prop := flowTimesRow.holds Try.pinned (OpenSpec.ofChange flowTimesWrong)

/-- 'shipyardlaw37.FlowBounds': WHATEVER THE INPUT: true; the input reads as it did. -/
def flowBoundsSpec : ChangeSpec := { name := "flowBounds", fn := fun _ => fun
  | [d1, d2, d3] => { results := [.lit (.bool true)], args := [d1, d2, d3] }
  | _ => none }
def flowBoundsRow : OpenClaim := { program := "ytijapbfkpmphpaa", sum := "afc3bee8376008fb52993ff6ab8d47db8283d7a6a13c42125beb4e636d11939e", func := "shipyard/shipyardlaw37.FlowBounds", spec := "flowBounds", unfollowed := true, recurses := true, apart := false }
def FlowBoundsSaid : Prop := flowBoundsRow.holds Try.pinned (OpenSpec.ofChange flowBoundsSpec)

/-- ITS FALSE NEIGHBOUR: 'it returns false'. Refute it at one input. -/
def flowBoundsWrong : ChangeSpec := { name := "flowBounds", fn := fun _ => fun
  | [d1, d2, d3] => { results := [.lit (.bool false)], args := [d1, d2, d3] }
  | _ => none }
def FlowBoundsWrongFalsely : Prop := flowBoundsRow.holds Try.pinned (OpenSpec.ofChange flowBoundsWrong)

/-- 'shipyardlaw37.FlowJohnson': WHATEVER THE INPUT: true; the input reads as it did. -/
def flowJohnsonSpec : ChangeSpec := { name := "flowJohnson", fn := fun _ => fun
  | [d] => { results := [.lit (.bool true)], args := [d] }
  | _ => none }
def flowJohnsonRow : OpenClaim := { program := "ytijapbfkpmphpaa", sum := "afc3bee8376008fb52993ff6ab8d47db8283d7a6a13c42125beb4e636d11939e", func := "shipyard/shipyardlaw37.FlowJohnson", spec := "flowJohnson", unfollowed := true, recurses := true, apart := false }
def FlowJohnsonSaid : Prop := flowJohnsonRow.holds Try.pinned (OpenSpec.ofChange flowJohnsonSpec)

/-- ITS FALSE NEIGHBOUR: 'it returns false'. Refute it at one input. -/
def flowJohnsonWrong : ChangeSpec := { name := "flowJohnson", fn := fun _ => fun
  | [d] => { results := [.lit (.bool false)], args := [d] }
  | _ => none }
def FlowJohnsonWrongFalsely : Prop := flowJohnsonRow.holds Try.pinned (OpenSpec.ofChange flowJohnsonWrong)

/-- 'shipyardlaw37.FlowBests': WHATEVER THE INPUT: true; the input reads as it did. -/
def flowBestsSpec : ChangeSpec := { name := "flowBests", fn := fun _ => fun
  | [d1, d2] => { results := [.lit (.bool true)], args := [d1, d2] }
  | _ => none }
def flowBestsRow : OpenClaim := { program := "ytijapbfkpmphpaa", sum := "afc3bee8376008fb52993ff6ab8d47db8283d7a6a13c42125beb4e636d11939e", func := "shipyard/shipyardlaw37.FlowBests", spec := "flowBests", unfollowed := true, recurses := true, apart := false }
def FlowBestsSaid : Prop := flowBestsRow.holds Try.pinned (OpenSpec.ofChange flowBestsSpec)

/-- ITS FALSE NEIGHBOUR: 'it returns false'. Refute it at one input. -/
def flowBestsWrong : ChangeSpec := { name := "flowBests", fn := fun _ => fun
  | [d1, d2] => { results := [.lit (.bool false)], args := [d1, d2] }
  | _ => none }
def FlowBestsWrongFalsely : Prop := flowBestsRow.holds Try.pinned (OpenSpec.ofChange flowBestsWrong)

/-- 'shipyardlaw37.FlowLower': WHATEVER THE INPUT: true; the input reads as it did. -/
def flowLowerSpec : ChangeSpec := { name := "flowLower", fn := fun _ => fun
  | [d1, d2, d3] => { results := [.lit (.bool true)], args := [d1, d2, d3] }
  | _ => none }
def flowLowerRow : OpenClaim := { program := "ytijapbfkpmphpaa", sum := "afc3bee8376008fb52993ff6ab8d47db8283d7a6a13c42125beb4e636d11939e", func := "shipyard/shipyardlaw37.FlowLower", spec := "flowLower", unfollowed := true, recurses := true, apart := false }
def FlowLowerSaid : Prop := flowLowerRow.holds Try.pinned (OpenSpec.ofChange flowLowerSpec)

/-- ITS FALSE NEIGHBOUR: 'it returns false'. Refute it at one input. -/
def flowLowerWrong : ChangeSpec := { name := "flowLower", fn := fun _ => fun
  | [d1, d2, d3] => { results := [.lit (.bool false)], args := [d1, d2, d3] }
  | _ => none }
def FlowLowerWrongFalsely : Prop := flowLowerRow.holds Try.pinned (OpenSpec.ofChange flowLowerWrong)

/-- 'shipyardlaw37.FlowOptimal': WHATEVER THE INPUT: true; the input reads as it did. -/
def flowOptimalSpec : ChangeSpec := { name := "flowOptimal", fn := fun _ => fun
  | [d1, d2] => { results := [.lit (.bool true)], args := [d1, d2] }
  | _ => none }
def flowOptimalRow : OpenClaim := { program := "ytijapbfkpmphpaa", sum := "afc3bee8376008fb52993ff6ab8d47db8283d7a6a13c42125beb4e636d11939e", func := "shipyard/shipyardlaw37.FlowOptimal", spec := "flowOptimal", unfollowed := true, recurses := true, apart := false }
def FlowOptimalSaid : Prop := flowOptimalRow.holds Try.pinned (OpenSpec.ofChange flowOptimalSpec)

/-- ITS FALSE NEIGHBOUR: 'it returns false'. Refute it at one input. -/
def flowOptimalWrong : ChangeSpec := { name := "flowOptimal", fn := fun _ => fun
  | [d1, d2] => { results := [.lit (.bool false)], args := [d1, d2] }
  | _ => none }
def FlowOptimalWrongFalsely : Prop := flowOptimalRow.holds Try.pinned (OpenSpec.ofChange flowOptimalWrong)

/-- 'shipyardlaw37.FlowTwo': WHATEVER THE INPUT: true; the input reads as it did. -/
def flowTwoSpec : ChangeSpec := { name := "flowTwo", fn := fun _ => fun
  | [d] => { results := [.lit (.bool true)], args := [d] }
  | _ => none }
def flowTwoRow : OpenClaim := { program := "ytijapbfkpmphpaa", sum := "afc3bee8376008fb52993ff6ab8d47db8283d7a6a13c42125beb4e636d11939e", func := "shipyard/shipyardlaw37.FlowTwo", spec := "flowTwo", unfollowed := true, recurses := true, apart := false }
def FlowTwoSaid : Prop := flowTwoRow.holds Try.pinned (OpenSpec.ofChange flowTwoSpec)

/-- ITS FALSE NEIGHBOUR: 'it returns false'. Refute it at one input. -/
def flowTwoWrong : ChangeSpec := { name := "flowTwo", fn := fun _ => fun
  | [d] => { results := [.lit (.bool false)], args := [d] }
  | _ => none }
def FlowTwoWrongFalsely : Prop := flowTwoRow.holds Try.pinned (OpenSpec.ofChange flowTwoWrong)

/-- 'shipyardlaw37.FlowMirror': WHATEVER THE INPUT: true; the input reads as it did. -/
def flowMirrorSpec : ChangeSpec := { name := "flowMirror", fn := fun _ => fun
  | [d1, d2] => { results := [.lit (.bool true)], args := [d1, d2] }
  | _ => none }
def flowMirrorRow : OpenClaim := { program := "ytijapbfkpmphpaa", sum := "afc3bee8376008fb52993ff6ab8d47db8283d7a6a13c42125beb4e636d11939e", func := "shipyard/shipyardlaw37.FlowMirror", spec := "flowMirror", unfollowed := true, recurses := true, apart := false }
def FlowMirrorSaid : Prop := flowMirrorRow.holds Try.pinned (OpenSpec.ofChange flowMirrorSpec)

/-- ITS FALSE NEIGHBOUR: 'it returns false'. Refute it at one input. -/
def flowMirrorWrong : ChangeSpec := { name := "flowMirror", fn := fun _ => fun
  | [d1, d2] => { results := [.lit (.bool false)], args := [d1, d2] }
  | _ => none }
def FlowMirrorWrongFalsely : Prop := flowMirrorRow.holds Try.pinned (OpenSpec.ofChange flowMirrorWrong)

/-- 'shipyardlaw37.FlowMore': WHATEVER THE INPUT: true; the input reads as it did. -/
def flowMoreSpec : ChangeSpec := { name := "flowMore", fn := fun _ => fun
  | [d1, d2, d3] => { results := [.lit (.bool true)], args := [d1, d2, d3] }
  | _ => none }
def flowMoreRow : OpenClaim := { program := "ytijapbfkpmphpaa", sum := "afc3bee8376008fb52993ff6ab8d47db8283d7a6a13c42125beb4e636d11939e", func := "shipyard/shipyardlaw37.FlowMore", spec := "flowMore", unfollowed := true, recurses := true, apart := false }
def FlowMoreSaid : Prop := flowMoreRow.holds Try.pinned (OpenSpec.ofChange flowMoreSpec)

/-- ITS FALSE NEIGHBOUR: 'it returns false'. Refute it at one input. -/
def flowMoreWrong : ChangeSpec := { name := "flowMore", fn := fun _ => fun
  | [d1, d2, d3] => { results := [.lit (.bool false)], args := [d1, d2, d3] }
  | _ => none }
def FlowMoreWrongFalsely : Prop := flowMoreRow.holds Try.pinned (OpenSpec.ofChange flowMoreWrong)

/- THE SECOND FORM. 'bulk': how many values and letters a reading holds, each counted each time it is reached (what is shared counts as often as it is met; a slice's spare places count too). A statement '..UptoSaid' is the law's where the arguments, and the package variables that the reading takes, are together of bulk at most 1048576: NARROWER than '..Said'. Prove '..Said' where nothing that the law and all that it calls make is longer than what came in: it says more and counts as full. Else prove '..UptoSaid'. A law counts once. -/
mutual
def uptoBulk {H : Type} : DataW H → Nat
  | .lit (.string bytes) => bytes.length + 1
  | .lit _ => 1
  | .nil => 1
  | .ptr d => uptoBulk d + 1
  | .slice elems spare => uptoBulkAll elems + uptoBulkAll spare + 1
  | .agg parts => uptoBulkAll parts + 1
  | .iface _ d => uptoBulk d + 1
  | .map entries => uptoBulkEntries entries + 1
  | .held _ => 1
def uptoBulkAll {H : Type} : List (DataW H) → Nat
  | [] => 0
  | d :: r => uptoBulk d + uptoBulkAll r
def uptoBulkEntries {H : Type} : List (Lit × DataW H) → Nat
  | [] => 0
  | x :: r => uptoBulkEntry x + uptoBulkEntries r
def uptoBulkEntry {H : Type} : Lit × DataW H → Nat
  | (.string bytes, d) => bytes.length + uptoBulk d + 1
  | (_, d) => uptoBulk d + 1
 end
def uptoSmall : (H : Type) → List (DataW H) → Bool := fun _ ds => decide (uptoBulkAll ds ≤ 1048576)
def OpenSpec.upto (s : _root_.Go.ChangeSpec) : _root_.Go.OpenSpec := { _root_.Go.OpenSpec.ofChange s with cond := some uptoSmall }

/-- 'shipyardlaw37.FlowTimes', WHERE WHAT IT READS IS OF BULK AT MOST 1048576: true; the input reads as it did. -/
def flowTimesUptoRow : OpenClaim := { program := "ytijapbfkpmphpaa", sum := "afc3bee8376008fb52993ff6ab8d47db8283d7a6a13c42125beb4e636d11939e", func := "shipyard/shipyardlaw37.FlowTimes", spec := "flowTimes", unfollowed := true, recurses := true, apart := false, narrowed := true }
def FlowTimesUptoSaid : Prop := flowTimesUptoRow.holds Try.pinned (OpenSpec.upto flowTimesSpec)

/-- 'shipyardlaw37.FlowBounds', WHERE WHAT IT READS IS OF BULK AT MOST 1048576: true; the input reads as it did. -/
def flowBoundsUptoRow : OpenClaim := { program := "ytijapbfkpmphpaa", sum := "afc3bee8376008fb52993ff6ab8d47db8283d7a6a13c42125beb4e636d11939e", func := "shipyard/shipyardlaw37.FlowBounds", spec := "flowBounds", unfollowed := true, recurses := true, apart := false, narrowed := true }
def FlowBoundsUptoSaid : Prop := flowBoundsUptoRow.holds Try.pinned (OpenSpec.upto flowBoundsSpec)

/-- 'shipyardlaw37.FlowJohnson', WHERE WHAT IT READS IS OF BULK AT MOST 1048576: true; the input reads as it did. -/
def flowJohnsonUptoRow : OpenClaim := { program := "ytijapbfkpmphpaa", sum := "afc3bee8376008fb52993ff6ab8d47db8283d7a6a13c42125beb4e636d11939e", func := "shipyard/shipyardlaw37.FlowJohnson", spec := "flowJohnson", unfollowed := true, recurses := true, apart := false, narrowed := true }
def FlowJohnsonUptoSaid : Prop := flowJohnsonUptoRow.holds Try.pinned (OpenSpec.upto flowJohnsonSpec)

/-- 'shipyardlaw37.FlowBests', WHERE WHAT IT READS IS OF BULK AT MOST 1048576: true; the input reads as it did. -/
def flowBestsUptoRow : OpenClaim := { program := "ytijapbfkpmphpaa", sum := "afc3bee8376008fb52993ff6ab8d47db8283d7a6a13c42125beb4e636d11939e", func := "shipyard/shipyardlaw37.FlowBests", spec := "flowBests", unfollowed := true, recurses := true, apart := false, narrowed := true }
def FlowBestsUptoSaid : Prop := flowBestsUptoRow.holds Try.pinned (OpenSpec.upto flowBestsSpec)

/-- 'shipyardlaw37.FlowLower', WHERE WHAT IT READS IS OF BULK AT MOST 1048576: true; the input reads as it did. -/
def flowLowerUptoRow : OpenClaim := { program := "ytijapbfkpmphpaa", sum := "afc3bee8376008fb52993ff6ab8d47db8283d7a6a13c42125beb4e636d11939e", func := "shipyard/shipyardlaw37.FlowLower", spec := "flowLower", unfollowed := true, recurses := true, apart := false, narrowed := true }
def FlowLowerUptoSaid : Prop := flowLowerUptoRow.holds Try.pinned (OpenSpec.upto flowLowerSpec)

/-- 'shipyardlaw37.FlowOptimal', WHERE WHAT IT READS IS OF BULK AT MOST 1048576: true; the input reads as it did. -/
def flowOptimalUptoRow : OpenClaim := { program := "ytijapbfkpmphpaa", sum := "afc3bee8376008fb52993ff6ab8d47db8283d7a6a13c42125beb4e636d11939e", func := "shipyard/shipyardlaw37.FlowOptimal", spec := "flowOptimal", unfollowed := true, recurses := true, apart := false, narrowed := true }
def FlowOptimalUptoSaid : Prop := flowOptimalUptoRow.holds Try.pinned (OpenSpec.upto flowOptimalSpec)

/-- 'shipyardlaw37.FlowTwo', WHERE WHAT IT READS IS OF BULK AT MOST 1048576: true; the input reads as it did. -/
def flowTwoUptoRow : OpenClaim := { program := "ytijapbfkpmphpaa", sum := "afc3bee8376008fb52993ff6ab8d47db8283d7a6a13c42125beb4e636d11939e", func := "shipyard/shipyardlaw37.FlowTwo", spec := "flowTwo", unfollowed := true, recurses := true, apart := false, narrowed := true }
def FlowTwoUptoSaid : Prop := flowTwoUptoRow.holds Try.pinned (OpenSpec.upto flowTwoSpec)

/-- 'shipyardlaw37.FlowMirror', WHERE WHAT IT READS IS OF BULK AT MOST 1048576: true; the input reads as it did. -/
def flowMirrorUptoRow : OpenClaim := { program := "ytijapbfkpmphpaa", sum := "afc3bee8376008fb52993ff6ab8d47db8283d7a6a13c42125beb4e636d11939e", func := "shipyard/shipyardlaw37.FlowMirror", spec := "flowMirror", unfollowed := true, recurses := true, apart := false, narrowed := true }
def FlowMirrorUptoSaid : Prop := flowMirrorUptoRow.holds Try.pinned (OpenSpec.upto flowMirrorSpec)

/-- 'shipyardlaw37.FlowMore', WHERE WHAT IT READS IS OF BULK AT MOST 1048576: true; the input reads as it did. -/
def flowMoreUptoRow : OpenClaim := { program := "ytijapbfkpmphpaa", sum := "afc3bee8376008fb52993ff6ab8d47db8283d7a6a13c42125beb4e636d11939e", func := "shipyard/shipyardlaw37.FlowMore", spec := "flowMore", unfollowed := true, recurses := true, apart := false, narrowed := true }
def FlowMoreUptoSaid : Prop := flowMoreUptoRow.holds Try.pinned (OpenSpec.upto flowMoreSpec)

end Rows
end Go.Proofs.Ytijapbfkpmphpaa
