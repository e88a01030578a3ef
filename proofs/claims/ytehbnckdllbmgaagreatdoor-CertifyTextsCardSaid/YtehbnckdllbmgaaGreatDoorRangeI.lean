/- The numbers from 0 to n - 1. -/
import Derived.Test.YtehbnckdllbmgaaGreatDoorFlowSpec2
set_option linter.unusedSimpArgs false
set_option linter.unusedVariables false
namespace Go.Proofs.YtehbnckdllbmgaaGreatDoor
/-- 0, 1, .. n - 1 -/
def rangeI (n : Nat) : List Int := (List.range n).map fun k : Nat => (k : Int)
theorem rangeI_length (n) : (rangeI n).length = n := by simp [rangeI]
theorem rangeI_succ (n) : rangeI (n + 1) = rangeI n ++ [(n : Int)] := by simp [rangeI, List.range_succ]
end Go.Proofs.YtehbnckdllbmgaaGreatDoor
