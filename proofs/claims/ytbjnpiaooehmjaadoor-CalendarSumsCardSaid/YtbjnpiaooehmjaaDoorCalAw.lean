/- The example of calendar's laws; in plain Lean. -/
import Derived.Test.YtbjnpiaooehmjaaDoorCalLaw
namespace Go.Proofs.YtbjnpiaooehmjaaDoor

def eSh : List Sp := [⟨8, 16⟩]
def eSh2 : List Sp := [⟨8, 16⟩, ⟨15, 20⟩]
def eCl : List Int := [7]
theorem ea0 : newE eSh eCl = 0 := by decide
theorem ea1 : newE eSh2 [] = 11 := by decide
theorem ea2 : workB eSh eCl 8 = true := by decide
theorem ea3 : workB eSh eCl 15 = true := by decide
theorem ea4 : workB eSh eCl 16 = false := by decide
theorem ea5 : workB eSh eCl 176 = false := by decide
theorem ea6 : addO eSh eCl 0 3 = some 11 := addO_at (by decide) (by decide) (by decide +kernel) (.inr (by decide +kernel))
theorem ea7 : addO eSh eCl 10 6 = some 16 := addO_at (by decide) (by decide) (by decide +kernel) (.inr (by decide +kernel))
theorem ea8 : nextO eSh eCl 16 = some 344 := by
  have key : ∀ j : Fin 344, 16 ≤ j.val → wk eSh eCl j.val = false := by decide +kernel
  exact firstN_at (by decide) (by decide) (by decide +kernel) fun j h1 h2 => key ⟨j, h2⟩ h1
theorem ea9 : btw eSh eCl (-5) 9 = 1 := by decide +kernel
def eT1 : List UInt8 := [119, 49, 50, 32, 100, 51, 32, 48, 55, 104]
def eT2 : List UInt8 := [119, 49, 32, 100, 56, 32, 48, 48, 104]
def eT3 : List UInt8 := [119, 48, 32, 100, 49, 32, 48, 48, 104]
theorem ep1 : parseP eT1 = some 2071 := by decide
theorem ep2 : parseP eT2 = none := by decide
theorem ep3 : parseP eT3 = some 0 := by decide
theorem ed1 : dateV 2071 = eT1 := by
  unfold dateV
  rw [if_neg (by decide)]; exact date_parse ep1
theorem ed3 : dateV 0 = eT3 := by
  unfold dateV
  rw [if_neg (by decide)]; exact date_parse ep3
theorem eb1 : addCV eSh eCl 0 3 = 11 := by unfold addCV; rw [if_neg (by decide)]; show (match addO eSh eCl 0 3 with | some t => (t : Int) | none => 0) = 11; rw [ea6]; rfl
theorem eb2 : addCE eSh eCl 0 3 = 0 := by unfold addCE; rw [if_neg (by decide)]; show (match addO eSh eCl 0 3 with | some _ => (0 : Int) | none => 15) = 0; rw [ea6]
theorem eb3 : addCV eSh eCl 10 6 = 16 := by unfold addCV; rw [if_neg (by decide)]; show (match addO eSh eCl 10 6 with | some t => (t : Int) | none => 0) = 16; rw [ea7]; rfl
theorem eb4 : addCE eSh eCl 10 6 = 0 := by unfold addCE; rw [if_neg (by decide)]; show (match addO eSh eCl 10 6 with | some _ => (0 : Int) | none => 15) = 0; rw [ea7]
theorem eb56 : nextV eSh eCl (16 : Nat) = 344 ∧ nextE eSh eCl (16 : Nat) = 0 := by
  rcases next_err (sh := eSh) (cl := eCl) (s := 16) (by decide) with ⟨h, _⟩ | ⟨t, h, h2, h3⟩
  · rw [ea8] at h; cases h
  · rw [ea8] at h
    rw [h2, h3, ← Option.some.inj h]
    exact ⟨rfl, rfl⟩
theorem eb5 : nextV eSh eCl 16 = 344 := eb56.1
theorem eb6 : nextE eSh eCl 16 = 0 := eb56.2
theorem eb7 : parseV eT1 = 2071 := by unfold parseV; rw [ep1]; rfl
theorem eb8 : parseE eT1 = 0 := by unfold parseE; rw [ep1]; rfl
theorem eb9 : parseV eT2 = 0 := by unfold parseV; rw [ep2]
theorem eb10 : parseE eT2 = 5 := by unfold parseE; rw [ep2]
end Go.Proofs.YtbjnpiaooehmjaaDoor
