/- Contracts of the reference: digit, Parse. -/
import Derived.Test.YtbjnpiaooehmjaaDoorCalP
namespace Go.Proofs.YtbjnpiaooehmjaaDoor
open Go.RowKit

/-! the cases of a text -/
theorem parse_short {x : UInt8} {t : List UInt8} (h : t.takeWhile digC = []) : parseP (x :: t) = none := by
  unfold parseP
  dsimp only
  split
  · rw [if_neg (by simp [h])]
  · rfl
theorem parse_first {x : UInt8} {t : List UInt8} (h : x ≠ 119) : parseP (x :: t) = none := by
  unfold parseP
  dsimp only
  split
  · rw [if_neg (by simp [h])]
  · rfl
theorem parse_zero {x : UInt8} {t : List UInt8} (h : plainD (t.takeWhile digC) = false) : parseP (x :: t) = none := by
  unfold parseP
  dsimp only
  split
  · rw [if_neg (by simp [h])]
  · rfl
theorem parse_len {x : UInt8} {t : List UInt8} (h : (t.dropWhile digC).length ≠ 7) : parseP (x :: t) = none := by
  unfold parseP
  dsimp only
  split
  · rename_i e; rw [e] at h; simp at h
  · rfl
/-- what the last seven bytes must be -/
def tailB (s1 d c s2 p q h : UInt8) : Bool := s1 == 32 && d == 100 && decide (49 ≤ c.toNat) && decide (c.toNat ≤ 55) && s2 == 32 && digC p && digC q && h == 104 && decide (10 * (p.toNat - 48) + (q.toNat - 48) ≤ 23)
theorem parse_tail {x s1 d c s2 p q h : UInt8} {t : List UInt8} (e : t.dropWhile digC = [s1, d, c, s2, p, q, h]) (h1 : x = 119) (h2 : t.takeWhile digC ≠ []) (h3 : plainD (t.takeWhile digC) = true) :
    parseP (x :: t) = if tailB s1 d c s2 p q h = true then some (168 * numL (t.takeWhile digC) + 24 * (c.toNat - 49) + (10 * (p.toNat - 48) + (q.toNat - 48))) else none := by
  unfold parseP
  dsimp only
  rw [e]
  dsimp only
  unfold tailB
  simp only [Bool.and_eq_true, decide_eq_true_eq, beq_iff_eq]
  by_cases hc : ((((((((s1 = 32 ∧ d = 100) ∧ 49 ≤ c.toNat) ∧ c.toNat ≤ 55) ∧ s2 = 32) ∧ digC p = true) ∧ digC q = true) ∧ h = 104) ∧ 10 * (p.toNat - 48) + (q.toNat - 48) ≤ 23)
  · obtain ⟨⟨⟨⟨⟨⟨⟨⟨g1, g2⟩, g3⟩, g4⟩, g5⟩, g6⟩, g7⟩, g8⟩, g9⟩ := hc
    rw [if_pos ⟨h1, h2, h3, g1, g2, g3, g4, g5, g6, g7, g8, g9⟩, if_pos ⟨⟨⟨⟨⟨⟨⟨⟨g1, g2⟩, g3⟩, g4⟩, g5⟩, g6⟩, g7⟩, g8⟩, g9⟩]
  · rw [if_neg hc, if_neg]
    rintro ⟨_, _, _, g1, g2, g3, g4, g5, g6, g7, g8, g9⟩
    exact hc ⟨⟨⟨⟨⟨⟨⟨⟨g1, g2⟩, g3⟩, g4⟩, g5⟩, g6⟩, g7⟩, g8⟩, g9⟩
end Go.Proofs.YtbjnpiaooehmjaaDoor
