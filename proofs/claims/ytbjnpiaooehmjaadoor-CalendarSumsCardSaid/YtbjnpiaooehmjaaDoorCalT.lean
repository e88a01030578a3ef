/- Atoi at digits; in plain Lean. -/
import Derived.Test.YtbjnpiaooehmjaaDoorCalS
import Derived.Lib.AtoiAll
namespace Go.Proofs.YtbjnpiaooehmjaaDoor

def foldN (acc : Nat) (ds : List UInt8) : Nat := ds.foldl (fun n c => 10 * n + (c.toNat - 48)) acc
theorem foldN_ge : ∀ (ds : List UInt8) (acc : Nat), acc ≤ foldN acc ds := by
  intro ds
  induction ds with
  | nil => intro acc; exact Nat.le_refl _
  | cons c r ih => intro acc; have := ih (10 * acc + (c.toNat - 48)); unfold foldN at this ⊢; rw [List.foldl_cons]; omega
theorem parse10 : ∀ (ds : List UInt8) (acc : Nat), ds.all digC = true → acc < 18446744073709551616 →
    (Lib.parseUint10 acc ds = .ok (foldN acc ds) ∧ foldN acc ds < 18446744073709551616) ∨ (Lib.parseUint10 acc ds = .range ∧ 18446744073709551616 ≤ foldN acc ds) := by
  intro ds
  induction ds with
  | nil => intro acc _ h; exact .inl ⟨rfl, h⟩
  | cons c r ih =>
    intro acc h ha
    simp only [List.all_cons, Bool.and_eq_true] at h
    have hc := digC_range h.1
    have hge := foldN_ge r (10 * acc + (c.toNat - 48))
    have he : foldN acc (c :: r) = foldN (10 * acc + (c.toNat - 48)) r := rfl
    rw [he]
    unfold Lib.parseUint10
    rw [if_pos ⟨hc.1, hc.2⟩, show acc * 10 + (c.toNat - 48) = 10 * acc + (c.toNat - 48) by omega]
    by_cases h1 : 1844674407370955162 ≤ acc
    · rw [if_pos h1]; exact .inr ⟨rfl, by omega⟩
    · rw [if_neg h1]
      by_cases h2 : 18446744073709551616 ≤ 10 * acc + (c.toNat - 48)
      · rw [if_pos h2]; exact .inr ⟨rfl, by omega⟩
      · rw [if_neg h2]; exact ih _ h.2 (by omega)
/-- Atoi of digits -/
theorem atoi_digs {ds : List UInt8} (h1 : ds ≠ []) (h2 : ds.all digC = true) :
    (Lib.atoiAll ds = .ok (numL ds : Int) ∧ numL ds < 9223372036854775808) ∨ (Lib.atoiAll ds = .range ∧ 9223372036854775808 ≤ numL ds) := by
  cases ds with
  | nil => exact absurd rfl h1
  | cons c r =>
    have hc := digC_range (show digC c = true by simp only [List.all_cons, Bool.and_eq_true] at h2; exact h2.1)
    have e : foldN 0 (c :: r) = numL (c :: r) := rfl
    have hp := parse10 (c :: r) 0 h2 (by decide)
    rw [e] at hp
    unfold Lib.atoiAll
    dsimp only
    rw [if_neg (show ¬ (c.toNat = 43 ∨ c.toNat = 45) by omega)]
    unfold Lib.parseMag
    rw [if_neg (by simp)]
    rcases hp with ⟨g1, g2⟩ | ⟨g1, g2⟩
    · rw [g1]
      dsimp only
      by_cases h3 : 9223372036854775808 ≤ numL (c :: r)
      · rw [if_pos ⟨by omega, h3⟩]; exact .inr ⟨rfl, h3⟩
      · rw [if_neg (by omega), if_neg (by omega), if_neg (by omega)]; exact .inl ⟨rfl, by omega⟩
    · rw [g1]; exact .inr ⟨rfl, by omega⟩
end Go.Proofs.YtbjnpiaooehmjaaDoor
