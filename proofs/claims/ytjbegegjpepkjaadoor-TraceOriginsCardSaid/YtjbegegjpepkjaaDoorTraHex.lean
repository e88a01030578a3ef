/- Sixteen hexadecimal digits, in plain Lean: a numeral without leading zeros, and the zeros ahead of it. -/
import Derived.Test.YtjbegegjpepkjaaDoorTraSpec
namespace Go.Proofs.YtjbegegjpepkjaaDoor

def hexK (k n : Nat) : List UInt8 := (List.range k).map fun i => hexD (n / 16 ^ (k - 1 - i) % 16)
theorem hexL_K (n : Nat) : hexL n = hexK 16 n := rfl
theorem hexK_succ (k n : Nat) : hexK (k + 1) n = hexK k (n / 16) ++ [hexD (n % 16)] := by
  unfold hexK
  rw [List.range_succ, List.map_append]
  congr 1
  · apply List.map_congr_left
    intro i hi
    have hi := List.mem_range.1 hi
    rw [show k + 1 - 1 - i = (k - 1 - i) + 1 by omega, Nat.pow_succ, Nat.mul_comm, Nat.div_div_eq_div_mul]
  · simp
theorem hexK_length (k n : Nat) : (hexK k n).length = k := by simp [hexK]
def hexN (n : Nat) : List UInt8 := if h : n < 16 then [hexD n] else hexN (n / 16) ++ [hexD (n % 16)]
termination_by n
decreasing_by omega
theorem hexN_small {n : Nat} (h : n < 16) : hexN n = [hexD n] := by rw [hexN, dif_pos h]
theorem hexN_big {n : Nat} (h : ¬ n < 16) : hexN n = hexN (n / 16) ++ [hexD (n % 16)] := by rw [hexN, dif_neg h]
theorem hexK_zero : ∀ k, hexK k 0 = List.replicate k 48 := by
  intro k
  induction k with
  | zero => rfl
  | succ k ih =>
    rw [hexK_succ, Nat.zero_div, ih, List.replicate_succ']
    rfl
theorem hexN_len : ∀ (k n : Nat), 1 ≤ k → n < 16 ^ k → (hexN n).length ≤ k := by
  intro k
  induction k with
  | zero => intro n h; omega
  | succ k ih =>
    intro n _ hn
    by_cases h : n < 16
    · rw [hexN_small h]; simp
    · rw [hexN_big h, List.length_append, List.length_singleton]
      have hk : 1 ≤ k := by
        rcases Nat.eq_zero_or_pos k with rfl | h2
        · simp at hn; omega
        · exact h2
      have := ih (n / 16) hk (by rw [Nat.div_lt_iff_lt_mul (by decide)]; rw [Nat.pow_succ] at hn; exact hn)
      omega
/-- the zeros ahead -/
theorem hexK_pad : ∀ (k n : Nat), 1 ≤ k → n < 16 ^ k → hexK k n = List.replicate (k - (hexN n).length) 48 ++ hexN n := by
  intro k
  induction k with
  | zero => intro n h; omega
  | succ k ih =>
    intro n _ hn
    rw [hexK_succ]
    by_cases h : n < 16
    · rw [hexN_small h, show n / 16 = 0 by omega, hexK_zero, show n % 16 = n by omega]
      simp
    · have hk : 1 ≤ k := by
        rcases Nat.eq_zero_or_pos k with rfl | h2
        · simp at hn; omega
        · exact h2
      rw [hexN_big h, ih (n / 16) hk (by rw [Nat.div_lt_iff_lt_mul (by decide)]; rw [Nat.pow_succ] at hn; exact hn), List.append_assoc, List.length_append, List.length_singleton]
      congr 2
      omega
theorem hexL_pad {n : Nat} (h : n < 18446744073709551616) : hexL n = List.replicate (16 - (hexN n).length) 48 ++ hexN n := by
  rw [hexL_K]; exact hexK_pad 16 n (by omega) (Nat.lt_of_lt_of_eq h (show 18446744073709551616 = 16 ^ 16 by decide +kernel))
/-- FNV of a longer text -/
theorem fnvL_snoc (l : List UInt8) (c : UInt8) : fnvL (l ++ [c]) = (fnvL l ^^^ c.toNat) * 1099511628211 % 18446744073709551616 := by unfold fnvL; rw [List.foldl_append, List.foldl_cons, List.foldl_nil]
theorem fnvL_lt (l : List UInt8) : fnvL l < 18446744073709551616 := by
  rcases List.eq_nil_or_concat l with rfl | ⟨x, c, rfl⟩
  · show 14695981039346656037 < 18446744073709551616; omega
  · rw [List.concat_eq_append, fnvL_snoc]; exact Nat.mod_lt _ (by omega)
end Go.Proofs.YtjbegegjpepkjaaDoor
