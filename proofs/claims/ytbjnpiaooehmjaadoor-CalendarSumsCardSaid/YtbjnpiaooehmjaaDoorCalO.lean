/- Contracts of the reference: decimal, Date. -/
import Derived.Test.YtbjnpiaooehmjaaDoorCalH
import Derived.Test.YtbjnpiaooehmjaaDoorCalDate
import Derived.Laws.IdiomStrings
import Derived.IntWalk
namespace Go.Proofs.YtbjnpiaooehmjaaDoor
open Go.RowKit

def digT : ByteArray := ⟨#[48, 49, 50, 51, 52, 53, 54, 55, 56, 57]⟩
theorem digT_at (n : Nat) (h : n < 10) : digT.extract n (n + 1) = ⟨#[digU n]⟩ := by
  have : n = 0 ∨ n = 1 ∨ n = 2 ∨ n = 3 ∨ n = 4 ∨ n = 5 ∨ n = 6 ∨ n = 7 ∨ n = 8 ∨ n = 9 := by omega
  rcases this with rfl | rfl | rfl | rfl | rfl | rfl | rfl | rfl | rfl | rfl <;> rfl
theorem dec_length : ∀ (k n : Nat), 1 ≤ k → n < 10 ^ k → (Lib.decDigits n).length ≤ k := by
  intro k
  induction k with
  | zero => intro n h; omega
  | succ k ih =>
    intro n _ hn
    rw [dec_succ]
    split
    · simp
    · rename_i h
      rw [List.length_append]
      have hk : 1 ≤ k := by
        rcases Nat.eq_zero_or_pos k with e | e
        · subst e; simp at hn; omega
        · exact e
      have := ih (n / 10) hk (by rw [Nat.pow_succ] at hn; omega)
      simp; omega
/-- the digits ahead of the last one -/
def headD (m : Nat) : List UInt8 := if m < 10 then [] else Lib.decDigits (m / 10)
theorem headD_all (m : Nat) : headD m ++ [digU (m % 10)] = Lib.decDigits m := by
  unfold headD
  rw [dec_succ m]
  split
  · rename_i h; rw [Nat.mod_eq_of_lt h]; rfl
  · rfl
theorem headD_step (m : Nat) (l : List UInt8) (h : 10 ≤ m) : headD (m / 10) ++ digU (m / 10 % 10) :: l = headD m ++ l := by
  conv => rhs; unfold headD
  rw [if_neg (by omega), ← headD_all (m / 10)]; simp
theorem headD_end (m : Nat) (h : m < 10) : headD m = [] := by unfold headD; rw [if_pos h]
theorem one_str (c : UInt8) (l : List UInt8) : (⟨#[c]⟩ : ByteArray) ++ (⟨l.toArray⟩ : ByteArray) = ⟨(c :: l).toArray⟩ := by
  apply ByteArray.ext
  apply Array.ext'
  simp

end Go.Proofs.YtbjnpiaooehmjaaDoor
