/- What the functions of layer 25 (bars) compute on numbers, in plain Lean. -/
import Derived.Test.YtlgepggmgfnneaaBase
namespace Go.Proofs.Ytlgepggmgfnneaa

def sideB (n : Int) : Bool := decide (1 ≤ n) && decide (n ≤ 32768)
def sawnB (k : Int) : Bool := decide (0 ≤ k) && decide (k ≤ 100)
def allB (l : List Int) : Bool := !(l.any fun n => !sideB n)
/-- what pieces need, if they are right -/
def needs (l : List Int) (k : Int) : Int := l.sum + (((l.length : Int) - 1) * k)
def needV (l : List Int) (k : Int) : Int := if l.length = 0 then 0 else if 256 < l.length then 0 else if allB l = false then 0 else if sawnB k = false then 0 else needs l k
/-- the error of an input -/
def rightE (l : List Int) (s k : Int) : Int :=
  if 256 < l.length then 4 else if allB l = false then 9 else if sideB s = false then 9 else if sawnB k = false then 9 else if l.any (fun n => decide (s < n)) then 18 else 0
/-- a right input -/
structure GoodB (l : List Int) (s k : Int) : Prop where
  len : l.length ≤ 256
  side : ∀ x ∈ l, 1 ≤ x ∧ x ≤ 32768 ∧ x ≤ s
  stock : 1 ≤ s ∧ s ≤ 32768
  kerf : 0 ≤ k ∧ k ≤ 100

theorem allB_iff {l : List Int} : allB l = true ↔ ∀ x ∈ l, 1 ≤ x ∧ x ≤ 32768 := by
  simp only [allB, Bool.not_eq_true', List.any_eq_false, sideB]
  constructor
  · intro h x hx; have := h x hx; simpa using this
  · intro h x hx; have := h x hx; simpa using this
theorem sawnB_iff {k : Int} : sawnB k = true ↔ 0 ≤ k ∧ k ≤ 100 := by simp [sawnB]
theorem sideB_iff {k : Int} : sideB k = true ↔ 1 ≤ k ∧ k ≤ 32768 := by simp [sideB]
theorem rightE_zero {l : List Int} {s k : Int} : rightE l s k = 0 ↔ GoodB l s k := by
  unfold rightE
  constructor
  · intro h
    by_cases h1 : 256 < l.length
    · rw [if_pos h1] at h; omega
    rw [if_neg h1] at h
    cases h2 : allB l
    · rw [if_pos h2] at h; omega
    rw [if_neg (by rw [h2]; simp)] at h
    cases h3 : sideB s
    · rw [if_pos h3] at h; omega
    rw [if_neg (by rw [h3]; simp)] at h
    cases h4 : sawnB k
    · rw [if_pos h4] at h; omega
    rw [if_neg (by rw [h4]; simp)] at h
    cases h5 : l.any fun n => decide (s < n)
    · rw [List.any_eq_false] at h5
      refine ⟨by omega, fun x hx => ?_, sideB_iff.1 h3, sawnB_iff.1 h4⟩
      have a := allB_iff.1 h2 x hx
      have b := h5 x hx
      simp at b
      omega
    · rw [if_pos h5] at h; omega
  · intro h
    have h2 : allB l = true := allB_iff.2 fun x hx => ⟨(h.side x hx).1, (h.side x hx).2.1⟩
    have h5 : (l.any fun n => decide (s < n)) = false := by
      rw [List.any_eq_false]; intro x hx; have := h.side x hx; simp; omega
    rw [if_neg (by have := h.len; omega), if_neg (by rw [h2]; simp), if_neg (by rw [sideB_iff.2 h.stock]; simp), if_neg (by rw [sawnB_iff.2 h.kerf]; simp), if_neg (by rw [h5]; simp)]

theorem sum_le {l : List Int} {b : Int} (hb : 0 ≤ b) (h : ∀ x ∈ l, 0 ≤ x ∧ x ≤ b) : 0 ≤ l.sum ∧ l.sum ≤ l.length * b := by
  induction l with
  | nil => simp
  | cons x l ih =>
    have a := h x (by simp)
    have c := ih fun y hy => h y (by simp [hy])
    rw [List.sum_cons, List.length_cons]
    have : ((l.length + 1 : Nat) : Int) * b = l.length * b + b := by rw [Int.natCast_add, Int.add_mul]; simp
    omega
theorem take_sum_succ {l : List Int} {k : Nat} (h : k < l.length) : (l.take (k + 1)).sum = (l.take k).sum + gi l k := by
  rw [take_succ_gi h]; simp
theorem sum_small {l : List Int} (hl : l.length ≤ 300) (h : allB l = true) : 0 ≤ l.sum ∧ l.sum ≤ 9830400 := by
  have := sum_le (b := 32768) (by omega) fun x hx => ⟨by have := allB_iff.1 h x hx; omega, (allB_iff.1 h x hx).2⟩
  omega
theorem allB_take {l : List Int} (h : allB l = true) (k : Nat) : allB (l.take k) = true := allB_iff.2 fun x hx => allB_iff.1 h x (List.mem_of_mem_take hx)
theorem mul_small {a k : Int} (h0 : 0 ≤ a) (h1 : a ≤ 300) (hk : sawnB k = true) : 0 ≤ a * k ∧ a * k ≤ 30000 := by
  have hk := sawnB_iff.1 hk
  have h2 := Int.mul_nonneg h0 hk.1
  have h3 : a * k ≤ a * 100 := Int.mul_le_mul_of_nonneg_left hk.2 h0
  omega
/-- the lower bound -/
def boundV (l : List Int) (s k : Int) : Int := (l.sum + (l.length : Int) * k + (s + k) - 1) / (s + k)
def boundR (l : List Int) (s k : Int) : Int := if rightE l s k = 0 then boundV l s k else 0
end Go.Proofs.Ytlgepggmgfnneaa
