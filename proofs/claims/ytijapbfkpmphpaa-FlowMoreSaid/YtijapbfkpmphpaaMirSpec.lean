/- Paths through the table of minutes: the mirrored shop, and more minutes. -/
import Derived.Test.YtijapbfkpmphpaaLowSpec
namespace Go.Proofs.Ytijapbfkpmphpaa

/-- a path from (i, j) to (k, s) through a table with the sum x -/
inductive Pth (c : Nat → Nat → Int) (i j : Nat) : Nat → Nat → Int → Prop
  | one : Pth c i j i j (c i j)
  | down {k s x} : Pth c i j k s x → Pth c i j (k + 1) s (x + c (k + 1) s)
  | right {k s x} : Pth c i j k s x → Pth c i j k (s + 1) (x + c k (s + 1))

theorem Pth.ge {c : Nat → Nat → Int} {i j k s : Nat} {x : Int} (h : Pth c i j k s x) : i ≤ k ∧ j ≤ s := by
  induction h with
  | one => exact ⟨Nat.le_refl _, Nat.le_refl _⟩
  | down _ ih => omega
  | right _ ih => omega
theorem Pth.frontDown {c : Nat → Nat → Int} {i j k s : Nat} {x : Int} (h : Pth c (i + 1) j k s x) : Pth c i j k s (c i j + x) := by
  induction h with
  | one => exact Pth.down Pth.one
  | down _ ih => rw [← Int.add_assoc]; exact Pth.down ih
  | right _ ih => rw [← Int.add_assoc]; exact Pth.right ih
theorem Pth.frontRight {c : Nat → Nat → Int} {i j k s : Nat} {x : Int} (h : Pth c i (j + 1) k s x) : Pth c i j k s (c i j + x) := by
  induction h with
  | one => exact Pth.right Pth.one
  | down _ ih => rw [← Int.add_assoc]; exact Pth.down ih
  | right _ ih => rw [← Int.add_assoc]; exact Pth.right ih
/-- the mirrored path -/
theorem Pth.mirror {c d : Nat → Nat → Int} {N M : Nat} (hd : ∀ k s, k ≤ N → s ≤ M → d (N - k) (M - s) = c k s) {i j k s : Nat} {x : Int} (h : Pth c i j k s x) : k ≤ N → s ≤ M → Pth d (N - k) (M - s) (N - i) (M - j) x := by
  induction h with
  | one => intro h1 h2; rw [← hd i j h1 h2]; exact Pth.one
  | @down k s x _ ih =>
    intro h1 h2
    have := ih (by omega) h2
    rw [show N - k = (N - (k + 1)) + 1 by omega] at this
    have h3 := this.frontDown
    rw [hd (k + 1) s h1 h2, Int.add_comm] at h3
    exact h3
  | @right k s x _ ih =>
    intro h1 h2
    have := ih h1 (by omega)
    rw [show M - s = (M - (s + 1)) + 1 by omega] at this
    have h3 := this.frontRight
    rw [hd k (s + 1) h1 h2, Int.add_comm] at h3
    exact h3

/-- the minutes of the k-th job of a sequence at station s -/
def cst (p : List (List Int)) (l : List Int) (k s : Nat) : Int := gi (jobRow p l k) s

theorem path_le {p : List (List Int)} {l : List Int} {n m : Nat} (hc : ∀ k, k < n → ∀ s, s < m → 0 ≤ cst p l k s) {k s : Nat} {x : Int} (h : Pth (cst p l) 0 0 k s x) : k < n → s < m → x ≤ tm p l k s := by
  induction h with
  | one => intro _ _; simp [tm, rowT, cst]
  | @down k s x _ ih =>
    intro h1 h2
    have := ih (by omega) h2
    have h3 : tm p l k s + cst p l (k + 1) s ≤ tm p l (k + 1) s := by
      cases s with
      | zero => simp [tm, rowT, cst]
      | succ s => simp only [tm, rowT, cst]; omega
    omega
  | @right k s x _ ih =>
    intro h1 h2
    have := ih h1 (by omega)
    have h3 : tm p l k s + cst p l k (s + 1) ≤ tm p l k (s + 1) := by
      rw [tm_eq]; simp only [rowT, cst]; omega
    omega
theorem tm_nonneg {p : List (List Int)} {l : List Int} {n m : Nat} (hc : ∀ k, k < n → ∀ s, s < m → 0 ≤ cst p l k s) : ∀ k, k < n → ∀ s, s < m → 0 ≤ tm p l k s := by
  have row : ∀ k, k < n → (∀ s, s < m → 0 ≤ prevT p l k s) → ∀ s, s < m → 0 ≤ tm p l k s := by
    intro k hk hp s
    induction s with
    | zero => intro hs; have := hp 0 hs; have := hc k hk 0 hs; rw [tm_eq]; simp only [rowT]; unfold cst at this; omega
    | succ s ih => intro hs; have h1 := ih (by omega); have := hc k hk (s + 1) hs; rw [tm_eq] at h1 ⊢; simp only [rowT]; unfold cst at this; omega
  intro k
  induction k with
  | zero => intro hk; exact row 0 hk (fun _ _ => Int.le_refl _)
  | succ k ih => intro hk; exact row (k + 1) hk (ih (by omega))
theorem path_at {p : List (List Int)} {l : List Int} {n m : Nat} (hc : ∀ k, k < n → ∀ s, s < m → 0 ≤ cst p l k s) : ∀ k, k < n → ∀ s, s < m → Pth (cst p l) 0 0 k s (tm p l k s) := by
  have hn := tm_nonneg hc
  have row : ∀ k, k < n → (∀ k', k = k' + 1 → ∀ s, s < m → Pth (cst p l) 0 0 k' s (tm p l k' s)) → ∀ s, s < m → Pth (cst p l) 0 0 k s (tm p l k s) := by
    intro k hk hp s
    induction s with
    | zero =>
      intro hs
      cases k with
      | zero =>
        have : tm p l 0 0 = cst p l 0 0 := by simp [tm, rowT, cst]
        rw [this]; exact Pth.one
      | succ k => exact Pth.down (hp k rfl 0 hs)
    | succ s ih =>
      intro hs
      have h1 := ih (by omega)
      cases k with
      | zero =>
        have e : tm p l 0 (s + 1) = tm p l 0 s + cst p l 0 (s + 1) := by
          have := hn 0 hk s (by omega)
          simp only [tm] at this
          simp only [tm, rowT, cst]
          omega
        rw [e]; exact Pth.right h1
      | succ k =>
        have e : tm p l (k + 1) (s + 1) = max (tm p l k (s + 1)) (tm p l (k + 1) s) + cst p l (k + 1) (s + 1) := by simp only [tm, rowT, cst]
        rw [e]
        rcases Int.le_total (tm p l k (s + 1)) (tm p l (k + 1) s) with h | h
        · rw [Int.max_eq_right h]; exact Pth.right h1
        · rw [Int.max_eq_left h]; exact Pth.down (hp k rfl (s + 1) hs)
  intro k
  induction k with
  | zero => intro hk; exact row 0 hk (fun k' h => by omega)
  | succ k ih => intro hk; exact row (k + 1) hk (fun k' h => by obtain rfl : k = k' := by omega
                                                                exact ih (by omega))

/-- the mirrored tables have the same longest path -/
theorem mirror_tm {p q : List (List Int)} {l r : List Int} {n m : Nat} (hc : ∀ k, k < n → ∀ s, s < m → 0 ≤ cst p l k s) (hn : 0 < n) (hm : 0 < m) (hd : ∀ k s, k ≤ n - 1 → s ≤ m - 1 → cst q r (n - 1 - k) (m - 1 - s) = cst p l k s) :
    tm p l (n - 1) (m - 1) = tm q r (n - 1) (m - 1) := by
  have hc' : ∀ k, k < n → ∀ s, s < m → 0 ≤ cst q r k s := by
    intro k hk s hs
    have := hd (n - 1 - k) (m - 1 - s) (by omega) (by omega)
    rw [show n - 1 - (n - 1 - k) = k by omega, show m - 1 - (m - 1 - s) = s by omega] at this
    rw [this]; exact hc _ (by omega) _ (by omega)
  have hd' : ∀ k s, k ≤ n - 1 → s ≤ m - 1 → cst p l (n - 1 - k) (m - 1 - s) = cst q r k s := by
    intro k s h1 h2
    have := hd (n - 1 - k) (m - 1 - s) (by omega) (by omega)
    rw [show n - 1 - (n - 1 - k) = k by omega, show m - 1 - (m - 1 - s) = s by omega] at this
    exact this.symm
  have a1 := (path_at hc (n - 1) (by omega) (m - 1) (by omega)).mirror hd (Nat.le_refl _) (Nat.le_refl _)
  have a2 := (path_at hc' (n - 1) (by omega) (m - 1) (by omega)).mirror hd' (Nat.le_refl _) (Nat.le_refl _)
  rw [Nat.sub_self, Nat.sub_self, Nat.sub_zero, Nat.sub_zero] at a1 a2
  have b1 := path_le hc' a1 (by omega) (by omega)
  have b2 := path_le hc a2 (by omega) (by omega)
  omega
end Go.Proofs.Ytijapbfkpmphpaa
