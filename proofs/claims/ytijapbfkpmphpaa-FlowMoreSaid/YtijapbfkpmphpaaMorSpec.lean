/- More minutes of a job at a station, in plain Lean. -/
import Derived.Test.YtijapbfkpmphpaaMirSpec
namespace Go.Proofs.Ytijapbfkpmphpaa

/-- the table of q is that of p but for one place, which has d more: the times grow by no more than d -/
theorem more_tm {p q : List (List Int)} {l : List Int} {n k0 s0 : Nat} {d : Int} (hd : 0 ≤ d) (h0 : k0 < n → cst q l k0 s0 = cst p l k0 s0 + d) (h1 : ∀ k s, k < n → ¬ (k = k0 ∧ s = s0) → cst q l k s = cst p l k s) :
    ∀ k, k < n → ∀ s, tm p l k s ≤ tm q l k s ∧ tm q l k s ≤ tm p l k s + d ∧ (k < k0 → tm q l k s = tm p l k s) ∧ (k = k0 → s < s0 → tm q l k s = tm p l k s) := by
  have row : ∀ k, k < n → (∀ s, prevT p l k s ≤ prevT q l k s ∧ prevT q l k s ≤ prevT p l k s + d ∧ (k ≤ k0 → prevT q l k s = prevT p l k s)) →
      ∀ s, tm p l k s ≤ tm q l k s ∧ tm q l k s ≤ tm p l k s + d ∧ (k < k0 → tm q l k s = tm p l k s) ∧ (k = k0 → s < s0 → tm q l k s = tm p l k s) := by
    intro k hk hp s
    induction s with
    | zero =>
      have a := hp 0
      rw [tm_eq, tm_eq]
      simp only [rowT]
      by_cases e : k = k0 ∧ (0 : Nat) = s0
      · obtain ⟨rfl, rfl⟩ := e
        have h0 := h0 hk
        unfold cst at h0
        have := a.2.2 (Nat.le_refl _)
        omega
      · have b := h1 k 0 hk e
        unfold cst at b
        rw [b]
        refine ⟨by omega, by omega, fun h => by have := a.2.2 (by omega); omega, fun h _ => by have := a.2.2 (by omega); omega⟩
    | succ s ih =>
      have a := hp (s + 1)
      rw [tm_eq, tm_eq] at ih ⊢
      simp only [rowT]
      by_cases e : k = k0 ∧ s + 1 = s0
      · obtain ⟨rfl, rfl⟩ := e
        have h0 := h0 hk
        unfold cst at h0
        have := a.2.2 (Nat.le_refl _)
        have := ih.2.2.2 rfl (by omega)
        omega
      · have b := h1 k (s + 1) hk e
        unfold cst at b
        rw [b]
        refine ⟨by omega, by omega, fun h => ?_, fun h hs => ?_⟩
        · have := a.2.2 (by omega); have := ih.2.2.1 h; omega
        · have := a.2.2 (by omega); have := ih.2.2.2 h (by omega); omega
  intro k
  induction k with
  | zero => exact fun hk => row 0 hk fun s => ⟨Int.le_refl _, by simp only [prevT]; omega, fun _ => rfl⟩
  | succ k ih => exact fun hk => row (k + 1) hk fun s => ⟨(ih (by omega) s).1, (ih (by omega) s).2.1, fun h => (ih (by omega) s).2.2.1 (by omega)⟩
end Go.Proofs.Ytijapbfkpmphpaa
