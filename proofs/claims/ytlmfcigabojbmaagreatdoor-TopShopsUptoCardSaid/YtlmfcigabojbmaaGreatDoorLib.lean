/- Contracts of the functions of package slices that this seat calls. -/
import Derived.Test.YtlmfcigabojbmaaGreatDoorBase
set_option linter.unusedSimpArgs false
set_option linter.unusedVariables false
namespace Go.Proofs.YtlmfcigabojbmaaGreatDoor
open Go.RowKit

/-- A function value that answers a predicate of one integer, in every world that keeps what W0 has. -/
def FnP (fv : Value) (W0 : World) (D : Int → Prop) (p : Int → Bool) : Prop :=
  ∃ F caps, fv = .func (.func F) #[] caps ∧ (∀ args w, (callFunc F args).run Tryz.prog w = .ok (.enter F args) w) ∧
    ∀ x n, D x → Calls Tryz.prog F (#[.int .i64 x] ++ caps) (W0.drewN n) fun e w'' => e = .returned (.bool (p x)) ∧ ∃ m, w'' = W0.drewN m

/-- the first index at which p holds, else -1 -/
def findI (p : Int → Bool) (xs : List Int) : Int := match xs.findIdx? p with | some i => i | none => -1

theorem findI_hit (p : Int → Bool) (xs : List Int) (k : Nat) (hk : k < xs.length) (h1 : ∀ j, j < k → p (gi xs j) = false) (h2 : p (gi xs k) = true) : findI p xs = k := by
  have : xs.findIdx? p = some k := by
    rw [List.findIdx?_eq_some_iff_getElem]
    refine ⟨hk, ?_, ?_⟩
    · simpa [gi, hk] using h2
    · intro j hj
      have := h1 j hj
      simp [gi, show j < xs.length by omega] at this
      simp [this]
  simp [findI, this]

theorem findI_miss (p : Int → Bool) (xs : List Int) (h1 : ∀ j, j < xs.length → p (gi xs j) = false) : findI p xs = -1 := by
  have : xs.findIdx? p = none := by
    rw [List.findIdx?_eq_none_iff]
    intro x hx
    obtain ⟨j, hj, rfl⟩ := mem_gi hx
    exact h1 j hj
  simp [findI, this]

theorem findI_any (p : Int → Bool) (xs : List Int) : decide (0 ≤ findI p xs) = xs.any p := by
  rw [Bool.eq_iff_iff, decide_eq_true_eq]
  simp only [findI]
  cases hh : xs.findIdx? p with
  | none => rw [List.findIdx?_eq_none_iff] at hh; simp; intro x hx; simpa using hh x hx
  | some i => rw [List.findIdx?_eq_some_iff_getElem] at hh; obtain ⟨h1, h2, _⟩ := hh; simp; exact ⟨_, List.getElem_mem h1, h2⟩

end Go.Proofs.YtlmfcigabojbmaaGreatDoor
