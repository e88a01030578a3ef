/- Contracts: with of dock's reference, from of dock. -/
import Derived.Test.YtlmfcigabojbmaaGreatDoorDokApp
import Derived.Test.YtlmfcigabojbmaaGreatDoorApp
set_option linter.unusedSimpArgs false
set_option linter.unusedVariables false
namespace Go.Proofs.YtlmfcigabojbmaaGreatDoor
open Go.RowKit

def wPut (xs : List Int) (n : Int) : Nat → Bool
  | 0 => false
  | k + 1 => wPut xs n k || decide (n ≤ gi xs k)
def wOut (xs : List Int) (n : Int) : Nat → List Int
  | 0 => []
  | k + 1 => (if wPut xs n k = false ∧ n < gi xs k then wOut xs n k ++ [n] else wOut xs n k) ++ [gi xs k]
def withL (xs : List Int) (n : Int) : List Int := if wPut xs n xs.length = true then wOut xs n xs.length else wOut xs n xs.length ++ [n]
theorem wOut_len (xs : List Int) (n : Int) (k : Nat) : (wOut xs n k).length ≤ k + 1 ∧ (wPut xs n k = false → (wOut xs n k).length = k) := by
  induction k with
  | zero => exact ⟨by simp [wOut], fun _ => rfl⟩
  | succ k ih =>
    have h2 : wPut xs n (k + 1) = (wPut xs n k || decide (n ≤ gi xs k)) := rfl
    unfold wOut
    cases hp : wPut xs n k with
    | true =>
      rw [if_neg (by simp)]
      refine ⟨by rw [List.length_append]; have := ih.1; simp; omega, fun h => ?_⟩
      rw [h2, hp] at h; cases h
    | false =>
      have := ih.2 hp
      by_cases h1 : n < gi xs k
      · rw [if_pos ⟨rfl, h1⟩]
        refine ⟨by simp; omega, fun h => ?_⟩
        rw [h2, hp, decide_eq_true (by omega)] at h; cases h
      · rw [if_neg (by omega)]
        exact ⟨by simp; omega, fun _ => by simp; omega⟩
theorem withL_len (xs : List Int) (n : Int) : (withL xs n).length ≤ xs.length + 1 := by
  have := wOut_len xs n xs.length
  unfold withL
  split
  · exact this.1
  · rename_i h; rw [List.length_append, this.2 (by simpa using h)]; simp
theorem wOut_mem (xs : List Int) (n x : Int) (k : Nat) : x ∈ wOut xs n k ↔ (∃ j, j < k ∧ gi xs j = x) ∨ (x = n ∧ wPut xs n k = true) := by
  induction k with
  | zero => simp [wOut, wPut]
  | succ k ih =>
    have e1 : (∃ j, j < k + 1 ∧ gi xs j = x) ↔ (∃ j, j < k ∧ gi xs j = x) ∨ gi xs k = x := by
      constructor
      · rintro ⟨j, hj, h⟩
        by_cases e : j = k
        · subst e; exact .inr h
        · exact .inl ⟨j, by omega, h⟩
      · rintro (⟨j, hj, h⟩ | h)
        · exact ⟨j, by omega, h⟩
        · exact ⟨k, by omega, h⟩
    have h2 : wPut xs n (k + 1) = (wPut xs n k || decide (n ≤ gi xs k)) := rfl
    rw [e1, h2]
    unfold wOut
    rw [List.mem_append, List.mem_singleton]
    cases hp : wPut xs n k with
    | true =>
      rw [if_neg (by simp), ih, hp]
      constructor
      · rintro ((h | h) | h)
        · exact .inl (.inl h)
        · exact .inr ⟨h.1, rfl⟩
        · exact .inl (.inr h.symm)
      · rintro ((h | h) | h)
        · exact .inl (.inl h)
        · exact .inr h.symm
        · exact .inl (.inr ⟨h.1, rfl⟩)
    | false =>
      by_cases h1 : n < gi xs k
      · rw [if_pos ⟨rfl, h1⟩, List.mem_append, List.mem_singleton, ih, hp, decide_eq_true (by omega)]
        constructor
        · rintro (((h | h) | h) | h)
          · exact .inl (.inl h)
          · cases h.2
          · exact .inr ⟨h, rfl⟩
          · exact .inl (.inr h.symm)
        · rintro ((h | h) | h)
          · exact .inl (.inl (.inl h))
          · exact .inr h.symm
          · exact .inl (.inr h.1)
      · rw [if_neg (by omega), ih, hp]
        constructor
        · rintro ((h | h) | h)
          · exact .inl (.inl h)
          · cases h.2
          · exact .inl (.inr h.symm)
        · rintro ((h | h) | h)
          · exact .inl (.inl h)
          · exact .inr h.symm
          · obtain ⟨h3, h4⟩ := h
            simp only [Bool.false_or, decide_eq_true_eq] at h4
            exact .inr (by omega)
theorem withL_mem {xs : List Int} {n x : Int} : x ∈ withL xs n ↔ x ∈ xs ∨ x = n := by
  have e : (∃ j, j < xs.length ∧ gi xs j = x) ↔ x ∈ xs := ⟨fun ⟨j, hj, h⟩ => by rw [← h]; exact gi_mem hj, fun h => mem_gi h⟩
  unfold withL
  split
  · rename_i h; rw [wOut_mem, e, h]; simp
  · rename_i h
    rw [List.mem_append, List.mem_singleton, wOut_mem, e]
    constructor
    · rintro ((h1 | h1) | h1)
      · exact .inl h1
      · exact .inr h1.1
      · exact .inr h1
    · rintro (h1 | h1)
      · exact .inl (.inl h1)
      · exact .inr h1
def RetO (w : World) (xs : List Int) (e : Ending) (w' : World) : Prop := ∃ v, e = .returned v ∧ OwnI w' w.heap.size v xs ∧ Below w.heap.size w w'
theorem grown_below {w wr w' : World} {v : Value} (hb : Below w.heap.size w wr) (hown : ∀ q, v.ownBlock = some q → w.heap.size ≤ q) (o : Obj) (hg : (wr.alloc o).grownBy w' v.ownBlock) : Below w.heap.size w w' :=
  (hb.alloc hb.size _).grown hg (by have := hb.size; simp; omega) hown
end Go.Proofs.YtlmfcigabojbmaaGreatDoor
