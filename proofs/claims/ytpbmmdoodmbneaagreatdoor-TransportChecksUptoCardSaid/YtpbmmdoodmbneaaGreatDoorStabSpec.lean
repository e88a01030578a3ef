/- The stable sort of blocks, in plain Lean. -/
import Derived.Test.YtpbmmdoodmbneaaGreatDoorSymSpec
namespace Go.Proofs.YtpbmmdoodmbneaaGreatDoor

variable {lt : Int → Int → Bool}
/-- the blocks of 20 before block T are sorted -/
def Ins1 (lt : Int → Int → Bool) (ys : List Int) (T : Nat) : Prop := ∀ t, t < T → SortedOn lt ys (t * 20) (t * 20 + 20)
/-- the blocks of s are sorted -/
def Blk (lt : Int → Int → Bool) (ys : List Int) (s n : Nat) : Prop := ∀ t, SortedOn lt ys (t * s) (min (t * s + s) n)
/-- so are, before T, those of 2 s -/
def Mix (lt : Int → Int → Bool) (ys : List Int) (s T n : Nat) : Prop :=
  (∀ t, t < T → SortedOn lt ys (t * (s + s)) (t * (s + s) + (s + s))) ∧ ∀ t, T + T ≤ t → SortedOn lt ys (t * s) (min (t * s + s) n)

theorem sortedOn_empty (ys : List Int) {a b : Nat} (h : b ≤ a + 1) : SortedOn lt ys a b := fun k l h1 h2 h3 => by omega
theorem ins1_next {ys zs : List Int} {T : Nat} (h : Ins1 lt ys T) (ho : SameOut ys zs (T * 20) (T * 20 + 20)) (hs : SortedOn lt zs (T * 20) (T * 20 + 20)) : Ins1 lt zs (T + 1) := by
  intro t ht
  by_cases e : t = T
  · subst e; exact hs
  · exact sorted_same (h t (by omega)) ho (by omega)
theorem ins1_end {ys zs : List Int} {T n : Nat} (h : Ins1 lt ys T) (hn : n < T * 20 + 20) (hT : T * 20 ≤ n) (ho : SameOut ys zs (T * 20) n) (hs : SortedOn lt zs (T * 20) n) : Blk lt zs 20 n := by
  intro t
  by_cases e : t < T
  · rw [show min (t * 20 + 20) n = t * 20 + 20 by omega]
    exact sorted_same (h t e) ho (by omega)
  · by_cases e2 : t = T
    · subst e2
      rw [show min (t * 20 + 20) n = n by omega]; exact hs
    · exact sortedOn_empty _ (by omega)
theorem mix_start {ys : List Int} {s n : Nat} (h : Blk lt ys s n) : Mix lt ys s 0 n := ⟨fun t ht => by omega, fun t _ => h t⟩
theorem mix_runs {ys : List Int} {s T n a : Nat} (h : Mix lt ys s T n) (ha : a = T * (s + s)) (hn : a + s ≤ n) : SortedOn lt ys a (a + s) ∧ SortedOn lt ys (a + s) (min (a + s + s) n) := by
  have e1 : (T + T) * s = a := by rw [ha, Nat.add_mul, Nat.mul_add]
  have e2 : (T + T + 1) * s = a + s := by rw [Nat.succ_mul, e1]
  have h1 := h.2 (T + T) (Nat.le_refl _)
  have h2 := h.2 (T + T + 1) (by omega)
  rw [e1, show min (a + s) n = a + s by omega] at h1
  rw [e2] at h2
  exact ⟨h1, h2⟩
theorem mix_next {ys zs : List Int} {s T n a : Nat} (h : Mix lt ys s T n) (ha : a = T * (s + s)) (hn : a + (s + s) ≤ n) (hm : Merged lt ys zs a (a + (s + s))) : Mix lt zs s (T + 1) n := by
  refine ⟨fun t ht => ?_, fun t ht => ?_⟩
  · by_cases e : t = T
    · subst e; rw [← ha]; exact hm.srt
    · have : (t + 1) * (s + s) ≤ T * (s + s) := Nat.mul_le_mul_right _ (by omega)
      rw [Nat.succ_mul] at this
      exact sorted_same (h.1 t (by omega)) hm.out (by omega)
  · have : (T + 1 + (T + 1)) * s ≤ t * s := Nat.mul_le_mul_right _ (by omega)
    have e1 : (T + 1 + (T + 1)) * s = a + (s + s) := by rw [ha]; simp only [Nat.add_mul, Nat.mul_add]; omega
    exact sorted_same (h.2 t (by omega)) hm.out (by omega)
theorem mix_end {ys zs : List Int} {s T n a : Nat} (h : Mix lt ys s T n) (ha : a = T * (s + s)) (hn : n < a + (s + s)) (ho : SameOut ys zs a n) (hs : SortedOn lt zs a n) : Blk lt zs (s + s) n := by
  intro t
  by_cases e : t < T
  · have : (t + 1) * (s + s) ≤ T * (s + s) := Nat.mul_le_mul_right _ (by omega)
    rw [Nat.succ_mul] at this
    by_cases e2 : t * (s + s) + (s + s) ≤ n
    · rw [show min (t * (s + s) + (s + s)) n = t * (s + s) + (s + s) by omega]
      exact sorted_same (h.1 t e) ho (by omega)
    · have h1 := h.1 t e
      rw [show min (t * (s + s) + (s + s)) n = n by omega]
      exact sorted_same (fun k l h2 h3 h4 => h1 k l h2 h3 (by omega)) ho (by omega)
  · by_cases e2 : t = T
    · subst e2
      rw [← ha, show min (a + (s + s)) n = n by omega]; exact hs
    · have : (T + 1) * (s + s) ≤ t * (s + s) := Nat.mul_le_mul_right _ (by omega)
      rw [Nat.succ_mul] at this
      exact sortedOn_empty _ (by omega)
theorem mix_last {ys : List Int} {s T n a : Nat} (h : Mix lt ys s T n) (ha : a = T * (s + s)) (hn : n ≤ a + s) : SortedOn lt ys a n := by
  have e1 : (T + T) * s = a := by rw [ha, Nat.add_mul, Nat.mul_add]
  have h1 := h.2 (T + T) (Nat.le_refl _)
  rw [e1, show min (a + s) n = n by omega] at h1
  exact h1
theorem blk_done {ys : List Int} {s n : Nat} (h : Blk lt ys s n) (hn : n ≤ s) : SortedOn lt ys 0 n := by
  have := h 0
  rwa [Nat.zero_mul, Nat.zero_add, show min s n = n by omega] at this
theorem sameOut_all {xs ys : List Int} (h : xs.length = ys.length) : SameOut xs ys 0 xs.length := ⟨h, fun k hk => by rw [gi_out (by omega), gi_out (by omega)]⟩
end Go.Proofs.YtpbmmdoodmbneaaGreatDoor
