/- The choice of one number after another by a strict total order, in plain Lean: what a stable sort leaves. -/
import Derived.Test.YtlgepggmgfnneaaSort
namespace Go.Proofs.Ytlgepggmgfnneaa

/-- a strict total order of numbers -/
structure Bef (bef : Int → Int → Bool) : Prop where
  total : ∀ x y, x ≠ y → bef x y = true ∨ bef y x = true
  asym : ∀ x y, bef x y = true → bef y x = false
  trans : ∀ x y z, bef x y = true → bef y z = true → bef x z = true

/-- one step of the choice: the least of the numbers below k that are not in l, -1 if there is none -/
def nextB (bef : Int → Int → Bool) (l : List Int) : Nat → Int
  | 0 => -1
  | k + 1 => if (!(l.any fun y => (k : Int) == y) && (decide (nextB bef l k < 0) || bef k (nextB bef l k))) = true then (k : Int) else nextB bef l k
theorem nextB_succ (bef : Int → Int → Bool) (l : List Int) (k : Nat) : nextB bef l (k + 1) = if (!(l.any fun y => (k : Int) == y) && (decide (nextB bef l k < 0) || bef k (nextB bef l k))) = true then (k : Int) else nextB bef l k := rfl
/-- the k numbers that are chosen first, of n -/
def selB (bef : Int → Int → Bool) (n : Nat) : Nat → List Int
  | 0 => []
  | k + 1 => selB bef n k ++ [nextB bef (selB bef n k) n]
theorem selB_length (bef n k) : (selB bef n k).length = k := by induction k with | zero => rfl | succ k ih => simp [selB, ih]
theorem nextB_spec {bef : Int → Int → Bool} (hB : Bef bef) (l : List Int) (k : Nat) : (nextB bef l k = -1 ∧ ∀ j : Nat, j < k → (j : Int) ∈ l) ∨
    (0 ≤ nextB bef l k ∧ nextB bef l k < k ∧ nextB bef l k ∉ l ∧ ∀ j : Nat, j < k → (j : Int) ∉ l → (j : Int) ≠ nextB bef l k → bef (nextB bef l k) j = true) := by
  induction k with
  | zero => exact .inl ⟨rfl, fun j h => by omega⟩
  | succ k ih =>
    have hm : (l.any fun y => (k : Int) == y) = true ↔ (k : Int) ∈ l := by simp
    by_cases hin : (k : Int) ∈ l
    · have : nextB bef l (k + 1) = nextB bef l k := by
        rw [nextB_succ, hm.2 hin]; simp
      rw [this]
      rcases ih with ⟨h1, h2⟩ | ⟨h1, h2, h3, h4⟩
      · refine .inl ⟨h1, fun j hj => ?_⟩
        by_cases e : j = k
        · subst e; exact hin
        · exact h2 j (by omega)
      · refine .inr ⟨h1, by omega, h3, fun j hj hjl hne => ?_⟩
        by_cases e : j = k
        · subst e; exact absurd hin hjl
        · exact h4 j (by omega) hjl hne
    · have hf : (l.any fun y => (k : Int) == y) = false := by rw [Bool.eq_false_iff]; exact fun h => hin (hm.1 h)
      have hu : nextB bef l (k + 1) = if (decide (nextB bef l k < 0) || bef k (nextB bef l k)) = true then (k : Int) else nextB bef l k := by
        rw [nextB_succ, hf]; simp
      rw [hu]
      rcases ih with ⟨h1, h2⟩ | ⟨h1, h2, h3, h4⟩
      · rw [h1, if_pos (by simp)]
        refine .inr ⟨by omega, by omega, hin, fun j hj hjl hne => ?_⟩
        by_cases e : j = k
        · exact absurd (by rw [e]) hne
        · exact absurd (h2 j (by omega)) hjl
      · have h0 : decide (nextB bef l k < 0) = false := by rw [decide_eq_false_iff_not]; omega
        rw [h0, Bool.false_or]
        by_cases hb : bef k (nextB bef l k) = true
        · rw [if_pos hb]
          refine .inr ⟨by omega, by omega, hin, fun j hj hjl hne => ?_⟩
          by_cases e : (j : Int) = nextB bef l k
          · rw [e]; exact hb
          · exact hB.trans _ _ _ hb (h4 j (by omega) hjl e)
        · rw [if_neg hb]
          refine .inr ⟨h1, by omega, h3, fun j hj hjl hne => ?_⟩
          by_cases e : j = k
          · subst e
            rcases hB.total (j : Int) (nextB bef l j) (by omega) with h | h
            · exact absurd h hb
            · exact h
          · exact h4 j (by omega) hjl hne

/-- A sequence of all jobs in the reference's order is the one that is chosen. -/
theorem selB_unique {bef : Int → Int → Bool} (hB : Bef bef) (n : Nat) (ys : List Int) (hl : ys.length = n) (hm : ∀ j : Nat, j < n → (j : Int) ∈ ys) (hr : ∀ y ∈ ys, 0 ≤ y ∧ y < n)
    (hs : ys.Pairwise fun x y => bef x y = true) : ∀ k, k ≤ ys.length → selB bef n k = ys.take k := by
  intro k
  induction k with
  | zero => intro _; simp [selB]
  | succ k ih =>
    intro hk
    have hk' : k < ys.length := by omega
    rw [selB, ih (by omega), take_succ_gi hk']
    congr 1
    congr 1
    have hn := nextB_spec hB (ys.take k) n
    have hgk := hr _ (gi_mem hk')
    have hnd : ∀ i j, i < j → j < ys.length → bef (gi ys i) (gi ys j) = true := by
      intro i j hij hj
      have := List.pairwise_iff_getElem.1 hs i j (by omega) hj hij
      rwa [gi_lt (by omega), gi_lt hj]
    have hirr : ∀ x, bef x x = false := fun x => by
      cases h : bef x x
      · rfl
      · rw [← h]; exact hB.asym _ _ h
    have hout : ∀ i, k ≤ i → i < ys.length → gi ys i ∉ ys.take k := by
      intro i hi1 hi2 hmem
      obtain ⟨m, hm1, hm2⟩ := mem_gi hmem
      simp at hm1
      rw [gi_take (by omega)] at hm2
      have := hnd m i (by omega) hi2
      rw [hm2, hirr] at this
      cases this
    have ek : ((gi ys k).toNat : Int) = gi ys k := by omega
    rcases hn with ⟨_, h2⟩ | ⟨h1, h2, h3, h4⟩
    · have := h2 (gi ys k).toNat (by omega)
      rw [ek] at this
      exact absurd this (hout k (Nat.le_refl _) hk')
    · by_cases e : nextB bef (ys.take k) n = gi ys k
      · exact e
      · have a1 := h4 (gi ys k).toNat (by omega) (by rw [ek]; exact hout k (Nat.le_refl _) hk') (by rw [ek]; exact fun h => e h.symm)
        rw [ek] at a1
        obtain ⟨m, hm1, hm2⟩ := mem_gi (hm (nextB bef (ys.take k) n).toNat (by omega))
        rw [show ((nextB bef (ys.take k) n).toNat : Int) = nextB bef (ys.take k) n by omega] at hm2
        have hmk : k ≤ m := by
          rcases Nat.lt_or_ge m k with h | h
          · exfalso
            apply h3
            rw [← hm2, ← gi_take (n := k) h]
            exact gi_mem (by simp; omega)
          · exact h
        have hmk2 : k < m := by
          rcases Nat.eq_or_lt_of_le hmk with h | h
          · subst h; exact absurd hm2.symm e
          · exact h
        have a2 := hnd k m hmk2 hm1
        rw [hm2, hB.asym _ _ a1] at a2
        cases a2


/-- what a stable sort of 0, 1, .. n - 1 leaves -/
theorem selB_of {bef : Int → Int → Bool} (hB : Bef bef) {lt : Int → Int → Bool} {n : Nat} (xs ys : List Int) (hx : ∀ k, k < xs.length → gi xs k = k) (hl : xs.length = n) (hr : Rearr lt xs ys) (hs : SortedOn lt ys 0 ys.length)
    (hbl : ∀ x y : Int, 0 ≤ x → x < n → 0 ≤ y → y < n → (lt x y = true ∨ x < y) → lt y x = false → bef x y = true) : ys = selB bef n n := by
  have hly : ys.length = n := hr.length.trans hl
  have hmem : ∀ y, y ∈ ys ↔ y ∈ xs := fun y => hr.perm.mem_iff
  have hrg : ∀ y ∈ ys, 0 ≤ y ∧ y < n := by
    intro y hy
    obtain ⟨k, hk, rfl⟩ := mem_gi ((hmem y).1 hy)
    rw [hx k hk]
    omega
  have hp : ys.Pairwise fun x y => lt x y = true ∨ x < y := by
    refine hr.pairwise (fun x y h => .inl h) ?_
    rw [List.pairwise_iff_getElem]
    intro i j hi hj hij
    rw [← gi_lt hi, ← gi_lt hj, hx i hi, hx j hj]
    exact .inr (by omega)
  have h := selB_unique hB n ys hly ?_ hrg ?_ n (by omega)
  · rw [h, ← hly, List.take_length]
  · intro j hj
    rw [hmem, ← hx j (by omega)]
    exact gi_mem (by omega)
  · rw [List.pairwise_iff_getElem] at hp ⊢
    intro i j hi hj hij
    have a1 := hp i j hi hj hij
    have a2 := hs i j (Nat.zero_le _) hij hj
    rw [gi_lt hi, gi_lt hj] at a2
    have r1 := hrg _ (List.getElem_mem hi)
    have r2 := hrg _ (List.getElem_mem hj)
    exact hbl _ _ r1.1 r1.2 r2.1 r2.2 a1 a2
end Go.Proofs.Ytlgepggmgfnneaa
