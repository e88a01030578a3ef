/- Stable sorting in place, in plain Lean: what an exchange of neighbours that stand the wrong way round keeps. -/
import Derived.Test.YtpbmmdoodmbneaaGreatDoorBase
namespace Go.Proofs.YtpbmmdoodmbneaaGreatDoor

/-- a strict weak order on what satisfies D -/
structure SWO (D : Int → Prop) (lt : Int → Int → Bool) : Prop where
  irr : ∀ x, D x → lt x x = false
  asym : ∀ x y, D x → D y → lt x y = true → lt y x = false
  neg : ∀ x y z, D x → D y → D z → lt x y = false → lt y z = false → lt x z = false

/-- ys comes from xs by exchanges of two neighbouring blocks, each element of the second being less than each of the first -/
inductive Rearr (lt : Int → Int → Bool) : List Int → List Int → Prop
  | refl (xs) : Rearr lt xs xs
  | step (xs p X Y q : List Int) : Rearr lt xs (p ++ (X ++ (Y ++ q))) → (∀ x ∈ X, ∀ y ∈ Y, lt y x = true) → Rearr lt xs (p ++ (Y ++ (X ++ q)))

theorem Rearr.perm {lt : Int → Int → Bool} {xs ys : List Int} (h : Rearr lt xs ys) : ys.Perm xs := by
  induction h with
  | refl => exact List.Perm.refl _
  | step p X Y q _ _ ih =>
    refine List.Perm.trans ?_ ih
    apply List.Perm.append_left
    rw [← List.append_assoc, ← List.append_assoc]
    exact List.Perm.append_right _ List.perm_append_comm
theorem Rearr.length {lt : Int → Int → Bool} {xs ys : List Int} (h : Rearr lt xs ys) : ys.length = xs.length := h.perm.length_eq
theorem Rearr.trans {lt : Int → Int → Bool} {xs ys zs : List Int} (h : Rearr lt xs ys) (k : Rearr lt ys zs) : Rearr lt xs zs := by
  induction k with
  | refl => exact h
  | step p X Y q _ hl ih => exact .step _ p X Y q ih hl
/-- any relation between an earlier and a later element that holds of elements that are not less either way is kept -/
theorem Rearr.pairwise {lt : Int → Int → Bool} {R : Int → Int → Prop} {xs ys : List Int} (h : Rearr lt xs ys) (hR : ∀ x y, lt x y = true → R x y) (hx : xs.Pairwise R) : ys.Pairwise R := by
  induction h with
  | refl => exact hx
  | step p X Y q _ hl ih =>
    simp only [List.pairwise_append, List.mem_append] at ih ⊢
    obtain ⟨h1, ⟨h2, ⟨h3, h4, h5⟩, h6⟩, h7⟩ := ih
    refine ⟨h1, ⟨h3, ⟨h2, h4, fun x hx y hy => h6 x hx y (.inr hy)⟩, ?_⟩, ?_⟩
    · intro y hy z hz
      rcases hz with hz | hz
      · exact hR _ _ (hl z hz y hy)
      · exact h5 y hy z hz
    · intro x hx y hy
      rcases hy with hy | hy | hy
      · exact h7 x hx y (.inr (.inl hy))
      · exact h7 x hx y (.inl hy)
      · exact h7 x hx y (.inr (.inr hy))

def ltOf (c : Int → Int → Int) (x y : Int) : Bool := decide (c x y < 0)
def swapAt (xs : List Int) (i j : Nat) : List Int := (xs.set i (gi xs j)).set j (gi xs i)
theorem swapAt_length (xs i j) : (swapAt xs i j).length = xs.length := by simp [swapAt]
theorem gi_set {xs : List Int} {i k : Nat} {x : Int} (hi : i < xs.length) : gi (xs.set i x) k = if k = i then x else gi xs k := by
  unfold gi
  rw [List.getD_eq_getElem?_getD, List.getElem?_set]
  by_cases e : i = k
  · subst e; simp [hi]
  · rw [if_neg e, if_neg (fun h => e h.symm), List.getD_eq_getElem?_getD]
theorem gi_swap {xs : List Int} {i j k : Nat} (hi : i < xs.length) (hj : j < xs.length) : gi (swapAt xs i j) k = if k = j then gi xs i else if k = i then gi xs j else gi xs k := by
  unfold swapAt
  rw [gi_set (by simpa using hj), gi_set hi]

theorem split_two {xs : List Int} {j : Nat} (h : j + 1 < xs.length) : xs = xs.take j ++ ([gi xs j] ++ ([gi xs (j + 1)] ++ xs.drop (j + 2))) := by
  apply gi_ext
  · simp; omega
  · intro k hk
    by_cases h1 : k < j
    · rw [gi_append_left (by simp; omega), gi_take h1]
    · unfold gi
      simp only [List.getD_eq_getElem?_getD]
      rw [List.getElem?_append_right (by simp; omega)]
      have e1 : (xs.take j).length = j := by simp; omega
      rw [e1]
      by_cases h2 : k = j
      · subst h2; simp
      · by_cases h3 : k = j + 1
        · subst h3; simp
        · obtain ⟨m, rfl⟩ : ∃ m, k = j + 2 + m := ⟨k - (j + 2), by omega⟩
          rw [show j + 2 + m - j = m + 2 by omega]
          simp [List.getElem?_drop]
theorem swap_two {xs : List Int} {j : Nat} (h : j + 1 < xs.length) : swapAt xs (j + 1) j = xs.take j ++ ([gi xs (j + 1)] ++ ([gi xs j] ++ xs.drop (j + 2))) := by
  apply gi_ext
  · simp [swapAt]; omega
  · intro k hk
    rw [gi_swap h (by omega)]
    by_cases h1 : k < j
    · rw [gi_append_left (by simp; omega), gi_take h1, if_neg (by omega), if_neg (by omega)]
    · unfold gi
      simp only [List.getD_eq_getElem?_getD]
      rw [List.getElem?_append_right (by simp; omega)]
      have e1 : (xs.take j).length = j := by simp; omega
      rw [e1]
      by_cases h2 : k = j
      · subst h2; simp
      · by_cases h3 : k = j + 1
        · subst h3; simp
        · obtain ⟨m, rfl⟩ : ∃ m, k = j + 2 + m := ⟨k - (j + 2), by omega⟩
          rw [show j + 2 + m - j = m + 2 by omega]
          simp [List.getElem?_drop]
          rw [if_neg (by omega), if_neg (by omega)]
theorem Rearr.swap {lt : Int → Int → Bool} {xs ys : List Int} {j : Nat} (h : Rearr lt xs ys) (hj : j + 1 < ys.length) (hl : lt (gi ys (j + 1)) (gi ys j) = true) : Rearr lt xs (swapAt ys (j + 1) j) := by
  rw [swap_two hj]
  rw [split_two hj] at h
  exact .step _ _ _ _ _ h (by simpa using hl)

/-- no later element of the places from a to b is less than an earlier one -/
def SortedOn (lt : Int → Int → Bool) (xs : List Int) (a b : Nat) : Prop := ∀ k l, a ≤ k → k < l → l < b → lt (gi xs l) (gi xs k) = false
/-- xs and ys are equal outside of the places from a to b -/
def SameOut (xs ys : List Int) (a b : Nat) : Prop := xs.length = ys.length ∧ ∀ k, k < a ∨ b ≤ k → gi xs k = gi ys k
theorem SameOut.refl (xs a b) : SameOut xs xs a b := ⟨rfl, fun _ _ => rfl⟩
theorem SameOut.trans {xs ys zs a b} (h : SameOut xs ys a b) (k : SameOut ys zs a b) : SameOut xs zs a b := ⟨h.1.trans k.1, fun i hi => (h.2 i hi).trans (k.2 i hi)⟩
theorem SameOut.mono {xs ys a b a' b'} (h : SameOut xs ys a b) (ha : a' ≤ a) (hb : b ≤ b') : SameOut xs ys a' b' := ⟨h.1, fun i hi => h.2 i (by omega)⟩

/-- the inner loop of the insertion sort: the element at j is on its way down -/
structure Ins (lt : Int → Int → Bool) (xs0 xs : List Int) (a i j : Nat) : Prop where
  re : Rearr lt xs0 xs
  out : SameOut xs0 xs a (i + 1)
  rest : ∀ k l, a ≤ k → k < l → l ≤ i → l ≠ j → k ≠ j → lt (gi xs l) (gi xs k) = false
  up : ∀ l, j < l → l ≤ i → lt (gi xs l) (gi xs j) = false

theorem Ins.start {lt : Int → Int → Bool} {xs0 xs : List Int} {a i : Nat} (h1 : Rearr lt xs0 xs) (h2 : SameOut xs0 xs a i) (h3 : SortedOn lt xs a i) : Ins lt xs0 xs a i i :=
  ⟨h1, h2.mono (Nat.le_refl _) (by omega), fun k l h4 h5 h6 h7 _ => h3 k l h4 h5 (by omega), fun l h4 h5 => by omega⟩
theorem Ins.next {D : Int → Prop} {lt : Int → Int → Bool} (hO : SWO D lt) {xs0 xs : List Int} {a i j : Nat} (h : Ins lt xs0 xs a i (j + 1)) (hD : ∀ k, k < xs.length → D (gi xs k)) (hi : i < xs.length) (hj : a ≤ j) (hji : j + 1 ≤ i)
    (hl : lt (gi xs (j + 1)) (gi xs j) = true) : Ins lt xs0 (swapAt xs (j + 1) j) a i j := by
  have g := fun k => gi_swap (xs := xs) (i := j + 1) (j := j) (k := k) (by omega) (by omega)
  refine ⟨h.re.swap (by omega) hl, ?_, ?_, ?_⟩
  · refine h.out.trans ⟨(swapAt_length _ _ _).symm, fun k hk => ?_⟩
    rw [g, if_neg (by omega), if_neg (by omega)]
  · intro k l h1 h2 h3 h4 h5
    rw [g l, g k, if_neg h4, if_neg h5]
    by_cases e : k = j + 1
    · subst e
      rw [if_pos rfl, if_neg (by omega)]
      exact h.rest j l hj (by omega) h3 (by omega) (by omega)
    · rw [if_neg e]
      by_cases e2 : l = j + 1
      · subst e2
        rw [if_pos rfl]
        exact h.rest k j h1 (by omega) (by omega) (by omega) (by omega)
      · rw [if_neg e2]
        exact h.rest k l h1 h2 h3 e2 e
  · intro l h1 h2
    rw [g l, g j, if_pos rfl, if_neg (by omega)]
    by_cases e : l = j + 1
    · subst e
      rw [if_pos rfl]
      exact hO.asym _ _ (hD _ (by omega)) (hD _ (by omega)) hl
    · rw [if_neg e]
      exact h.up l (by omega) h2
theorem Ins.stop {D : Int → Prop} {lt : Int → Int → Bool} (hO : SWO D lt) {xs0 xs : List Int} {a i j : Nat} (h : Ins lt xs0 xs a i j) (hD : ∀ k, k < xs.length → D (gi xs k)) (hi : i < xs.length) (hj : a ≤ j) (hji : j ≤ i)
    (hs : j = a ∨ (a < j ∧ lt (gi xs j) (gi xs (j - 1)) = false)) : Rearr lt xs0 xs ∧ SameOut xs0 xs a (i + 1) ∧ SortedOn lt xs a (i + 1) := by
  refine ⟨h.re, h.out, fun k l h1 h2 h3 => ?_⟩
  by_cases e1 : l = j
  · subst e1
    rcases hs with hs | ⟨_, hs⟩
    · omega
    · by_cases e : k = l - 1
      · subst e; exact hs
      · exact hO.neg _ _ _ (hD _ (by omega)) (hD _ (by omega)) (hD _ (by omega)) hs (h.rest k (l - 1) h1 (by omega) (by omega) (by omega) (by omega))
  · by_cases e2 : k = j
    · subst e2; exact h.up l h2 (by omega)
    · exact h.rest k l h1 h2 (by omega) e1 e2
end Go.Proofs.YtpbmmdoodmbneaaGreatDoor
