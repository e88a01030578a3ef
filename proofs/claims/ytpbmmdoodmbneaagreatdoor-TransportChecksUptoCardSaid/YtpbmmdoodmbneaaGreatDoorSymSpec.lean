/- The merge of two sorted runs in place, in plain Lean. -/
import Derived.Test.YtpbmmdoodmbneaaGreatDoorSort
namespace Go.Proofs.YtpbmmdoodmbneaaGreatDoor

theorem gi_out {xs : List Int} {k : Nat} (h : xs.length ≤ k) : gi xs k = 0 := by simp [gi, h]
theorem gi_app (A B : List Int) (k : Nat) : gi (A ++ B) k = if k < A.length then gi A k else gi B (k - A.length) := by
  split
  · rename_i h; exact gi_append_left h
  · rename_i h; simp [gi, List.getElem?_append_right (show A.length ≤ k by omega)]
theorem gi_tk (xs : List Int) (n k : Nat) : gi (xs.take n) k = if k < n then gi xs k else 0 := by
  split
  · rename_i h; exact gi_take h
  · rename_i h; exact gi_out (by simp; omega)

/-- the places from a to m and those from m to e exchanged -/
def rot (xs : List Int) (a m e : Nat) : List Int := (List.range xs.length).map fun k => if k < a then gi xs k else if k < a + (e - m) then gi xs (k - a + m) else if k < e then gi xs (k - (e - m)) else gi xs k
/-- n places from a on and n from b on exchanged -/
def swp (xs : List Int) (a b n : Nat) : List Int := (List.range xs.length).map fun k => if a ≤ k ∧ k < a + n then gi xs (k - a + b) else if b ≤ k ∧ k < b + n then gi xs (k - b + a) else gi xs k
theorem rot_length (xs a m e) : (rot xs a m e).length = xs.length := by simp [rot]
theorem swp_length (xs a b n) : (swp xs a b n).length = xs.length := by simp [swp]
theorem gi_rot {xs : List Int} {a m e : Nat} (h1 : a ≤ m) (h2 : m ≤ e) (h3 : e ≤ xs.length) (k : Nat) :
    gi (rot xs a m e) k = if k < a then gi xs k else if k < a + (e - m) then gi xs (k - a + m) else if k < e then gi xs (k - (e - m)) else gi xs k := by
  by_cases h : k < xs.length
  · rw [gi_lt (by simpa [rot] using h)]; simp [rot]
  · rw [gi_out (by rw [rot_length]; omega), if_neg (by omega), if_neg (by omega), if_neg (by omega), gi_out (by omega)]
theorem gi_swp {xs : List Int} {a b n : Nat} (h1 : a + n ≤ b) (h2 : b + n ≤ xs.length) (k : Nat) :
    gi (swp xs a b n) k = if a ≤ k ∧ k < a + n then gi xs (k - a + b) else if b ≤ k ∧ k < b + n then gi xs (k - b + a) else gi xs k := by
  by_cases h : k < xs.length
  · rw [gi_lt (by simpa [swp] using h)]; simp [swp]
  · rw [gi_out (by rw [swp_length]; omega), if_neg (by omega), if_neg (by omega), gi_out (by omega)]

theorem rot_append {xs : List Int} {a m e : Nat} (h1 : a ≤ m) (h2 : m ≤ e) (h3 : e ≤ xs.length) : rot xs a m e = xs.take a ++ ((xs.drop m).take (e - m) ++ ((xs.drop a).take (m - a) ++ xs.drop e)) := by
  apply gi_ext
  · simp [rot]; omega
  · intro k hk
    have l1 : (xs.take a).length = a := by simp; omega
    have l2 : ((xs.drop m).take (e - m)).length = e - m := by simp; omega
    have l3 : ((xs.drop a).take (m - a)).length = m - a := by simp; omega
    rw [gi_rot h1 h2 h3, gi_app, gi_app, gi_app, l1, l2, l3, gi_tk, gi_tk, gi_tk, gi_drop, gi_drop, gi_drop]
    repeat' split
    all_goals first
      | omega
      | (congr 1; omega)
theorem split_append {xs : List Int} {a m e : Nat} (h1 : a ≤ m) (h2 : m ≤ e) (h3 : e ≤ xs.length) : xs = xs.take a ++ ((xs.drop a).take (m - a) ++ ((xs.drop m).take (e - m) ++ xs.drop e)) := by
  apply gi_ext
  · simp; omega
  · intro k hk
    have l1 : (xs.take a).length = a := by simp; omega
    have l2 : ((xs.drop m).take (e - m)).length = e - m := by simp; omega
    have l3 : ((xs.drop a).take (m - a)).length = m - a := by simp; omega
    rw [gi_app, gi_app, gi_app, l1, l2, l3, gi_tk, gi_tk, gi_tk, gi_drop, gi_drop, gi_drop]
    repeat' split
    all_goals first
      | omega
      | (congr 1; omega)

theorem Rearr.rot {lt : Int → Int → Bool} {xs ys : List Int} {a m e : Nat} (h : Rearr lt xs ys) (h1 : a ≤ m) (h2 : m ≤ e) (h3 : e ≤ ys.length)
    (hl : ∀ i k, a ≤ i → i < m → m ≤ k → k < e → lt (gi ys k) (gi ys i) = true) : Rearr lt xs (rot ys a m e) := by
  rw [rot_append h1 h2 h3]
  refine .step _ _ _ _ _ ?_ ?_
  · rw [← split_append h1 h2 h3]; exact h
  · intro x hx y hy
    obtain ⟨i, hi, rfl⟩ := mem_gi hx
    obtain ⟨k, hk, rfl⟩ := mem_gi hy
    have l2 : ((ys.drop m).take (e - m)).length = e - m := by simp; omega
    have l3 : ((ys.drop a).take (m - a)).length = m - a := by simp; omega
    rw [gi_take (by omega), gi_take (by omega), gi_drop, gi_drop]
    exact hl _ _ (by omega) (by omega) (by omega) (by omega)

theorem swp_zero (xs a b) : swp xs a b 0 = xs := by
  apply gi_ext
  · simp [swp]
  · intro k hk
    rw [gi_lt hk]; simp [swp]
    rw [if_neg (by omega), if_neg (by omega), gi_lt (by simpa [swp] using hk)]
theorem swp_succ {xs : List Int} {a b n : Nat} (h1 : a + (n + 1) ≤ b) (h2 : b + (n + 1) ≤ xs.length) : swapAt (swp xs a b n) (a + n) (b + n) = swp xs a b (n + 1) := by
  apply gi_ext
  · simp [swp, swapAt]
  · intro k hk
    rw [gi_swap (by rw [swp_length]; omega) (by rw [swp_length]; omega), gi_swp h1 h2, gi_swp (by omega) (by omega), gi_swp (by omega) (by omega), gi_swp (by omega) (by omega)]
    repeat' split
    all_goals first
      | omega
      | (congr 1; omega)
theorem rot_nil_left {xs : List Int} {m e : Nat} (h2 : m ≤ e) (h3 : e ≤ xs.length) : rot xs m m e = xs := by
  apply gi_ext
  · simp [rot]
  · intro k hk
    rw [gi_rot (Nat.le_refl _) h2 h3]
    repeat' split
    all_goals first
      | omega
      | (congr 1; omega)
theorem rot_nil_right {xs : List Int} {a m : Nat} (h2 : a ≤ m) (h3 : m ≤ xs.length) : rot xs a m m = xs := by
  apply gi_ext
  · simp [rot]
  · intro k hk
    rw [gi_rot h2 (Nat.le_refl _) h3]
    repeat' split
    all_goals first
      | omega
      | (congr 1; omega)
theorem rot_gt {ys : List Int} {m i j : Nat} (h1 : i ≤ m) (h2 : j ≤ i) (h3 : m + j ≤ ys.length) : rot (swp ys (m - i) m j) (m - (i - j)) m (m + j) = rot ys (m - i) m (m + j) := by
  apply gi_ext
  · simp [rot, swp]
  · intro k hk
    rw [gi_rot (by omega) (by omega) (by rw [swp_length]; omega), gi_rot (by omega) (by omega) h3]
    simp only [gi_swp (show m - i + j ≤ m by omega) h3]
    repeat' split
    all_goals first
      | omega
      | (congr 1; omega)
theorem rot_lt {ys : List Int} {m i j : Nat} (h1 : i ≤ m) (h2 : i ≤ j) (h3 : m + j ≤ ys.length) : rot (swp ys (m - i) (m + j - i) i) (m - i) m (m + (j - i)) = rot ys (m - i) m (m + j) := by
  apply gi_ext
  · simp [rot, swp]
  · intro k hk
    rw [gi_rot (by omega) (by omega) (by rw [swp_length]; omega), gi_rot (by omega) (by omega) h3]
    simp only [gi_swp (show m - i + i ≤ m + j - i by omega) (show m + j - i + i ≤ ys.length by omega)]
    repeat' split
    all_goals first
      | omega
      | (congr 1; omega)
theorem rot_eq {ys : List Int} {m i : Nat} (h1 : i ≤ m) (h3 : m + i ≤ ys.length) : swp ys (m - i) m i = rot ys (m - i) m (m + i) := by
  apply gi_ext
  · simp [rot, swp]
  · intro k hk
    rw [gi_rot (by omega) (by omega) h3, gi_swp (by omega) h3]
    repeat' split
    all_goals first
      | omega
      | (congr 1; omega)
theorem rot_up {xs : List Int} {a k : Nat} (h : a ≤ k) (h2 : k + 2 ≤ xs.length) : swapAt (rot xs a (a + 1) (k + 1)) k (k + 1) = rot xs a (a + 1) (k + 2) := by
  apply gi_ext
  · simp [rot, swapAt]
  · intro l hl
    rw [gi_swap (by rw [rot_length]; omega) (by rw [rot_length]; omega), gi_rot (by omega) (by omega) (by omega), gi_rot (by omega) (by omega) (by omega), gi_rot (by omega) (by omega) (by omega), gi_rot (by omega) (by omega) (by omega)]
    repeat' split
    all_goals first
      | omega
      | (congr 1; omega)
theorem rot_down {xs : List Int} {m k : Nat} (h : k + 1 ≤ m) (h2 : m + 1 ≤ xs.length) : swapAt (rot xs (k + 1) m (m + 1)) (k + 1) k = rot xs k m (m + 1) := by
  apply gi_ext
  · simp [rot, swapAt]
  · intro l hl
    rw [gi_swap (by rw [rot_length]; omega) (by rw [rot_length]; omega), gi_rot (by omega) (by omega) (by omega), gi_rot (by omega) (by omega) (by omega), gi_rot (by omega) (by omega) (by omega), gi_rot (by omega) (by omega) (by omega)]
    repeat' split
    all_goals first
      | omega
      | (congr 1; omega)

theorem rot_same {xs : List Int} {a m e a' e' : Nat} (h1 : a ≤ m) (h2 : m ≤ e) (h3 : e ≤ xs.length) (ha : a' ≤ a) (he : e ≤ e') : SameOut xs (rot xs a m e) a' e' := by
  refine ⟨(rot_length _ _ _ _).symm, fun k hk => ?_⟩
  rw [gi_rot h1 h2 h3]
  repeat' split
  all_goals first
    | omega
    | rfl

/-- what a merge leaves -/
structure Merged (lt : Int → Int → Bool) (xs ys : List Int) (a b : Nat) : Prop where
  re : Rearr lt xs ys
  out : SameOut xs ys a b
  srt : SortedOn lt ys a b

variable {D : Int → Prop} {lt : Int → Int → Bool} {xs : List Int}

theorem merged_refl {a b : Nat} (h : SortedOn lt xs a b) : Merged lt xs xs a b := ⟨.refl _, SameOut.refl _ _ _, h⟩

section searches
variable (hO : SWO D lt) (hD : ∀ k, k < xs.length → D (gi xs k)) {a m b : Nat}
include hO hD

/-- the first search: data[h] < data[a] -/
theorem s1_down (hb : b ≤ xs.length) (ha : a < m) (h2 : SortedOn lt xs m b) {h h' : Nat} (hm : m ≤ h') (hh : h' ≤ h) (hl : h < b) (ht : lt (gi xs h) (gi xs a) = true) : lt (gi xs h') (gi xs a) = true := by
  by_cases e : h' = h
  · subst e; exact ht
  · cases hc : lt (gi xs h') (gi xs a) with
    | true => rfl
    | false => rw [← ht]; exact (hO.neg _ _ _ (hD _ (by omega)) (hD _ (by omega)) (hD _ (by omega)) (h2 h' h hm (by omega) hl) hc).symm
theorem s1_up (hb : b ≤ xs.length) (ha : a < m) (h2 : SortedOn lt xs m b) {h h' : Nat} (hm : m ≤ h) (hh : h ≤ h') (hl : h' < b) (ht : lt (gi xs h) (gi xs a) = false) : lt (gi xs h') (gi xs a) = false := by
  by_cases e : h' = h
  · subst e; exact ht
  · exact hO.neg _ _ _ (hD _ (by omega)) (hD _ (by omega)) (hD _ (by omega)) (h2 h h' hm (by omega) hl) ht
/-- the second search: not data[m] < data[h] -/
theorem s2_down (hb : m < xs.length) (h1 : SortedOn lt xs a m) {h h' : Nat} (hm : a ≤ h') (hh : h' ≤ h) (hl : h < m) (ht : lt (gi xs m) (gi xs h) = false) : lt (gi xs m) (gi xs h') = false := by
  by_cases e : h' = h
  · subst e; exact ht
  · exact hO.neg _ _ _ (hD _ (by omega)) (hD _ (by omega)) (hD _ (by omega)) ht (h1 h' h hm (by omega) hl)
theorem s2_up (hb : m < xs.length) (h1 : SortedOn lt xs a m) {h h' : Nat} (hm : a ≤ h) (hh : h ≤ h') (hl : h' < m) (ht : lt (gi xs m) (gi xs h) = true) : lt (gi xs m) (gi xs h') = true := by
  by_cases e : h' = h
  · subst e; exact ht
  · cases hc : lt (gi xs m) (gi xs h') with
    | true => rfl
    | false => rw [← ht]; exact (hO.neg _ _ _ (hD _ (by omega)) (hD _ (by omega)) (hD _ (by omega)) hc (h1 h h' hm (by omega) hl)).symm
/-- the third search: not data[p-c] < data[c] -/
theorem s3_down (hb : b ≤ xs.length) (h1 : SortedOn lt xs a m) (h2 : SortedOn lt xs m b) {p c c' : Nat} (ha : a ≤ c') (hc : c' ≤ c) (hm : c < m) (hp : c ≤ p) (hp1 : m ≤ p - c) (hp2 : p - c' < b)
    (ht : lt (gi xs (p - c)) (gi xs c) = false) : lt (gi xs (p - c')) (gi xs c') = false := by
  by_cases e : c' = c
  · subst e; exact ht
  · have a1 := h2 (p - c) (p - c') hp1 (by omega) hp2
    have a2 := h1 c' c ha (by omega) hm
    exact hO.neg _ _ _ (hD _ (by omega)) (hD _ (by omega)) (hD _ (by omega)) (hO.neg _ _ _ (hD _ (by omega)) (hD _ (by omega)) (hD _ (by omega)) a1 ht) a2
theorem s3_up (hb : b ≤ xs.length) (h1 : SortedOn lt xs a m) (h2 : SortedOn lt xs m b) {p c c' : Nat} (ha : a ≤ c) (hc : c ≤ c') (hm : c' < m) (hp : c' ≤ p) (hp1 : m ≤ p - c') (hp2 : p - c < b)
    (ht : lt (gi xs (p - c)) (gi xs c) = true) : lt (gi xs (p - c')) (gi xs c') = true := by
  cases hx : lt (gi xs (p - c')) (gi xs c') with
  | true => rfl
  | false => rw [← ht]; exact (s3_down hO hD hb h1 h2 ha hc hm hp hp1 hp2 hx).symm

theorem one_left (hb : b ≤ xs.length) (h2 : SortedOn lt xs (a + 1) b) {i : Nat} (hi1 : a + 1 ≤ i) (hi2 : i ≤ b) (hd : ∀ h, a + 1 ≤ h → h < i → lt (gi xs h) (gi xs a) = true) (hu : ∀ h, i ≤ h → h < b → lt (gi xs h) (gi xs a) = false) :
    Merged lt xs (rot xs a (a + 1) i) a b := by
  have hr : ∀ j k, a ≤ j → j < a + 1 → a + 1 ≤ k → k < i → lt (gi xs k) (gi xs j) = true := fun j k h3 h4 h5 h6 => by
    have e : j = a := by omega
    rw [e]; exact hd k h5 h6
  have g1 : ∀ k, a ≤ k → k + 1 < i → gi (rot xs a (a + 1) i) k = gi xs (k + 1) := fun k h h' => by
    rw [gi_rot (by omega) hi1 (by omega)]
    repeat' split
    all_goals first
      | omega
      | (congr 1; omega)
  have g2 : ∀ k, k + 1 = i → gi (rot xs a (a + 1) i) k = gi xs a := fun k h => by
    rw [gi_rot (by omega) hi1 (by omega)]
    repeat' split
    all_goals first
      | omega
      | (congr 1; omega)
  have g3 : ∀ k, i ≤ k → gi (rot xs a (a + 1) i) k = gi xs k := fun k h => by
    rw [gi_rot (by omega) hi1 (by omega)]
    repeat' split
    all_goals first
      | omega
      | (congr 1; omega)
  refine ⟨(Rearr.refl _).rot (by omega) hi1 (by omega) hr, rot_same (by omega) hi1 (by omega) (Nat.le_refl _) hi2, fun k l h3 h4 h5 => ?_⟩
  by_cases e1 : l + 1 < i
  · rw [g1 k h3 (by omega), g1 l (by omega) e1]
    exact h2 _ _ (by omega) (by omega) (by omega)
  · by_cases e2 : l + 1 = i
    · rw [g2 l e2, g1 k h3 (by omega)]
      exact hO.asym _ _ (hD _ (by omega)) (hD _ (by omega)) (hd _ (by omega) (by omega))
    · rw [g3 l (by omega)]
      by_cases e3 : k + 1 < i
      · rw [g1 k h3 e3]; exact h2 _ _ (by omega) (by omega) (by omega)
      · by_cases e4 : k + 1 = i
        · rw [g2 k e4]; exact hu l (by omega) h5
        · rw [g3 k (by omega)]; exact h2 _ _ (by omega) (by omega) (by omega)
theorem one_right (hb : m + 1 ≤ xs.length) (h1 : SortedOn lt xs a m) {i : Nat} (hi1 : a ≤ i) (hi2 : i ≤ m) (hd : ∀ h, a ≤ h → h < i → lt (gi xs m) (gi xs h) = false) (hu : ∀ h, i ≤ h → h < m → lt (gi xs m) (gi xs h) = true) :
    Merged lt xs (rot xs i m (m + 1)) a (m + 1) := by
  have hr : ∀ j k, i ≤ j → j < m → m ≤ k → k < m + 1 → lt (gi xs k) (gi xs j) = true := fun j k h3 h4 h5 h6 => by
    have e : k = m := by omega
    rw [e]; exact hu j h3 h4
  have g1 : ∀ k, k < i → gi (rot xs i m (m + 1)) k = gi xs k := fun k h => by
    rw [gi_rot hi2 (by omega) hb]
    repeat' split
    all_goals first
      | omega
      | (congr 1; omega)
  have g2 : gi (rot xs i m (m + 1)) i = gi xs m := by
    rw [gi_rot hi2 (by omega) hb]
    repeat' split
    all_goals first
      | omega
      | (congr 1; omega)
  have g3 : ∀ k, i < k → k < m + 1 → gi (rot xs i m (m + 1)) k = gi xs (k - 1) := fun k h h' => by
    rw [gi_rot hi2 (by omega) hb]
    repeat' split
    all_goals first
      | omega
      | (congr 1; omega)
  refine ⟨(Rearr.refl _).rot hi2 (by omega) hb hr, rot_same hi2 (by omega) hb hi1 (Nat.le_refl _), fun k l h3 h4 h5 => ?_⟩
  by_cases e1 : l < i
  · rw [g1 l e1, g1 k (by omega)]; exact h1 _ _ h3 h4 (by omega)
  · by_cases e2 : l = i
    · rw [e2, g2, g1 k (by omega)]; exact hd k h3 (by omega)
    · rw [g3 l (by omega) h5]
      by_cases e3 : k < i
      · rw [g1 k e3]; exact h1 _ _ h3 (by omega) (by omega)
      · by_cases e4 : k = i
        · rw [e4, g2]
          exact hO.asym _ _ (hD _ (by omega)) (hD _ (by omega)) (hu _ (by omega) (by omega))
        · rw [g3 k (by omega) (by omega)]; exact h1 _ _ (by omega) (by omega) (by omega)

/-- the exchange between the two halves -/
structure Halves (lt : Int → Int → Bool) (xs ys : List Int) (a s mid e b : Nat) : Prop where
  re : Rearr lt xs ys
  out : SameOut xs ys a b
  s1 : SortedOn lt ys a s
  s2 : SortedOn lt ys s mid
  s3 : SortedOn lt ys mid e
  s4 : SortedOn lt ys e b
  cross : ∀ u v, a ≤ u → u < mid → mid ≤ v → v < b → lt (gi ys v) (gi ys u) = false

theorem halves (hb : b ≤ xs.length) (h1 : SortedOn lt xs a m) (h2 : SortedOn lt xs m b) {lo r s mid : Nat} (hs1 : lo ≤ s) (hs2 : s ≤ r) (ham : a ≤ mid) (hmb : mid ≤ b) (has : a ≤ s) (hsm : s ≤ m) (hsd : s ≤ mid) (heb : mid + m - s ≤ b) (hem : m ≤ mid + m - s)
    (hlo : s = lo → s = a ∨ mid + m - s = b) (hr : s = r → s = m ∨ mid = s)
    (hd : ∀ c, lo ≤ c → c < s → lt (gi xs (mid + m - 1 - c)) (gi xs c) = false) (hu : ∀ c, s ≤ c → c < r → lt (gi xs (mid + m - 1 - c)) (gi xs c) = true) :
    Halves lt xs (rot xs s m (mid + m - s)) a s mid (mid + m - s) b := by
  have hel : mid + m - s ≤ xs.length := by omega
  have hXY : ∀ i k, s ≤ i → i < m → m ≤ k → k < mid + m - s → lt (gi xs k) (gi xs i) = true := by
    intro i k h3 h4 h5 h6
    have hsr : s < r := by
      rcases Nat.eq_or_lt_of_le hs2 with e | e
      · rcases hr e with e | e <;> omega
      · exact e
    have h7 := hu s (Nat.le_refl _) hsr
    cases hc : lt (gi xs k) (gi xs i) with
    | true => rfl
    | false =>
      rw [← h7]
      have a1 : lt (gi xs (mid + m - 1 - s)) (gi xs i) = false := by
        by_cases e : mid + m - 1 - s = k
        · rw [e]; exact hc
        · exact hO.neg _ _ _ (hD _ (by omega)) (hD _ (by omega)) (hD _ (by omega)) (h2 k (mid + m - 1 - s) h5 (by omega) (by omega)) hc
      by_cases e : i = s
      · subst e; exact a1.symm
      · exact (hO.neg _ _ _ (hD _ (by omega)) (hD _ (by omega)) (hD _ (by omega)) a1 (h1 s i has (by omega) h4)).symm
  have g1 : ∀ k, k < s → gi (rot xs s m (mid + m - s)) k = gi xs k := fun k h => by
    rw [gi_rot hsm hem hel]
    repeat' split
    all_goals first
      | omega
      | (congr 1; omega)
  have g2 : ∀ k, s ≤ k → k < mid → gi (rot xs s m (mid + m - s)) k = gi xs (k - s + m) := fun k h h' => by
    rw [gi_rot hsm hem hel]
    repeat' split
    all_goals first
      | omega
      | (congr 1; omega)
  have g3 : ∀ k, mid ≤ k → k < mid + m - s → gi (rot xs s m (mid + m - s)) k = gi xs (k - (mid - s)) := fun k h h' => by
    rw [gi_rot hsm hem hel]
    repeat' split
    all_goals first
      | omega
      | (congr 1; omega)
  have g4 : ∀ k, mid + m - s ≤ k → gi (rot xs s m (mid + m - s)) k = gi xs k := fun k h => by
    rw [gi_rot hsm hem hel]
    repeat' split
    all_goals first
      | omega
      | (congr 1; omega)
  refine ⟨(Rearr.refl _).rot hsm hem hel hXY, rot_same hsm hem hel has heb, ?_, ?_, ?_, ?_, ?_⟩
  · intro k l h3 h4 h5
    rw [g1 k (by omega), g1 l h5]; exact h1 _ _ h3 h4 (by omega)
  · intro k l h3 h4 h5
    rw [g2 k h3 (by omega), g2 l (by omega) h5]; exact h2 _ _ (by omega) (by omega) (by omega)
  · intro k l h3 h4 h5
    rw [g3 k h3 (by omega), g3 l (by omega) h5]; exact h1 _ _ (by omega) (by omega) (by omega)
  · intro k l h3 h4 h5
    rw [g4 k h3, g4 l (by omega)]; exact h2 _ _ (by omega) (by omega) (by omega)
  · intro u v h3 h4 h5 h6
    by_cases e1 : v < mid + m - s
    · rw [g3 v h5 e1]
      by_cases e2 : u < s
      · rw [g1 u e2]; exact h1 _ _ h3 (by omega) (by omega)
      · rw [g2 u (by omega) h4]
        exact hO.asym _ _ (hD _ (by omega)) (hD _ (by omega)) (hXY _ _ (by omega) (by omega) (by omega) (by omega))
    · rw [g4 v (by omega)]
      by_cases e2 : u < s
      · rw [g1 u e2]
        have hls : lo < s := by
          rcases Nat.eq_or_lt_of_le hs1 with e | e
          · rcases hlo e.symm with e | e <;> omega
          · exact e
        have a1 := hd (s - 1) (by omega) (by omega)
        rw [show mid + m - 1 - (s - 1) = mid + m - s by omega] at a1
        have a2 : lt (gi xs v) (gi xs (s - 1)) = false := by
          by_cases e : v = mid + m - s
          · rw [e]; exact a1
          · exact hO.neg _ _ _ (hD _ (by omega)) (hD _ (by omega)) (hD _ (by omega)) (h2 _ _ hem (by omega) h6) a1
        by_cases e : u = s - 1
        · rw [e]; exact a2
        · exact hO.neg _ _ _ (hD _ (by omega)) (hD _ (by omega)) (hD _ (by omega)) a2 (h1 u (s - 1) h3 (by omega) (by omega))
      · rw [g2 u (by omega) h4]; exact h2 _ _ (by omega) (by omega) h6
end searches

/-- the elements of the places from a to b stay there -/
theorem range_mem {ys zs : List Int} {a b : Nat} (hp : zs.Perm ys) (ho : SameOut ys zs a b) (hab : a ≤ b) (hb : b ≤ ys.length) {k : Nat} (h1 : a ≤ k) (h2 : k < b) : ∃ k', a ≤ k' ∧ k' < b ∧ gi zs k = gi ys k' := by
  have hl := ho.1
  have e1 : ys = ys.take a ++ ((ys.drop a).take (b - a) ++ ys.drop b) := by
    have := split_append (xs := ys) hab (Nat.le_refl b) hb
    simpa using this
  have e2 : zs = zs.take a ++ ((zs.drop a).take (b - a) ++ zs.drop b) := by
    have := split_append (xs := zs) hab (Nat.le_refl b) (by omega)
    simpa using this
  have t : zs.take a = ys.take a := by
    apply gi_ext
    · simp; omega
    · intro i hi; simp at hi; rw [gi_take (by omega), gi_take (by omega)]; exact (ho.2 i (by omega)).symm
  have d : zs.drop b = ys.drop b := by
    apply gi_ext
    · simp; omega
    · intro i hi; rw [gi_drop, gi_drop]; exact (ho.2 _ (by omega)).symm
  have hp2 : ((zs.drop a).take (b - a)).Perm ((ys.drop a).take (b - a)) := by
    rw [e1, e2, t, d] at hp
    exact (List.perm_append_right_iff _).1 ((List.perm_append_left_iff _).1 hp)
  have hm : gi zs k ∈ (zs.drop a).take (b - a) := by
    have : gi ((zs.drop a).take (b - a)) (k - a) = gi zs k := by rw [gi_take (by omega), gi_drop]; congr 1; omega
    rw [← this]; exact gi_mem (by simp; omega)
  obtain ⟨i, hi, he⟩ := mem_gi (hp2.mem_iff.1 hm)
  have hi' : i < b - a := by simp at hi; omega
  rw [gi_take hi', gi_drop] at he
  exact ⟨a + i, by omega, by omega, he.symm⟩

theorem sorted_join {a s mid : Nat} (h1 : SortedOn lt xs a s) (h2 : SortedOn lt xs s mid) (h : a = s ∨ s = mid) : SortedOn lt xs a mid := by
  rcases h with rfl | rfl
  · exact h2
  · exact h1
theorem sorted_same {ys : List Int} {a b c d : Nat} (h : SortedOn lt xs a b) (ho : SameOut xs ys c d) (hd : b ≤ c ∨ d ≤ a) : SortedOn lt ys a b := by
  intro k l h1 h2 h3
  rw [← ho.2 k (by omega), ← ho.2 l (by omega)]
  exact h k l h1 h2 h3

theorem merge_done {ys z1 z2 : List Int} {a s mid e b : Nat} (hh : Halves lt xs ys a s mid e b) (ham : a ≤ mid) (hmb : mid ≤ b) (hb : b ≤ xs.length) (m1 : Merged lt ys z1 a mid) (m2 : Merged lt z1 z2 mid b) : Merged lt xs z2 a b := by
  have l1 := hh.out.1
  have l2 := m1.out.1
  refine ⟨(hh.re.trans m1.re).trans m2.re, hh.out.trans ((m1.out.mono (Nat.le_refl _) hmb).trans (m2.out.mono ham (Nat.le_refl _))), fun k l h1 h2 h3 => ?_⟩
  by_cases e1 : l < mid
  · rw [← m2.out.2 l (by omega), ← m2.out.2 k (by omega)]; exact m1.srt k l h1 h2 e1
  · by_cases e2 : mid ≤ k
    · exact m2.srt k l e2 h2 h3
    · obtain ⟨v, v1, v2, v3⟩ := range_mem m2.re.perm m2.out hmb (by omega) (show mid ≤ l by omega) h3
      rw [← m2.out.2 k (by omega), v3, ← m1.out.2 v (by omega)]
      obtain ⟨u, u1, u2, u3⟩ := range_mem m1.re.perm m1.out ham (by omega) h1 (show k < mid by omega)
      rw [u3]
      exact hh.cross u v u1 u2 v1 v2
end Go.Proofs.YtpbmmdoodmbneaaGreatDoor
