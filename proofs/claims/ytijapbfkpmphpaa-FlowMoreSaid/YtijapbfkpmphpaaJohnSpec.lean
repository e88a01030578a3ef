/- What Johnson's rule computes, in plain Lean. -/
import Derived.Test.YtijapbfkpmphpaaSort
import Derived.Test.YtijapbfkpmphpaaFlowSpec
namespace Go.Proofs.Ytijapbfkpmphpaa

def cmpV (a b : Int) : Int := if a < b then -1 else if b < a then 1 else 0
def mA (p : List (List Int)) (j : Int) : Int := gi (ri p j.toNat) 0
def mB (p : List (List Int)) (j : Int) : Int := gi (ri p j.toNat) 1
def lateV (p : List (List Int)) (j : Int) : Int := if mA p j ≤ mB p j then 0 else 1
def cJ (p : List (List Int)) (x y : Int) : Int :=
  if cmpV (lateV p x) (lateV p y) ≠ 0 then cmpV (lateV p x) (lateV p y) else if lateV p x = 0 then mA p x - mA p y else mB p y - mB p x
/-- the order of the reference -/
def befV (p : List (List Int)) (i j : Int) : Bool :=
  if (decide (mA p i ≤ mB p i) != decide (mA p j ≤ mB p j)) = true then decide (mA p i ≤ mB p i)
  else if mA p i ≤ mB p i ∧ mA p i ≠ mA p j then decide (mA p i < mA p j)
  else if mB p i < mA p i ∧ mB p i ≠ mB p j then decide (mB p j < mB p i)
  else decide (i < j)

theorem lateV_range (p j) : lateV p j = 0 ∨ lateV p j = 1 := by unfold lateV; split <;> simp
theorem cJ_lt (p : List (List Int)) (x y : Int) : cJ p x y < 0 ↔ (mA p x ≤ mB p x ∧ mB p y < mA p y) ∨ (mA p x ≤ mB p x ∧ mA p y ≤ mB p y ∧ mA p x < mA p y) ∨ (mB p x < mA p x ∧ mB p y < mA p y ∧ mB p y < mB p x) := by
  unfold cJ lateV cmpV
  by_cases h1 : mA p x ≤ mB p x <;> by_cases h2 : mA p y ≤ mB p y <;> simp [h1, h2] <;> omega
theorem befV_iff (p : List (List Int)) (x y : Int) : befV p x y = true ↔ cJ p x y < 0 ∨ (¬ cJ p x y < 0 ∧ ¬ cJ p y x < 0 ∧ x < y) := by
  rw [cJ_lt, cJ_lt]
  unfold befV
  by_cases h1 : mA p x ≤ mB p x <;> by_cases h2 : mA p y ≤ mB p y
  · simp only [h1, h2, decide_true, bne_self_eq_false, Bool.false_eq_true, if_false, true_and]
    split
    · simp; omega
    · rw [if_neg (by omega)]; simp; omega
  · simp [h1, h2]; omega
  · simp [h1, h2]; omega
  · simp only [h1, h2, decide_false, bne_self_eq_false, Bool.false_eq_true, if_false, false_and]
    split
    · simp; omega
    · simp; omega
theorem swo_J (p : List (List Int)) (D : Int → Prop) : SWO D (ltOf (cJ p)) := by
  constructor
  · intro x _
    have := cJ_lt p x x
    simp only [ltOf, decide_eq_false_iff_not]; omega
  · intro x y _ _ h
    have h1 := cJ_lt p x y
    have h2 := cJ_lt p y x
    simp only [ltOf, decide_eq_false_iff_not, decide_eq_true_eq] at *; omega
  · intro x y z _ _ _ h k
    have h1 := cJ_lt p x y
    have h2 := cJ_lt p y z
    have h3 := cJ_lt p x z
    simp only [ltOf, decide_eq_false_iff_not] at *; omega

theorem befV_total (p : List (List Int)) {x y : Int} (h : x ≠ y) : befV p x y = true ∨ befV p y x = true := by
  rw [befV_iff, befV_iff]; omega
theorem befV_asym (p : List (List Int)) {x y : Int} (h : befV p x y = true) : befV p y x = false := by
  rw [Bool.eq_false_iff]; intro k
  rw [befV_iff] at h k
  have h1 := cJ_lt p x y
  have h2 := cJ_lt p y x
  omega
theorem befV_trans (p : List (List Int)) {x y z : Int} (h : befV p x y = true) (k : befV p y z = true) : befV p x z = true := by
  rw [befV_iff] at h k ⊢
  have hO := swo_J p (fun _ => True)
  have asym : ∀ x y, cJ p x y < 0 → ¬ cJ p y x < 0 := fun x y h => by simpa [ltOf] using hO.asym x y trivial trivial (by simpa [ltOf] using h)
  have neg : ∀ x y z, ¬ cJ p x y < 0 → ¬ cJ p y z < 0 → ¬ cJ p x z < 0 := fun x y z h k => by simpa [ltOf] using hO.neg x y z trivial trivial trivial (by simpa [ltOf] using h) (by simpa [ltOf] using k)
  rcases h with h | ⟨h1, h2, h3⟩
  · have hzy : ¬ cJ p z y < 0 := by
      rcases k with k | ⟨_, k, _⟩
      · exact asym _ _ k
      · exact k
    refine .inl (Decidable.byContradiction fun hc => ?_)
    exact neg x z y hc hzy h
  · rcases k with k | ⟨k1, k2, k3⟩
    · refine .inl (Decidable.byContradiction fun hc => ?_)
      exact neg y x z h2 hc k
    · exact .inr ⟨neg _ _ _ h1 k1, neg _ _ _ k2 h2, by omega⟩

/-- one step of the choice: the least of the jobs below k that are not in l, -1 if there is none -/
def nextJ (p : List (List Int)) (l : List Int) : Nat → Int
  | 0 => -1
  | k + 1 => if (!(l.any fun y => (k : Int) == y) && (decide (nextJ p l k < 0) || befV p k (nextJ p l k))) = true then (k : Int) else nextJ p l k
theorem nextJ_succ (p : List (List Int)) (l : List Int) (k : Nat) : nextJ p l (k + 1) = if (!(l.any fun y => (k : Int) == y) && (decide (nextJ p l k < 0) || befV p k (nextJ p l k))) = true then (k : Int) else nextJ p l k := rfl
/-- the jobs that are chosen first -/
def selJ (p : List (List Int)) : Nat → List Int
  | 0 => []
  | k + 1 => selJ p k ++ [nextJ p (selJ p k) p.length]
def johnE (p : List (List Int)) : Int := if checkE p ≠ 0 then checkE p else if 0 < p.length ∧ (ri p 0).length ≠ 2 then 17 else 0
def johnL (p : List (List Int)) : List Int := if johnE p ≠ 0 then [] else selJ p p.length

theorem selJ_length (p k) : (selJ p k).length = k := by induction k with | zero => rfl | succ k ih => simp [selJ, ih]

theorem nextJ_spec (p : List (List Int)) (l : List Int) (k : Nat) : (nextJ p l k = -1 ∧ ∀ j : Nat, j < k → (j : Int) ∈ l) ∨
    (0 ≤ nextJ p l k ∧ nextJ p l k < k ∧ nextJ p l k ∉ l ∧ ∀ j : Nat, j < k → (j : Int) ∉ l → (j : Int) ≠ nextJ p l k → befV p (nextJ p l k) j = true) := by
  induction k with
  | zero => exact .inl ⟨rfl, fun j h => by omega⟩
  | succ k ih =>
    have hm : (l.any fun y => (k : Int) == y) = true ↔ (k : Int) ∈ l := by simp
    by_cases hin : (k : Int) ∈ l
    · have : nextJ p l (k + 1) = nextJ p l k := by
        rw [nextJ_succ, hm.2 hin]; simp
      rw [this]
      rcases ih with ⟨h1, h2⟩ | ⟨h1, h2, h3, h4⟩
      · refine .inl ⟨h1, fun j hj => ?_⟩
        by_cases e : j = k
        · subst e; exact hin
        · exact h2 j (by omega)
      · refine .inr ⟨h1, by omega, h3, fun j hj hjl hne => ?_⟩
        by_cases e : j = k
        · subst e; exact absurd hin hjl
        · exact h4 j (by omega) hjl hne
    · have hf : (l.any fun y => (k : Int) == y) = false := by rw [Bool.eq_false_iff]; exact fun h => hin (hm.1 h)
      have hu : nextJ p l (k + 1) = if (decide (nextJ p l k < 0) || befV p k (nextJ p l k)) = true then (k : Int) else nextJ p l k := by
        rw [nextJ_succ, hf]; simp
      rw [hu]
      rcases ih with ⟨h1, h2⟩ | ⟨h1, h2, h3, h4⟩
      · rw [h1, if_pos (by simp)]
        refine .inr ⟨by omega, by omega, hin, fun j hj hjl hne => ?_⟩
        by_cases e : j = k
        · exact absurd (by rw [e]) hne
        · exact absurd (h2 j (by omega)) hjl
      · have h0 : decide (nextJ p l k < 0) = false := by rw [decide_eq_false_iff_not]; omega
        rw [h0, Bool.false_or]
        by_cases hb : befV p k (nextJ p l k) = true
        · rw [if_pos hb]
          refine .inr ⟨by omega, by omega, hin, fun j hj hjl hne => ?_⟩
          by_cases e : (j : Int) = nextJ p l k
          · rw [e]; exact hb
          · exact befV_trans p hb (h4 j (by omega) hjl e)
        · rw [if_neg hb]
          refine .inr ⟨h1, by omega, h3, fun j hj hjl hne => ?_⟩
          by_cases e : j = k
          · subst e
            rcases befV_total p (x := (j : Int)) (y := nextJ p l j) (by omega) with h | h
            · exact absurd h hb
            · exact h
          · exact h4 j (by omega) hjl hne

/-- A sequence of all jobs in the reference's order is the one that is chosen. -/
theorem selJ_unique (p : List (List Int)) (ys : List Int) (hl : ys.length = p.length) (hm : ∀ j : Nat, j < p.length → (j : Int) ∈ ys) (hr : ∀ y ∈ ys, 0 ≤ y ∧ y < p.length)
    (hs : ys.Pairwise fun x y => befV p x y = true) : ∀ k, k ≤ ys.length → selJ p k = ys.take k := by
  intro k
  induction k with
  | zero => intro _; simp [selJ]
  | succ k ih =>
    intro hk
    have hk' : k < ys.length := by omega
    rw [selJ, ih (by omega), take_succ_gi hk']
    congr 1
    congr 1
    have hn := nextJ_spec p (ys.take k) p.length
    have hgk := hr _ (gi_mem hk')
    have hnd : ∀ i j, i < j → j < ys.length → befV p (gi ys i) (gi ys j) = true := by
      intro i j hij hj
      have := List.pairwise_iff_getElem.1 hs i j (by omega) hj hij
      rwa [gi_lt (by omega), gi_lt hj]
    have hirr : ∀ x, befV p x x = false := fun x => by
      cases h : befV p x x
      · rfl
      · rw [← h]; exact befV_asym p h
    have hout : ∀ i, k ≤ i → i < ys.length → gi ys i ∉ ys.take k := by
      intro i hi1 hi2 hmem
      obtain ⟨m, hm1, hm2⟩ := mem_gi hmem
      simp at hm1
      rw [gi_take (by omega)] at hm2
      have := hnd m i (by omega) hi2
      rw [hm2, hirr] at this
      cases this
    have ek : ((gi ys k).toNat : Int) = gi ys k := by omega
    rcases hn with ⟨_, h2⟩ | ⟨h1, h2, h3, h4⟩
    · have := h2 (gi ys k).toNat (by omega)
      rw [ek] at this
      exact absurd this (hout k (Nat.le_refl _) hk')
    · by_cases e : nextJ p (ys.take k) p.length = gi ys k
      · exact e
      · have a1 := h4 (gi ys k).toNat (by omega) (by rw [ek]; exact hout k (Nat.le_refl _) hk') (by rw [ek]; exact fun h => e h.symm)
        rw [ek] at a1
        obtain ⟨m, hm1, hm2⟩ := mem_gi (hm (nextJ p (ys.take k) p.length).toNat (by omega))
        rw [show ((nextJ p (ys.take k) p.length).toNat : Int) = nextJ p (ys.take k) p.length by omega] at hm2
        have hmk : k ≤ m := by
          rcases Nat.lt_or_ge m k with h | h
          · exfalso
            apply h3
            rw [← hm2, ← gi_take (n := k) h]
            exact gi_mem (by simp; omega)
          · exact h
        have hmk2 : k < m := by
          rcases Nat.eq_or_lt_of_le hmk with h | h
          · subst h; exact absurd hm2.symm e
          · exact h
        have a2 := hnd k m hmk2 hm1
        rw [hm2, befV_asym p a1] at a2
        cases a2

/-- the sorted sequence that a stable sort leaves -/
theorem johnL_of (p : List (List Int)) (xs ys : List Int) (hx : ∀ k, k < xs.length → gi xs k = k) (hl : xs.length = p.length) (hr : Rearr (ltOf (cJ p)) xs ys) (hs : SortedOn (ltOf (cJ p)) ys 0 ys.length) : ys = selJ p p.length := by
  have hly : ys.length = p.length := hr.length.trans hl
  have hmem : ∀ y, y ∈ ys ↔ y ∈ xs := fun y => hr.perm.mem_iff
  have hp : ys.Pairwise fun x y => ltOf (cJ p) x y = true ∨ x < y := by
    refine hr.pairwise (fun x y h => .inl h) ?_
    rw [List.pairwise_iff_getElem]
    intro i j hi hj hij
    rw [← gi_lt hi, ← gi_lt hj, hx i hi, hx j hj]
    exact .inr (by omega)
  have h := selJ_unique p ys hly ?_ ?_ ?_ p.length (by omega)
  · rw [h, ← hly, List.take_length]
  · intro j hj
    rw [hmem, ← hx j (by omega)]
    exact gi_mem (by omega)
  · intro y hy
    obtain ⟨k, hk, rfl⟩ := mem_gi ((hmem y).1 hy)
    rw [hx k hk]
    omega
  · rw [List.pairwise_iff_getElem] at hp ⊢
    intro i j hi hj hij
    have a1 := hp i j hi hj hij
    have a2 := hs i j (Nat.zero_le _) hij hj
    rw [gi_lt hi, gi_lt hj] at a2
    rw [befV_iff]
    simp only [ltOf, decide_eq_true_eq, decide_eq_false_iff_not] at a1 a2
    omega
end Go.Proofs.Ytijapbfkpmphpaa
