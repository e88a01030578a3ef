/- Plane geometry: contours on a plate (joined from wip/geo). -/
import Derived.Test.YtfmhickjefogdaaGreatPk00
set_option linter.unusedSimpArgs false
set_option linter.unusedVariables false

namespace Go.Proofs.YtfmhickjefogdaaGreat


structure Pnt where
  x : Int
  y : Int
instance : Inhabited Pnt := ⟨⟨0, 0⟩⟩
def trn (a b q : Pnt) : Int := (b.x - a.x) * (q.y - a.y) - (b.y - a.y) * (q.x - a.x)
def Hit (a b c d : Pnt) : Prop := ∃ m s k t : Int, 0 < m ∧ 0 ≤ s ∧ s ≤ m ∧ 0 < k ∧ 0 ≤ t ∧ t ≤ k ∧ k * ((m - s) * a.x + s * b.x) = m * ((k - t) * c.x + t * d.x) ∧ k * ((m - s) * a.y + s * b.y) = m * ((k - t) * c.y + t * d.y)
theorem Hit.sym {a b c d : Pnt} (h : Hit a b c d) : Hit c d a b := by
  obtain ⟨m, s, k, t, h1, h2, h3, h4, h5, h6, h7, h8⟩ := h
  exact ⟨k, t, m, s, h4, h5, h6, h1, h2, h3, h7.symm, h8.symm⟩
theorem Hit.flip {a b c d : Pnt} (h : Hit a b c d) : Hit b a c d := by
  obtain ⟨m, s, k, t, h1, h2, h3, h4, h5, h6, h7, h8⟩ := h
  exact ⟨m, m - s, k, t, h1, by omega, by omega, h4, h5, h6, by grind, by grind⟩
theorem hit_mk {a b p q : Pnt} {k t : Int} (h : a.y < b.y) (hk : 0 < k) (h0 : 0 ≤ t) (h1 : t ≤ k) (hz : (k - t) * trn a b p + t * trn a b q = 0) (hl : k * a.y ≤ (k - t) * p.y + t * q.y) (hu : (k - t) * p.y + t * q.y ≤ k * b.y) : Hit a b p q := by
  unfold trn at hz
  refine ⟨k * (b.y - a.y), (k - t) * p.y + t * q.y - k * a.y, k, t, Int.mul_pos hk (by omega), by omega, ?_, hk, h0, h1, ?_, ?_⟩
  · grind
  · grind
  · grind
theorem mul_nn {a b : Int} (ha : 0 ≤ a) (hb : 0 ≤ b) : 0 ≤ a * b := Int.mul_nonneg ha hb
/-- heights of both ends within the edge's -/
theorem side1 {a b p q : Pnt} (h : ¬ Hit a b p q) (hab : a.y < b.y) (h1 : a.y ≤ p.y) (h2 : p.y ≤ b.y) (h3 : a.y ≤ q.y) (h4 : q.y ≤ b.y) : 0 < trn a b p ↔ 0 < trn a b q := by
  have key : ∀ {p q : Pnt}, a.y ≤ p.y → p.y ≤ b.y → a.y ≤ q.y → q.y ≤ b.y → 0 < trn a b p → ¬ 0 < trn a b q → Hit a b p q := by
    intro p q h1 h2 h3 h4 hp hq
    obtain ⟨u, hu⟩ : ∃ u, trn a b p = u := ⟨_, rfl⟩
    obtain ⟨v, hv⟩ : ∃ v, trn a b q = v := ⟨_, rfl⟩
    rw [hu] at hp
    rw [hv] at hq
    have hv0 : 0 ≤ -v := by omega
    refine hit_mk (k := u - v) (t := u) hab (by omega) (by omega) (by omega) (by rw [hu, hv]; grind) ?_ ?_
    · have e1 := mul_nn hv0 (show 0 ≤ p.y - a.y by omega)
      have e2 := mul_nn (show 0 ≤ u by omega) (show 0 ≤ q.y - a.y by omega)
      grind
    · have e1 := mul_nn hv0 (show 0 ≤ b.y - p.y by omega)
      have e2 := mul_nn (show 0 ≤ u by omega) (show 0 ≤ b.y - q.y by omega)
      grind
  constructor
  · intro hp
    by_cases hq : 0 < trn a b q
    · exact hq
    · exact absurd (key h1 h2 h3 h4 hp hq) h
  · intro hq
    by_cases hp : 0 < trn a b p
    · exact hp
    · exact absurd ((key h3 h4 h1 h2 hq hp).sym.flip.sym) h
theorem trn_b (a b p q : Pnt) : (b.y - a.y) * trn p q b = (trn a b p - trn a b q) * (b.y - p.y) - (q.y - p.y) * trn a b p := by unfold trn; grind
theorem trn_a (a b p q : Pnt) : (b.y - a.y) * trn p q a = (trn a b p - trn a b q) * (a.y - q.y) - (q.y - p.y) * trn a b q := by unfold trn; grind
theorem neg_of_mul {h x : Int} (h0 : 0 < h) (hx : h * x < 0) : x < 0 := by
  rcases Int.lt_or_le x 0 with h1 | h1
  · exact h1
  · have := mul_nn (Int.le_of_lt h0) h1; omega
/-- the edge's upper end between -/
theorem side2 {a b p q : Pnt} (h : ¬ Hit a b p q) (hab : a.y < b.y) (hpq : p.y < q.y) (h1 : a.y ≤ p.y) (h2 : p.y ≤ b.y) (h3 : b.y ≤ q.y) : 0 < trn a b p ↔ trn p q b < 0 := by
  have id := trn_b a b p q
  obtain ⟨u, hu⟩ : ∃ u, trn a b p = u := ⟨_, rfl⟩
  obtain ⟨v, hv⟩ : ∃ v, trn a b q = v := ⟨_, rfl⟩
  obtain ⟨z, hz⟩ : ∃ z, trn p q b = z := ⟨_, rfl⟩
  rw [hu, hv, hz] at id
  rw [hu, hz]
  have hh : 0 < b.y - a.y := by omega
  constructor
  · intro hp
    rcases Int.lt_or_le z 0 with hz0 | hz0
    · exact hz0
    exfalso
    have e0 := mul_nn (Int.le_of_lt hh) hz0
    have e1 : 0 < (q.y - p.y) * u := Int.mul_pos (by omega) hp
    have e2 : 0 < (u - v) * (b.y - p.y) := by omega
    have e3 : 0 < u - v := by
      rcases Int.lt_or_le 0 (u - v) with h9 | h9
      · exact h9
      · have := mul_nn (show 0 ≤ -(u - v) by omega) (show 0 ≤ b.y - p.y by omega); grind
    have e5 := mul_nn (show 0 ≤ q.y - b.y by omega) (show 0 ≤ u by omega)
    have e4 : v ≤ 0 := by
      rcases Int.lt_or_le 0 v with h9 | h9
      · have := mul_nn (show 0 ≤ v by omega) (show 0 ≤ b.y - p.y by omega)
        have h10 : 0 < b.y - p.y := by
          rcases Int.lt_or_le 0 (b.y - p.y) with h11 | h11
          · exact h11
          · have h12 : b.y - p.y = 0 := by omega
            rw [h12] at e2; omega
        have := Int.mul_pos h9 h10
        grind
      · exact h9
    refine h (hit_mk (k := u - v) (t := u) hab e3 (by omega) (by omega) (by rw [hu, hv]; grind) ?_ ?_)
    · have e6 := mul_nn (show 0 ≤ -v by omega) (show 0 ≤ p.y - a.y by omega)
      have e7 := mul_nn (show 0 ≤ u by omega) (show 0 ≤ q.y - a.y by omega)
      grind
    · grind
  · intro hz0
    rcases Int.lt_or_le 0 u with hp | hp
    · exact hp
    exfalso
    have e0 : (b.y - a.y) * z < 0 := by have := Int.mul_pos hh (show 0 < -z by omega); grind
    have e1 := mul_nn (show 0 ≤ q.y - p.y by omega) (show 0 ≤ -u by omega)
    have e2 : (u - v) * (b.y - p.y) < 0 := by grind
    have e3 : 0 < v - u := by
      rcases Int.lt_or_le 0 (v - u) with h9 | h9
      · exact h9
      · have := mul_nn (show 0 ≤ u - v by omega) (show 0 ≤ b.y - p.y by omega); omega
    have e5 := mul_nn (show 0 ≤ q.y - b.y by omega) (show 0 ≤ -u by omega)
    have e4 : 0 ≤ v := by
      rcases Int.lt_or_le v 0 with h9 | h9
      · have := mul_nn (show 0 ≤ -v by omega) (show 0 ≤ b.y - p.y by omega)
        grind
      · exact h9
    refine h (hit_mk (k := v - u) (t := -u) hab e3 (by omega) (by omega) (by rw [hu, hv]; grind) ?_ ?_)
    · have e6 := mul_nn e4 (show 0 ≤ p.y - a.y by omega)
      have e7 := mul_nn (show 0 ≤ -u by omega) (show 0 ≤ q.y - a.y by omega)
      grind
    · grind
/-- the edge's lower end between -/
theorem side3 {a b p q : Pnt} (h : ¬ Hit a b p q) (hab : a.y < b.y) (hpq : p.y < q.y) (h1 : p.y ≤ a.y) (h2 : a.y ≤ q.y) (h3 : q.y ≤ b.y) : trn p q a < 0 ↔ 0 < trn a b q := by
  have id := trn_a a b p q
  obtain ⟨u, hu⟩ : ∃ u, trn a b p = u := ⟨_, rfl⟩
  obtain ⟨v, hv⟩ : ∃ v, trn a b q = v := ⟨_, rfl⟩
  obtain ⟨z, hz⟩ : ∃ z, trn p q a = z := ⟨_, rfl⟩
  rw [hu, hv, hz] at id
  rw [hv, hz]
  have hh : 0 < b.y - a.y := by omega
  constructor
  · intro hz0
    rcases Int.lt_or_le 0 v with hp | hp
    · exact hp
    exfalso
    have e0 : (b.y - a.y) * z < 0 := by have := Int.mul_pos hh (show 0 < -z by omega); grind
    have e1 := mul_nn (show 0 ≤ q.y - p.y by omega) (show 0 ≤ -v by omega)
    have e2 : 0 < (u - v) * (q.y - a.y) := by grind
    have e3 : 0 < u - v := by
      rcases Int.lt_or_le 0 (u - v) with h9 | h9
      · exact h9
      · have := mul_nn (show 0 ≤ -(u - v) by omega) (show 0 ≤ q.y - a.y by omega); grind
    have e5 := mul_nn (show 0 ≤ a.y - p.y by omega) (show 0 ≤ -v by omega)
    have e4 : 0 ≤ u := by
      rcases Int.lt_or_le u 0 with h9 | h9
      · have := mul_nn (show 0 ≤ -u by omega) (show 0 ≤ q.y - a.y by omega)
        grind
      · exact h9
    refine h (hit_mk (k := u - v) (t := u) hab e3 (by omega) (by omega) (by rw [hu, hv]; grind) ?_ ?_)
    · grind
    · have e6 := mul_nn (show 0 ≤ -v by omega) (show 0 ≤ b.y - p.y by omega)
      have e7 := mul_nn e4 (show 0 ≤ b.y - q.y by omega)
      grind
  · intro hp
    rcases Int.lt_or_le z 0 with hz0 | hz0
    · exact hz0
    exfalso
    have e0 := mul_nn (Int.le_of_lt hh) hz0
    have e1 : 0 < (q.y - p.y) * v := Int.mul_pos (by omega) hp
    have e2 : (u - v) * (q.y - a.y) < 0 := by grind
    have e3 : 0 < v - u := by
      rcases Int.lt_or_le 0 (v - u) with h9 | h9
      · exact h9
      · have := mul_nn (show 0 ≤ u - v by omega) (show 0 ≤ q.y - a.y by omega); omega
    have e5 := mul_nn (show 0 ≤ a.y - p.y by omega) (show 0 ≤ v by omega)
    have e4 : u ≤ 0 := by
      rcases Int.lt_or_le 0 u with h9 | h9
      · have h10 : 0 < q.y - a.y := by
          rcases Int.lt_or_le 0 (q.y - a.y) with h11 | h11
          · exact h11
          · have h12 : q.y - a.y = 0 := by omega
            rw [h12] at e2; omega
        have := Int.mul_pos h9 h10
        grind
      · exact h9
    refine h (hit_mk (k := v - u) (t := -u) hab e3 (by omega) (by omega) (by rw [hu, hv]; grind) ?_ ?_)
    · grind
    · have e6 := mul_nn (show 0 ≤ v by omega) (show 0 ≤ b.y - p.y by omega)
      have e7 := mul_nn (show 0 ≤ -u by omega) (show 0 ≤ b.y - q.y by omega)
      grind
/-- how an edge counts at a point: it lies to the right; half-open heights -/
def kap (a b q : Pnt) : Int := if a.y ≤ q.y ∧ q.y < b.y ∧ 0 < trn a b q then 1 else if b.y ≤ q.y ∧ q.y < a.y ∧ trn a b q < 0 then -1 else 0
def ind (p q v : Pnt) : Int := if p.y < v.y ∧ v.y ≤ q.y ∧ trn p q v < 0 then 1 else 0
theorem trn_flip (a b q : Pnt) : trn b a q = -trn a b q := by unfold trn; grind
theorem kap_flip (a b q : Pnt) : kap b a q = -kap a b q := by
  unfold kap
  rw [trn_flip]
  split <;> split <;> (try split) <;> omega
theorem side0 {a b p q : Pnt} (h : ¬ Hit a b p q) (hab : a.y < b.y) (h1 : a.y ≤ p.y) (h2 : p.y ≤ b.y) : trn a b p ≠ 0 := fun e =>
  h (hit_mk (k := 1) (t := 0) hab (by omega) (by omega) (by omega) (by rw [e]; omega) (by omega) (by omega))
/-- both ends of the edge between -/
theorem side4 {a b p q : Pnt} (h : ¬ Hit a b p q) (hpq : p.y < q.y) (h1 : p.y ≤ a.y) (h2 : a.y ≤ q.y) (h3 : p.y ≤ b.y) (h4 : b.y ≤ q.y) : trn p q a < 0 ↔ trn p q b < 0 := by
  have h' : ¬ Hit p q a b := fun g => h g.sym
  have h'' : ¬ Hit p q b a := fun g => h g.sym.flip
  have q1 := side1 h' hpq h1 h2 h3 h4
  have n1 := side0 h' hpq h1 h2
  have n2 := side0 h'' hpq h3 h4
  omega
theorem kap_up {a b p q : Pnt} (h : ¬ Hit a b p q) (hab : a.y ≤ b.y) (hpq : p.y ≤ q.y) : kap a b q - kap a b p = ind p q a - ind p q b := by
  have ifi : ∀ {A B : Prop} [Decidable A] [Decidable B], (A ↔ B) → (if A then (1 : Int) else 0) = if B then 1 else 0 := fun {A B} _ _ hAB => by
    by_cases hA : A
    · rw [if_pos hA, if_pos (hAB.1 hA)]
    · rw [if_neg hA, if_neg (fun x => hA (hAB.2 x))]
  have hk : ∀ v, kap a b v = if a.y ≤ v.y ∧ v.y < b.y ∧ 0 < trn a b v then 1 else 0 := fun v => by
    unfold kap
    split
    · rfl
    · rw [if_neg (by omega)]
  rw [hk, hk]
  unfold ind
  by_cases c1 : b.y ≤ p.y
  · rw [if_neg (by omega), if_neg (by omega), if_neg (by omega), if_neg (by omega)]
  by_cases c2 : q.y < a.y
  · rw [if_neg (by omega), if_neg (by omega), if_neg (by omega), if_neg (by omega)]
  by_cases c3 : a.y ≤ p.y
  · rw [if_neg (show ¬ (p.y < a.y ∧ a.y ≤ q.y ∧ trn p q a < 0) by omega)]
    by_cases c4 : q.y < b.y
    · rw [if_neg (show ¬ (p.y < b.y ∧ b.y ≤ q.y ∧ trn p q b < 0) by omega)]
      have s := side1 h (by omega) c3 (by omega) (by omega) (by omega)
      rw [ifi (B := a.y ≤ p.y ∧ p.y < b.y ∧ 0 < trn a b p) ⟨fun x => ⟨c3, by omega, s.2 x.2.2⟩, fun x => ⟨by omega, c4, s.1 x.2.2⟩⟩]
      omega
    · rw [if_neg (show ¬ (a.y ≤ q.y ∧ q.y < b.y ∧ 0 < trn a b q) by omega)]
      have s := side2 h (by omega) (by omega) c3 (by omega) (by omega)
      rw [ifi (B := p.y < b.y ∧ b.y ≤ q.y ∧ trn p q b < 0) (A := a.y ≤ p.y ∧ p.y < b.y ∧ 0 < trn a b p) ⟨fun x => ⟨by omega, by omega, s.1 x.2.2⟩, fun x => ⟨c3, by omega, s.2 x.2.2⟩⟩]
  · rw [if_neg (show ¬ (a.y ≤ p.y ∧ p.y < b.y ∧ 0 < trn a b p) by omega)]
    by_cases c4 : q.y < b.y
    · rw [if_neg (show ¬ (p.y < b.y ∧ b.y ≤ q.y ∧ trn p q b < 0) by omega)]
      have s := side3 h (by omega) (by omega) (by omega) (by omega) (by omega)
      rw [ifi (B := p.y < a.y ∧ a.y ≤ q.y ∧ trn p q a < 0) (A := a.y ≤ q.y ∧ q.y < b.y ∧ 0 < trn a b q) ⟨fun x => ⟨by omega, by omega, s.2 x.2.2⟩, fun x => ⟨by omega, by omega, s.1 x.2.2⟩⟩]
    · rw [if_neg (show ¬ (a.y ≤ q.y ∧ q.y < b.y ∧ 0 < trn a b q) by omega)]
      have s := side4 h (by omega) (by omega) (by omega) (by omega) (by omega)
      rw [ifi (B := p.y < b.y ∧ b.y ≤ q.y ∧ trn p q b < 0) (A := p.y < a.y ∧ a.y ≤ q.y ∧ trn p q a < 0) ⟨fun x => ⟨by omega, by omega, s.1 x.2.2⟩, fun x => ⟨by omega, by omega, s.2 x.2.2⟩⟩]
      omega
/-- the change of what an edge counts for, along a segment that it does not meet -/
theorem kap_move {a b p q : Pnt} (h : ¬ Hit a b p q) (hpq : p.y ≤ q.y) : kap a b q - kap a b p = ind p q a - ind p q b := by
  rcases Int.le_total a.y b.y with hab | hab
  · exact kap_up h hab hpq
  · have := kap_up (a := b) (b := a) (fun g => h g.flip) hab hpq
    rw [kap_flip a b q, kap_flip a b p] at this
    omega

def onZ (q a b : Pnt) : Prop := trn a b q = 0 ∧ min a.x b.x ≤ q.x ∧ q.x ≤ max a.x b.x ∧ min a.y b.y ≤ q.y ∧ q.y ≤ max a.y b.y
def opp (u v : Int) : Prop := (u < 0 ∧ 0 < v) ∨ (0 < u ∧ v < 0)
def Meet (a b c d : Pnt) : Prop := (onZ a c d ∨ onZ b c d ∨ onZ c a b ∨ onZ d a b) ∨ (opp (trn a b c) (trn a b d) ∧ opp (trn c d a) (trn c d b))
theorem between {m s p q r : Int} (hm : 0 < m) (h0 : 0 ≤ s) (h1 : s ≤ m) (h : m * r = (m - s) * p + s * q) : min p q ≤ r ∧ r ≤ max p q := by
  have cancel : ∀ z : Int, 0 ≤ m * z → 0 ≤ z := fun z hz => by
    rcases Int.lt_or_le z 0 with g | g
    · have := Int.mul_pos hm (show 0 < -z by omega); grind
    · exact g
  rcases Int.le_total p q with g | g
  · have e1 := mul_nn h0 (show 0 ≤ q - p by omega)
    have e2 := mul_nn (show 0 ≤ m - s by omega) (show 0 ≤ q - p by omega)
    have r1 := cancel (r - p) (by grind)
    have r2 := cancel (q - r) (by grind)
    omega
  · have e1 := mul_nn h0 (show 0 ≤ p - q by omega)
    have e2 := mul_nn (show 0 ≤ m - s by omega) (show 0 ≤ p - q by omega)
    have r1 := cancel (p - r) (by grind)
    have r2 := cancel (r - q) (by grind)
    omega
theorem cancelL {k u v : Int} (hk : 0 < k) (h : k * u = k * v) : u = v := Int.eq_of_mul_eq_mul_left (by omega) h
/-- the common point, seen from the first segment's line -/
theorem hit_line {a b c d : Pnt} {m s k t : Int} (h1 : 0 < m) (h7 : k * ((m - s) * a.x + s * b.x) = m * ((k - t) * c.x + t * d.x)) (h8 : k * ((m - s) * a.y + s * b.y) = m * ((k - t) * c.y + t * d.y)) : (k - t) * trn a b c + t * trn a b d = 0 := by
  refine cancelL h1 ?_
  unfold trn
  grind
theorem opp_of {k t u v : Int} (h0 : 0 ≤ t) (h1 : t ≤ k) (hk : 0 < k) (h : (k - t) * u + t * v = 0) (hu : u ≠ 0) (hv : v ≠ 0) : opp u v := by
  unfold opp
  have same : ∀ {u v : Int}, (k - t) * u + t * v = 0 → 0 < u → 0 < v → False := fun {u v} h hu hv => by
    rcases Int.lt_or_le 0 t with g | g
    · have e1 := Int.mul_pos g hv
      have e2 := mul_nn (show 0 ≤ k - t by omega) (Int.le_of_lt hu)
      omega
    · have e1 := Int.mul_pos (show 0 < k - t by omega) hu
      have e2 := mul_nn h0 (Int.le_of_lt hv)
      omega
  rcases Int.lt_or_le u 0 with a | a <;> rcases Int.lt_or_le v 0 with b | b
  · exact absurd (same (u := -u) (v := -v) (by grind) (by omega) (by omega)) id
  · exact .inl ⟨a, by omega⟩
  · exact .inr ⟨by omega, b⟩
  · exact absurd (same h (by omega) (by omega)) id
/-- an end of one that is the common point -/
theorem on_end {a b c d : Pnt} {m s k t : Int} (h1 : 0 < m) (h2 : 0 ≤ s) (h3 : s ≤ m) (h4 : 0 < k) (ht : t = 0) (h7 : k * ((m - s) * a.x + s * b.x) = m * ((k - t) * c.x + t * d.x)) (h8 : k * ((m - s) * a.y + s * b.y) = m * ((k - t) * c.y + t * d.y)) (hz : trn a b c = 0) : onZ c a b := by
  subst ht
  have ex : m * c.x = (m - s) * a.x + s * b.x := cancelL h4 (by grind)
  have ey : m * c.y = (m - s) * a.y + s * b.y := cancelL h4 (by grind)
  have bx := between h1 h2 h3 ex
  have by' := between h1 h2 h3 ey
  exact ⟨hz, bx.1, bx.2, by'.1, by'.2⟩
theorem sq_pos {a b : Pnt} (h : a.x ≠ b.x ∨ a.y ≠ b.y) : 0 < (b.x - a.x) * (b.x - a.x) + (b.y - a.y) * (b.y - a.y) := by
  have p : ∀ z : Int, z ≠ 0 → 0 < z * z := fun z hz => by
    rcases Int.lt_or_le z 0 with g | g
    · have := Int.mul_pos (show 0 < -z by omega) (show 0 < -z by omega); grind
    · exact Int.mul_pos (by omega) (by omega)
  have n : ∀ z : Int, 0 ≤ z * z := fun z => by
    by_cases hz : z = 0
    · subst hz; omega
    · exact Int.le_of_lt (p z hz)
  rcases h with h | h
  · have := p (b.x - a.x) (by omega); have := n (b.y - a.y); omega
  · have := p (b.y - a.y) (by omega); have := n (b.x - a.x); omega
def dotz (a b v : Pnt) : Int := (b.x - a.x) * (v.x - a.x) + (b.y - a.y) * (v.y - a.y)
/-- a point on the line is where its dot product says -/
theorem on_line {a b v : Pnt} (h : trn a b v = 0) : ((b.x - a.x) * (b.x - a.x) + (b.y - a.y) * (b.y - a.y)) * (v.x - a.x) = dotz a b v * (b.x - a.x) ∧ ((b.x - a.x) * (b.x - a.x) + (b.y - a.y) * (b.y - a.y)) * (v.y - a.y) = dotz a b v * (b.y - a.y) := by
  unfold trn at h
  unfold dotz
  constructor <;> grind
theorem on_mid {a b v : Pnt} (hab : a.x ≠ b.x ∨ a.y ≠ b.y) (h : trn a b v = 0) (h0 : 0 ≤ dotz a b v) (h1 : dotz a b v ≤ (b.x - a.x) * (b.x - a.x) + (b.y - a.y) * (b.y - a.y)) : onZ v a b := by
  obtain ⟨ex, ey⟩ := on_line h
  have hL := sq_pos hab
  obtain ⟨L, hLe⟩ : ∃ L, (b.x - a.x) * (b.x - a.x) + (b.y - a.y) * (b.y - a.y) = L := ⟨_, rfl⟩
  rw [hLe] at ex ey hL h1
  have bx := between hL h0 h1 (r := v.x) (p := a.x) (q := b.x) (by grind)
  have by' := between hL h0 h1 (r := v.y) (p := a.y) (q := b.y) (by grind)
  exact ⟨h, bx.1, bx.2, by'.1, by'.2⟩
/-- the first segment's begin between the ends of the second, all on one line -/
theorem on_over {a b c d : Pnt} (hab : a.x ≠ b.x ∨ a.y ≠ b.y) (hc : trn a b c = 0) (hd : trn a b d = 0) (h0 : dotz a b c ≤ 0) (h1 : 0 ≤ dotz a b d) (hne : dotz a b c < dotz a b d) : onZ a c d := by
  obtain ⟨ex, ey⟩ := on_line hc
  obtain ⟨fx, fy⟩ := on_line hd
  have hL := sq_pos hab
  obtain ⟨L, hLe⟩ : ∃ L, (b.x - a.x) * (b.x - a.x) + (b.y - a.y) * (b.y - a.y) = L := ⟨_, rfl⟩
  rw [hLe] at ex ey fx fy hL
  obtain ⟨p, hp⟩ : ∃ p, dotz a b c = p := ⟨_, rfl⟩
  obtain ⟨q, hq⟩ : ∃ q, dotz a b d = q := ⟨_, rfl⟩
  rw [hp] at ex ey h0 hne
  rw [hq] at fx fy h1 hne
  have kx : (q - p) * a.x = ((q - p) - (-p)) * c.x + (-p) * d.x := cancelL hL (by grind)
  have ky : (q - p) * a.y = ((q - p) - (-p)) * c.y + (-p) * d.y := cancelL hL (by grind)
  have bx := between (show 0 < q - p by omega) (show 0 ≤ -p by omega) (by omega) kx
  have by' := between (show 0 < q - p by omega) (show 0 ≤ -p by omega) (by omega) ky
  refine ⟨?_, bx.1, bx.2, by'.1, by'.2⟩
  refine cancelL (show 0 < q - p by omega) ?_
  unfold trn
  grind
theorem meet_of_hit {a b c d : Pnt} (hab : a.x ≠ b.x ∨ a.y ≠ b.y) (hcd : c.x ≠ d.x ∨ c.y ≠ d.y) (h : Hit a b c d) : Meet a b c d := by
  obtain ⟨m, s, k, t, h1, h2, h3, h4, h5, h6, h7, h8⟩ := h
  have l1 := hit_line h1 h7 h8
  have l2 := hit_line (a := c) (b := d) (c := a) (d := b) h4 h7.symm h8.symm
  by_cases g0 : trn a b c = 0
  · by_cases g1 : trn a b d = 0
    · -- all on one line
      by_cases q1 : onZ c a b
      · exact .inl (.inr (.inr (.inl q1)))
      by_cases q2 : onZ d a b
      · exact .inl (.inr (.inr (.inr q2)))
      refine .inl (.inl ?_)
      have out : ∀ {v}, trn a b v = 0 → ¬ onZ v a b → dotz a b v < 0 ∨ (b.x - a.x) * (b.x - a.x) + (b.y - a.y) * (b.y - a.y) < dotz a b v := fun {v} hv hn => by
        by_cases e0 : 0 ≤ dotz a b v
        · by_cases e1 : dotz a b v ≤ (b.x - a.x) * (b.x - a.x) + (b.y - a.y) * (b.y - a.y)
          · exact absurd (on_mid hab hv e0 e1) hn
          · exact .inr (by omega)
        · exact .inl (by omega)
      have oc := out g0 q1
      have od := out g1 q2
      have hL := sq_pos hab
      -- the common point's dot product
      have hz : k * (s * ((b.x - a.x) * (b.x - a.x) + (b.y - a.y) * (b.y - a.y))) = m * ((k - t) * dotz a b c + t * dotz a b d) := by unfold dotz; grind
      obtain ⟨L, hLe⟩ : ∃ L, (b.x - a.x) * (b.x - a.x) + (b.y - a.y) * (b.y - a.y) = L := ⟨_, rfl⟩
      obtain ⟨p, hp⟩ : ∃ p, dotz a b c = p := ⟨_, rfl⟩
      obtain ⟨q, hq⟩ : ∃ q, dotz a b d = q := ⟨_, rfl⟩
      rw [hLe] at oc od hL hz
      rw [hp] at oc hz
      rw [hq] at od hz
      have kt : 0 ≤ k - t := by omega
      have ms : 0 ≤ m - s := by omega
      have low : ¬ (p < 0 ∧ q < 0) := fun ⟨x, y⟩ => by
        have a1 := mul_nn (Int.le_of_lt h4) (mul_nn h2 (Int.le_of_lt hL))
        have a2 := mul_nn kt (show 0 ≤ -p by omega)
        have a3 := mul_nn h5 (show 0 ≤ -q by omega)
        rcases Int.lt_or_le 0 t with g | g
        · have a4 := Int.mul_pos g (show 0 < -q by omega)
          have a5 := Int.mul_pos h1 (show 0 < -((k - t) * p + t * q) by grind)
          grind
        · have a4 := Int.mul_pos (show 0 < k - t by omega) (show 0 < -p by omega)
          have a5 := Int.mul_pos h1 (show 0 < -((k - t) * p + t * q) by grind)
          grind
      have high : ¬ (L < p ∧ L < q) := fun ⟨x, y⟩ => by
        have a1 := mul_nn (Int.le_of_lt h4) (mul_nn ms (Int.le_of_lt hL))
        have a2 := mul_nn kt (show 0 ≤ p - L by omega)
        have a3 := mul_nn h5 (show 0 ≤ q - L by omega)
        rcases Int.lt_or_le 0 t with g | g
        · have a4 := Int.mul_pos g (show 0 < q - L by omega)
          have a5 := Int.mul_pos h1 (show 0 < (k - t) * (p - L) + t * (q - L) by grind)
          grind
        · have a4 := Int.mul_pos (show 0 < k - t by omega) (show 0 < p - L by omega)
          have a5 := Int.mul_pos h1 (show 0 < (k - t) * (p - L) + t * (q - L) by grind)
          grind
      rcases oc with oc | oc <;> rcases od with od | od
      · exact absurd ⟨oc, od⟩ low
      · exact on_over hab g0 g1 (by omega) (by omega) (by omega)
      · have := on_over (c := d) (d := c) hab g1 g0 (by omega) (by omega) (by omega)
        obtain ⟨w1, w2, w3, w4, w5⟩ := this
        exact ⟨by rw [trn_flip] at w1; omega, by omega, by omega, by omega, by omega⟩
      · exact absurd ⟨oc, od⟩ high
    · -- c alone is on the line
      rw [g0] at l1
      have ht : t = 0 := by
        have : t * trn a b d = 0 := by grind
        rcases Int.mul_eq_zero.1 this with e | e
        · exact e
        · exact absurd e g1
      exact .inl (.inr (.inr (.inl (on_end h1 h2 h3 h4 ht h7 h8 g0))))
  · by_cases g1 : trn a b d = 0
    · rw [g1] at l1
      have ht : k - t = 0 := by
        have : (k - t) * trn a b c = 0 := by grind
        rcases Int.mul_eq_zero.1 this with e | e
        · exact e
        · exact absurd e g0
      exact .inl (.inr (.inr (.inr (on_end (c := d) (d := c) (t := k - t) h1 h2 h3 h4 ht (by rw [h7]; grind) (by rw [h8]; grind) g1))))
    · by_cases g2 : trn c d a = 0
      · by_cases g3 : trn c d b = 0
        · -- then all four are on one line, which was excluded
          exfalso
          refine g0 ?_
          have hL := sq_pos hcd
          refine cancelL hL ?_
          have e1 := on_line g2
          have e2 := on_line g3
          unfold trn at *
          grind
        · rw [g2] at l2
          have hs : s = 0 := by
            have : s * trn c d b = 0 := by grind
            rcases Int.mul_eq_zero.1 this with e | e
            · exact e
            · exact absurd e g3
          exact .inl (.inl (on_end (a := c) (b := d) (c := a) (d := b) h4 h5 h6 h1 hs h7.symm h8.symm g2))
      · by_cases g3 : trn c d b = 0
        · rw [g3] at l2
          have hs : m - s = 0 := by
            have : (m - s) * trn c d a = 0 := by grind
            rcases Int.mul_eq_zero.1 this with e | e
            · exact e
            · exact absurd e g2
          exact .inl (.inr (.inl (on_end (a := c) (b := d) (c := b) (d := a) (t := m - s) h4 h5 h6 h1 hs (by rw [← h7]; grind) (by rw [← h8]; grind) g3)))
        · exact .inr ⟨opp_of h5 h6 h4 l1 g0 g1, opp_of h2 h3 h1 l2 g2 g3⟩

/-! sums -/
def sm : Nat → (Nat → Int) → Int
  | 0, _ => 0
  | n + 1, f => sm n f + f n
theorem sm_succ (n : Nat) (f : Nat → Int) : sm (n + 1) f = sm n f + f n := rfl
theorem sm_congr {f g : Nat → Int} : ∀ {n : Nat}, (∀ i, i < n → f i = g i) → sm n f = sm n g
  | 0, _ => rfl
  | n + 1, h => by unfold sm; rw [sm_congr fun i hi => h i (by omega), h n (by omega)]
theorem sm_add (f g : Nat → Int) : ∀ n, sm n (fun i => f i + g i) = sm n f + sm n g
  | 0 => rfl
  | n + 1 => by rw [sm_succ, sm_succ, sm_succ, sm_add f g n]; omega
theorem sm_sub (f g : Nat → Int) : ∀ n, sm n (fun i => f i - g i) = sm n f - sm n g
  | 0 => rfl
  | n + 1 => by rw [sm_succ, sm_succ, sm_succ, sm_sub f g n]; omega
theorem sm_mul (c : Int) (f : Nat → Int) : ∀ n, sm n (fun i => c * f i) = c * sm n f
  | 0 => by simp [sm]
  | n + 1 => by unfold sm; rw [sm_mul c f n, Int.mul_add]
theorem sm_zero : ∀ n, sm n (fun _ => 0) = 0
  | 0 => rfl
  | n + 1 => by unfold sm; rw [sm_zero n]; rfl
theorem sm_le {f g : Nat → Int} : ∀ {n : Nat}, (∀ i, i < n → f i ≤ g i) → sm n f ≤ sm n g
  | 0, _ => Int.le_refl _
  | n + 1, h => by
    unfold sm
    have := sm_le (n := n) fun i hi => h i (by omega)
    have := h n (by omega)
    omega
theorem sm_nonneg {f : Nat → Int} {n : Nat} (h : ∀ i, i < n → 0 ≤ f i) : 0 ≤ sm n f := by
  have := sm_le (f := fun _ => 0) h; rw [sm_zero] at this; exact this
theorem sm_head (f : Nat → Int) : ∀ n, sm (n + 1) f = f 0 + sm n fun i => f (i + 1)
  | 0 => by simp [sm]
  | n + 1 => by
    rw [sm, sm_head f n]
    show _ = f 0 + (sm n (fun i => f (i + 1)) + f (n + 1))
    omega
theorem sm_comm (f : Nat → Nat → Int) (m : Nat) : ∀ n, sm n (fun i => sm m fun j => f i j) = sm m fun j => sm n fun i => f i j
  | 0 => by rw [show (fun j => sm 0 fun i => f i j) = fun _ => (0 : Int) from rfl, sm_zero]; rfl
  | n + 1 => by
    rw [sm_succ, sm_comm f m n, ← sm_add]
    rfl
/-- the terms go round -/
theorem sm_round (g : Nat → Int) (n : Nat) : sm n (fun i => g ((i + 1) % n)) = sm n g := by
  cases n with
  | zero => rfl
  | succ n =>
    rw [sm_head g n]
    show sm n (fun i => g ((i + 1) % (n + 1))) + g ((n + 1) % (n + 1)) = _
    rw [Nat.mod_self, sm_congr (g := fun i => g (i + 1)) fun i hi => by rw [Nat.mod_eq_of_lt (by omega)]]
    omega
/-- all but one -/
theorem sm_but {n i : Nat} (hi : i < n) (f : Nat → Int) : sm n f = (sm n fun j => if j = i then 0 else f j) + f i := by
  induction n with
  | zero => omega
  | succ n ih =>
    rw [sm_succ, sm_succ]
    by_cases e : i = n
    · subst e
      rw [if_pos rfl, sm_congr (g := f) fun j hj => if_neg (by omega)]
      omega
    · rw [ih (by omega)]
      rw [if_neg (by omega)]; omega
/-! contours -/
def pti (l : List Pnt) (k : Nat) : Pnt := l.getD k default
def nxt (l : List Pnt) (i : Nat) : Pnt := pti l ((i + 1) % l.length)
/-- how often a contour goes round a point -/
def wnd (l : List Pnt) (q : Pnt) : Int := sm l.length fun i => kap (pti l i) (nxt l i) q
theorem tele (l : List Pnt) (g : Pnt → Int) : sm l.length (fun i => g (pti l i) - g (nxt l i)) = 0 := by
  rw [sm_sub]
  have := sm_round (fun i => g (pti l i)) l.length
  unfold nxt
  omega
theorem wnd_up {l : List Pnt} {p q : Pnt} (h : ∀ i, i < l.length → ¬ Hit (pti l i) (nxt l i) p q) (hpq : p.y ≤ q.y) : wnd l q = wnd l p := by
  have e : wnd l q - wnd l p = 0 := by
    unfold wnd
    rw [← sm_sub, sm_congr (g := fun i => ind p q (pti l i) - ind p q (nxt l i)) fun i hi => kap_move (h i hi) hpq]
    exact tele l (ind p q)
  omega
theorem wnd_move {l : List Pnt} {p q : Pnt} (h : ∀ i, i < l.length → ¬ Hit (pti l i) (nxt l i) p q) : wnd l q = wnd l p := by
  rcases Int.le_total p.y q.y with g | g
  · exact wnd_up h g
  · exact (wnd_up (fun i hi x => h i hi x.sym.flip.sym) g).symm
/-- no point in common -/
def Apart (l m : List Pnt) : Prop := ∀ i k, i < l.length → k < m.length → ¬ Hit (pti l i) (nxt l i) (pti m k) (nxt m k)
theorem Apart.sym {l m : List Pnt} (h : Apart l m) : Apart m l := fun i k hi hk x => h k i hk hi x.sym
theorem wnd_step {l m : List Pnt} (h : Apart l m) {k : Nat} (hk : k < m.length) : wnd l (nxt m k) = wnd l (pti m k) := wnd_move fun i hi => h i k hi hk
theorem wnd_all {l m : List Pnt} (h : Apart l m) : ∀ k, k < m.length → wnd l (pti m k) = wnd l (pti m 0)
  | 0, _ => rfl
  | k + 1, hk => by
    have := wnd_step h (k := k) (by omega)
    unfold nxt at this
    rw [Nat.mod_eq_of_lt hk] at this
    rw [this]
    exact wnd_all h k (by omega)
/-- a point within a segment -/
def On (a b r : Pnt) : Prop := ∃ m s : Int, 0 < m ∧ 0 ≤ s ∧ s ≤ m ∧ m * r.x = (m - s) * a.x + s * b.x ∧ m * r.y = (m - s) * a.y + s * b.y
theorem hit_sub {a b r c d : Pnt} (hr : On a b r) (h : Hit a r c d) : Hit a b c d := by
  obtain ⟨m, s, h1, h2, h3, ex, ey⟩ := hr
  obtain ⟨m', s', k, t, g1, g2, g3, g4, g5, g6, g7, g8⟩ := h
  have e1 := mul_nn g2 h2
  have e2 := mul_nn (show 0 ≤ m' - s' by omega) (Int.le_of_lt h1)
  have e3 := mul_nn g2 (show 0 ≤ m - s by omega)
  refine ⟨m' * m, s' * s, k, t, Int.mul_pos g1 h1, e1, by grind, g4, g5, g6, ?_, ?_⟩ <;> grind
theorem wnd_on {l m : List Pnt} (h : Apart l m) {k : Nat} (hk : k < m.length) {r : Pnt} (hr : On (pti m k) (nxt m k) r) : wnd l r = wnd l (pti m 0) := by
  rw [← wnd_all h k hk]
  exact wnd_move fun i hi x => h i k hi hk (hit_sub hr x.sym).sym

/-! a simple contour: on its left it goes round equally often everywhere -/
def OnIn (a b r : Pnt) : Prop := ∃ m s : Int, 0 < s ∧ s < m ∧ m * r.x = (m - s) * a.x + s * b.x ∧ m * r.y = (m - s) * a.y + s * b.y
theorem OnIn.on {a b r : Pnt} (h : OnIn a b r) : On a b r := by
  obtain ⟨m, s, h1, h2, e⟩ := h
  exact ⟨m, s, by omega, by omega, by omega, e⟩
theorem OnIn.flip {a b r : Pnt} (h : OnIn a b r) : OnIn b a r := by
  obtain ⟨m, s, h1, h2, ex, ey⟩ := h
  exact ⟨m, m - s, by omega, by omega, by grind, by grind⟩
theorem OnIn.line {a b r : Pnt} (h : OnIn a b r) : trn a b r = 0 := by
  obtain ⟨m, s, h1, h2, ex, ey⟩ := h
  refine cancelL (show 0 < m by omega) ?_
  unfold trn
  grind
theorem trn_cyc (a b c : Pnt) : trn a b c = trn b c a := by unfold trn; grind
/-- edges with one end in common have nothing more in common -/
theorem adj_nohit {z a u p : Pnt} (hne : a.y ≠ u.y) (h1 : ¬ onZ z a u) (h2 : ¬ onZ u z a) (hp : OnIn a u p) : ¬ Hit z a p u := by
  rintro ⟨m1, s1, k1, t1, g1, g2, g3, g4, g5, g6, g7, g8⟩
  obtain ⟨m, s, s0, s1', ex, ey⟩ := hp
  have hm : 0 < m := by omega
  obtain ⟨A, hA⟩ : ∃ A, k1 * (m1 - s1) * m = A := ⟨_, rfl⟩
  obtain ⟨B, hB⟩ : ∃ B, m1 * ((k1 - t1) * s + t1 * m) = B := ⟨_, rfl⟩
  have fx : A * (z.x - a.x) = B * (u.x - a.x) := by rw [← hA, ← hB]; grind
  have fy : A * (z.y - a.y) = B * (u.y - a.y) := by rw [← hA, ← hB]; grind
  have a0 : 0 ≤ A := by rw [← hA]; exact mul_nn (mul_nn (by omega) (by omega)) (by omega)
  have b0 : 0 < B := by
    rw [← hB]
    refine Int.mul_pos g1 ?_
    rcases Int.lt_or_le 0 t1 with g | g
    · have e1 := Int.mul_pos g hm
      have e2 := mul_nn (show 0 ≤ k1 - t1 by omega) (Int.le_of_lt s0)
      omega
    · have e1 := Int.mul_pos (show 0 < k1 - t1 by omega) s0
      have e2 := mul_nn g5 (Int.le_of_lt hm)
      omega
  have a1 : 0 < A := by
    rcases Int.lt_or_le 0 A with g | g
    · exact g
    · have : A = 0 := by omega
      rw [this, Int.zero_mul] at fy
      rcases Int.mul_eq_zero.1 fy.symm with e | e <;> omega
  have hz : trn a u z = 0 := by
    refine cancelL a1 ?_
    unfold trn
    grind
  rcases Int.le_total B A with g | g
  · have bx := between a1 (Int.le_of_lt b0) g (r := z.x) (p := a.x) (q := u.x) (by grind)
    have by' := between a1 (Int.le_of_lt b0) g (r := z.y) (p := a.y) (q := u.y) (by grind)
    exact h1 ⟨hz, bx.1, bx.2, by'.1, by'.2⟩
  · have bx := between b0 (show 0 ≤ B - A by omega) (by omega) (r := u.x) (p := z.x) (q := a.x) (by grind)
    have by' := between b0 (show 0 ≤ B - A by omega) (by omega) (r := u.y) (p := z.y) (q := a.y) (by grind)
    exact h2 ⟨by rw [trn_cyc]; exact hz, bx.1, bx.2, by'.1, by'.2⟩
structure Smp (l : List Pnt) : Prop where
  n : 3 ≤ l.length
  far : ∀ i k, i < l.length → k < l.length → i ≠ k → (i + 1) % l.length ≠ k → (k + 1) % l.length ≠ i → ¬ Hit (pti l i) (nxt l i) (pti l k) (nxt l k)
  adj : ∀ i, i < l.length → ¬ onZ (pti l i) (nxt l i) (nxt l ((i + 1) % l.length)) ∧ ¬ onZ (nxt l ((i + 1) % l.length)) (pti l i) (nxt l i)
  gen : ∀ i k, i < l.length → k < l.length → i ≠ k → (pti l i).y ≠ (pti l k).y
def up (a b : Pnt) : Int := if a.y < b.y then 1 else 0
/-- the sum over all edges but two that follow each other -/
def wk (l : List Pnt) (i : Nat) (q : Pnt) : Int := sm l.length fun j => if j = (i + 1) % l.length then 0 else if j = i then 0 else kap (pti l j) (nxt l j) q
theorem mod_ne {i n : Nat} (hn : 2 ≤ n) (hi : i < n) : (i + 1) % n ≠ i := by
  by_cases h : i + 1 = n
  · rw [h, Nat.mod_self]; omega
  · rw [Nat.mod_eq_of_lt (by omega)]; omega
theorem mod_ne2 {i n : Nat} (hn : 3 ≤ n) (hi : i < n) : ((i + 1) % n + 1) % n ≠ i := by
  by_cases h : i + 1 = n
  · rw [h, Nat.mod_self, Nat.mod_eq_of_lt (by omega)]; omega
  · rw [Nat.mod_eq_of_lt (show i + 1 < n by omega)]
    by_cases h2 : i + 1 + 1 = n
    · rw [h2, Nat.mod_self]; omega
    · rw [Nat.mod_eq_of_lt (by omega)]; omega
theorem wnd_wk {l : List Pnt} {i : Nat} (hn : 3 ≤ l.length) (hi : i < l.length) (q : Pnt) : wnd l q = wk l i q + kap (nxt l i) (nxt l ((i + 1) % l.length)) q + kap (pti l i) (nxt l i) q := by
  have hi' : (i + 1) % l.length < l.length := Nat.mod_lt _ (by omega)
  unfold wnd
  rw [sm_but hi, sm_but hi']
  rw [if_neg (mod_ne (by omega) hi)]
  rfl
theorem wk_move {l : List Pnt} {i : Nat} (hn : 3 ≤ l.length) (hi : i < l.length) {p q : Pnt} (h : ∀ j, j < l.length → j ≠ i → j ≠ (i + 1) % l.length → ¬ Hit (pti l j) (nxt l j) p q) (hpq : p.y ≤ q.y) : wk l i q - wk l i p = ind p q (nxt l ((i + 1) % l.length)) - ind p q (pti l i) := by
  have hi' : (i + 1) % l.length < l.length := Nat.mod_lt _ (by omega)
  have e0 := tele l (ind p q)
  rw [sm_but hi, sm_but hi'] at e0
  rw [if_neg (mod_ne (by omega) hi)] at e0
  unfold wk
  rw [← sm_sub, sm_congr (g := fun j => if j = (i + 1) % l.length then 0 else if j = i then 0 else ind p q (pti l j) - ind p q (nxt l j)) fun j hj => by
    by_cases e1 : j = (i + 1) % l.length
    · rw [if_pos e1, if_pos e1, if_pos e1]; rfl
    · rw [if_neg e1, if_neg e1, if_neg e1]
      by_cases e2 : j = i
      · rw [if_pos e2, if_pos e2, if_pos e2]; rfl
      · rw [if_neg e2, if_neg e2, if_neg e2]
        exact kap_move (h j hj e2 e1) hpq]
  have e3 : pti l ((i + 1) % l.length) = nxt l i := rfl
  rw [e3] at e0
  omega
theorem kap_on {a b q : Pnt} (h : trn a b q = 0) : kap a b q = 0 := by
  unfold kap
  rw [h, if_neg (by omega), if_neg (by omega)]
theorem ind_on {a b q : Pnt} (h : trn a b q = 0) : ind a b q = 0 := by
  unfold ind
  rw [h, if_neg (by omega)]
theorem on_height {p q v : Pnt} (hpq : p.y < q.y) (h : trn p q v = 0) (h1 : p.y ≤ v.y) (h2 : v.y ≤ q.y) : onZ v p q := by
  have e : (q.y - p.y) * v.x = ((q.y - p.y) - (v.y - p.y)) * p.x + (v.y - p.y) * q.x := by unfold trn at h; grind
  have bx := between (show 0 < q.y - p.y by omega) (show 0 ≤ v.y - p.y by omega) (by omega) e
  exact ⟨h, bx.1, bx.2, by omega, by omega⟩
theorem onZ_flip {v p q : Pnt} (h : onZ v p q) : onZ v q p := by
  obtain ⟨h1, h2, h3, h4, h5⟩ := h
  exact ⟨by rw [trn_flip]; omega, by omega, by omega, by omega, by omega⟩
theorem sgn_mul {m u v : Int} {k : Int} (hm : 0 < m) (hk : 0 < k) (h : m * u = k * v) : (0 < u ↔ 0 < v) ∧ (u < 0 ↔ v < 0) := by
  have pos : ∀ {m k u v : Int}, 0 < m → 0 < k → m * u = k * v → 0 < u → 0 < v := fun {m k u v} hm hk h hu => by
    have e := Int.mul_pos hm hu
    rcases Int.lt_or_le 0 v with g | g
    · exact g
    · have := mul_nn (Int.le_of_lt hk) (show 0 ≤ -v by omega); grind
  refine ⟨⟨pos hm hk h, pos hk hm h.symm⟩, fun x => ?_, fun x => ?_⟩
  · have := pos (u := -u) (v := -v) hm hk (by grind) (by omega); omega
  · have := pos (u := -v) (v := -u) hk hm (by grind) (by omega); omega

theorem far2 {l : List Pnt} (h : Smp l) {i j : Nat} (hi : i < l.length) (hj : j < l.length) (h1 : j ≠ i) (h2 : j ≠ (i + 1) % l.length) (h3 : (j + 1) % l.length ≠ i) : ¬ Hit (pti l j) (nxt l j) (pti l i) (nxt l i) := h.far j i hj hi h1 h3 (Ne.symm h2)
/-- behind the corner: all edges but these two miss the way from a point within the first one to the corner -/
theorem miss1 {l : List Pnt} (h : Smp l) {i : Nat} (hi : i < l.length) {p : Pnt} (hp : OnIn (pti l i) (nxt l i) p) : ∀ j, j < l.length → j ≠ i → j ≠ (i + 1) % l.length → ¬ Hit (pti l j) (nxt l j) p (nxt l i) := fun j hj h1 h2 => by
  have hn := h.n
  by_cases h3 : (j + 1) % l.length = i
  · have hz := h.adj j hj
    have e : nxt l j = pti l i := by unfold nxt; rw [h3]
    rw [h3, e] at hz
    rw [e]
    refine adj_nohit ?_ hz.1 hz.2 hp
    exact h.gen i _ hi (Nat.mod_lt _ (by omega)) (Ne.symm (mod_ne (by omega) hi))
  · intro x
    have y : Hit (nxt l i) p (pti l j) (nxt l j) := x.sym.flip
    exact far2 h hi hj h1 h2 h3 (hit_sub hp.flip.on y).flip.sym
theorem miss2 {l : List Pnt} (h : Smp l) {i : Nat} (hi : i < l.length) {q : Pnt} (hq : OnIn (nxt l i) (nxt l ((i + 1) % l.length)) q) : ∀ j, j < l.length → j ≠ i → j ≠ (i + 1) % l.length → ¬ Hit (pti l j) (nxt l j) (nxt l i) q := fun j hj h1 h2 => by
  have hn := h.n
  have hi' : (i + 1) % l.length < l.length := Nat.mod_lt _ (by omega)
  by_cases h3 : j = ((i + 1) % l.length + 1) % l.length
  · -- the edge behind the second one
    have hz := h.adj ((i + 1) % l.length) hi'
    have e : nxt l ((i + 1) % l.length) = pti l j := by unfold nxt; rw [h3]
    have e2 : pti l ((i + 1) % l.length) = nxt l i := rfl
    rw [e, e2, ← h3] at hz
    rw [e] at hq
    intro x
    refine adj_nohit (z := nxt l j) (a := pti l j) (u := nxt l i) (p := q) ?_ (fun g => hz.2 (onZ_flip g)) (fun g => hz.1 (onZ_flip g)) hq.flip x.flip.sym.flip.sym
    exact h.gen j _ hj hi' (fun g => mod_ne (n := l.length) (by omega) hi' (by rw [← h3]; exact g))
  · intro x
    have y : Hit (nxt l i) q (pti l j) (nxt l j) := x.sym
    have z : ¬ Hit (pti l j) (nxt l j) (pti l ((i + 1) % l.length)) (nxt l ((i + 1) % l.length)) := h.far j _ hj hi' h2 (fun g => by
      -- then j + 1 = i + 1
      have : j = i := by
        have a1 := Nat.mod_lt (j + 1) (show 0 < l.length by omega)
        by_cases b1 : j + 1 = l.length <;> by_cases b2 : i + 1 = l.length
        · omega
        · rw [b1, Nat.mod_self, Nat.mod_eq_of_lt (show i + 1 < l.length by omega)] at g; omega
        · rw [b2, Nat.mod_self, Nat.mod_eq_of_lt (show j + 1 < l.length by omega)] at g; omega
        · rw [Nat.mod_eq_of_lt (show i + 1 < l.length by omega), Nat.mod_eq_of_lt (show j + 1 < l.length by omega)] at g; omega
      exact h1 this) (fun g => h3 g.symm)
    exact z (hit_sub hq.on y).sym
theorem OnIn.mid {a b r : Pnt} (h : OnIn a b r) (hab : a.y < b.y) : a.y < r.y ∧ r.y < b.y := by
  obtain ⟨m, s, h1, h2, ex, ey⟩ := h
  have pos : ∀ z : Int, 0 < m * z → 0 < z := fun z hz => by
    rcases Int.lt_or_le 0 z with g | g
    · exact g
    · have := mul_nn (show 0 ≤ m by omega) (show 0 ≤ -z by omega); grind
  have e1 := Int.mul_pos h1 (show 0 < b.y - a.y by omega)
  have e2 := Int.mul_pos (show 0 < m - s by omega) (show 0 < b.y - a.y by omega)
  have r1 := pos (r.y - a.y) (by grind)
  have r2 := pos (b.y - r.y) (by grind)
  omega
theorem ind_no {p q v : Pnt} (h : ¬ (p.y < v.y ∧ v.y ≤ q.y)) : ind p q v = 0 := by unfold ind; rw [if_neg (fun x => h ⟨x.1, x.2.1⟩)]
theorem kap_no {a b q : Pnt} (h : ¬ (a.y ≤ q.y ∧ q.y < b.y)) (h2 : ¬ (b.y ≤ q.y ∧ q.y < a.y)) : kap a b q = 0 := by unfold kap; rw [if_neg (fun x => h ⟨x.1, x.2.1⟩), if_neg (fun x => h2 ⟨x.1, x.2.1⟩)]
theorem left_local {a u c p q : Pnt} (hp : OnIn a u p) (hq : OnIn u c q) (g1 : a.y ≠ u.y) (g2 : u.y ≠ c.y) (ad1 : ¬ onZ a u c) (ad2 : ¬ onZ c a u) {W Wp Wq : Int} (w1 : p.y ≤ u.y → W - Wp = ind p u c - ind p u a) (w2 : u.y ≤ p.y → Wp - W = ind u p c - ind u p a) (w3 : u.y ≤ q.y → Wq - W = ind u q c - ind u q a) (w4 : q.y ≤ u.y → W - Wq = ind q u c - ind q u a) :
    Wp + kap u c p + kap a u p + up a u = Wq + kap u c q + kap a u q + up u c := by
  rw [kap_on hp.line, kap_on hq.line]
  obtain ⟨m, s, s0, s1, ex, ey⟩ := id hp
  obtain ⟨k, t, t0, t1, fx, fy⟩ := id hq
  obtain ⟨z, hz⟩ : ∃ z, trn a u c = z := ⟨_, rfl⟩
  have a1 : m * trn u c p = (m - s) * z := by rw [← hz]; unfold trn; grind
  have a2 : m * trn p u c = (m - s) * z := by rw [← hz]; unfold trn; grind
  have a3 : k * trn a u q = t * z := by rw [← hz]; unfold trn; grind
  have a4 : trn u p c = -trn p u c := by unfold trn; grind
  have a5 : k * trn u q a = t * z := by rw [← hz]; unfold trn; grind
  have a6 : trn q u a = -trn u q a := by unfold trn; grind
  have c1 := sgn_mul (show 0 < m by omega) (show 0 < m - s by omega) a1
  have c2 := sgn_mul (show 0 < m by omega) (show 0 < m - s by omega) a2
  have c3 := sgn_mul (show 0 < k by omega) t0 a3
  have c5 := sgn_mul (show 0 < k by omega) t0 a5
  rcases Int.lt_or_le a.y u.y with h1 | h1
  · have hpm := hp.mid h1
    have v1 := w1 (by omega)
    rw [ind_no (p := p) (q := u) (v := a) (by omega)] at v1
    have u1 : up a u = 1 := by unfold up; rw [if_pos h1]
    rcases Int.lt_or_le u.y c.y with h2 | h2
    · have hqm := hq.mid h2
      have v3 := w3 (by omega)
      rw [ind_no (by omega), ind_no (by omega)] at v3
      rw [ind_no (by omega)] at v1
      have u2 : up u c = 1 := by unfold up; rw [if_pos h2]
      rw [kap_no (a := u) (b := c) (q := p) (by omega) (by omega), kap_no (a := a) (b := u) (q := q) (by omega) (by omega)]
      omega
    · have h2' : c.y < u.y := by omega
      have hqm := hq.flip.mid h2'
      have v4 := w4 (by omega)
      rw [ind_no (p := q) (q := u) (v := c) (by omega)] at v4
      have u2 : up u c = 0 := by unfold up; rw [if_neg (by omega)]
      have zn : z ≠ 0 := fun e => by
        rw [e] at hz
        rcases Int.le_total a.y c.y with g | g
        · exact ad2 (on_height h1 hz g (by omega))
        · exact ad1 (onZ_flip (on_height h2' (by rw [← hz, trn_flip, ← trn_cyc, trn_flip]; have := trn_flip; unfold trn at *; grind) g (by omega)))
      unfold ind at v1 v4
      unfold kap
      rcases Int.lt_or_le z 0 with hs | hs
      · have d1 := c1.2.2 hs
        have d2 := c2.2.2 hs
        have d3 := c3.2.2 hs
        have d5 := c5.2.2 hs
        rw [if_neg (show ¬ (q.y < a.y ∧ a.y ≤ u.y ∧ trn q u a < 0) by omega)] at v4
        rw [if_neg (show ¬ (a.y ≤ q.y ∧ q.y < u.y ∧ 0 < trn a u q) by omega), if_neg (show ¬ (u.y ≤ q.y ∧ q.y < a.y ∧ trn a u q < 0) by omega), if_neg (show ¬ (u.y ≤ p.y ∧ p.y < c.y ∧ 0 < trn u c p) by omega)]
        by_cases e : c.y ≤ p.y
        · rw [if_neg (by omega)] at v1
          rw [if_pos ⟨e, by omega, d1⟩]; omega
        · rw [if_pos ⟨by omega, by omega, d2⟩] at v1
          rw [if_neg (by omega)]; omega
      · have hs : 0 < z := by omega
        have d1 := c1.1.2 hs
        have d2 := c2.1.2 hs
        have d3 := c3.1.2 hs
        have d5 := c5.1.2 hs
        rw [if_neg (by omega)] at v1
        rw [if_neg (show ¬ (u.y ≤ p.y ∧ p.y < c.y ∧ 0 < trn u c p) by omega), if_neg (show ¬ (c.y ≤ p.y ∧ p.y < u.y ∧ trn u c p < 0) by omega)]
        by_cases e : a.y ≤ q.y
        · rw [if_neg (by omega)] at v4
          rw [if_pos ⟨e, by omega, d3⟩]; omega
        · rw [if_pos ⟨by omega, by omega, by omega⟩] at v4
          rw [if_neg (by omega), if_neg (by omega)]; omega
  · have h1' : u.y < a.y := by omega
    have hpm := hp.flip.mid h1'
    have v2 := w2 (by omega)
    rw [ind_no (p := u) (q := p) (v := a) (by omega)] at v2
    have u1 : up a u = 0 := by unfold up; rw [if_neg (by omega)]
    rcases Int.lt_or_le u.y c.y with h2 | h2
    · have hqm := hq.mid h2
      have v3 := w3 (by omega)
      rw [ind_no (p := u) (q := q) (v := c) (by omega)] at v3
      have u2 : up u c = 1 := by unfold up; rw [if_pos h2]
      have zn : z ≠ 0 := fun e => by
        rw [e] at hz
        rcases Int.le_total a.y c.y with g | g
        · exact ad1 (on_height h2 (by rw [← hz, ← trn_cyc]) (by omega) g)
        · exact ad2 (onZ_flip (on_height h1' (by rw [trn_flip, hz]; rfl) (by omega) g))
      unfold ind at v2 v3
      unfold kap
      rcases Int.lt_or_le z 0 with hs | hs
      · have d1 := c1.2.2 hs
        have d2 := c2.2.2 hs
        have d3 := c3.2.2 hs
        have d5 := c5.2.2 hs
        rw [if_neg (by omega)] at v2
        rw [if_neg (show ¬ (u.y ≤ p.y ∧ p.y < c.y ∧ 0 < trn u c p) by omega), if_neg (show ¬ (c.y ≤ p.y ∧ p.y < u.y ∧ trn u c p < 0) by omega), if_neg (show ¬ (a.y ≤ q.y ∧ q.y < u.y ∧ 0 < trn a u q) by omega)]
        by_cases e : a.y ≤ q.y
        · rw [if_pos ⟨by omega, e, d5⟩] at v3
          rw [if_neg (by omega)]; omega
        · rw [if_neg (by omega)] at v3
          rw [if_pos ⟨by omega, by omega, d3⟩]; omega
      · have hs : 0 < z := by omega
        have d1 := c1.1.2 hs
        have d2 := c2.1.2 hs
        have d3 := c3.1.2 hs
        have d5 := c5.1.2 hs
        rw [if_neg (by omega)] at v3
        rw [if_neg (show ¬ (a.y ≤ q.y ∧ q.y < u.y ∧ 0 < trn a u q) by omega), if_neg (show ¬ (u.y ≤ q.y ∧ q.y < a.y ∧ trn a u q < 0) by omega)]
        by_cases e : c.y ≤ p.y
        · rw [if_pos ⟨by omega, e, by omega⟩] at v2
          rw [if_neg (by omega), if_neg (by omega)]; omega
        · rw [if_neg (by omega)] at v2
          rw [if_pos ⟨by omega, by omega, d1⟩]; omega
    · have h2' : c.y < u.y := by omega
      have hqm := hq.flip.mid h2'
      have v4 := w4 (by omega)
      rw [ind_no (by omega), ind_no (by omega)] at v4
      rw [ind_no (by omega)] at v2
      have u2 : up u c = 0 := by unfold up; rw [if_neg (by omega)]
      rw [kap_no (a := u) (b := c) (q := p) (by omega) (by omega), kap_no (a := a) (b := u) (q := q) (by omega) (by omega)]
      omega
theorem left_step {l : List Pnt} (h : Smp l) {i : Nat} (hi : i < l.length) {p q : Pnt} (hp : OnIn (pti l i) (nxt l i) p) (hq : OnIn (nxt l i) (nxt l ((i + 1) % l.length)) q) : wnd l p + up (pti l i) (nxt l i) = wnd l q + up (nxt l i) (nxt l ((i + 1) % l.length)) := by
  have hn := h.n
  have hi' : (i + 1) % l.length < l.length := Nat.mod_lt _ (by omega)
  have g1 : (pti l i).y ≠ (nxt l i).y := h.gen i _ hi hi' (Ne.symm (mod_ne (by omega) hi))
  have g2 : (nxt l i).y ≠ (nxt l ((i + 1) % l.length)).y := h.gen _ _ hi' (Nat.mod_lt _ (by omega)) (Ne.symm (mod_ne (by omega) hi'))
  have ad := h.adj i hi
  have m1 := miss1 h hi hp
  have m2 := miss2 h hi hq
  have k1 : ∀ j, j < l.length → j ≠ i → j ≠ (i + 1) % l.length → ¬ Hit (pti l j) (nxt l j) (nxt l i) p := fun j hj a b x => m1 j hj a b x.sym.flip.sym
  have k2 : ∀ j, j < l.length → j ≠ i → j ≠ (i + 1) % l.length → ¬ Hit (pti l j) (nxt l j) q (nxt l i) := fun j hj a b x => m2 j hj a b x.sym.flip.sym
  rw [wnd_wk hn hi p, wnd_wk hn hi q]
  exact left_local hp hq g1 g2 ad.1 ad.2 (wk_move hn hi m1) (wk_move hn hi k1) (wk_move hn hi m2) (wk_move hn hi k2)

theorem left_all {l : List Pnt} (h : Smp l) (hin : ∀ i, i < l.length → ∃ r, OnIn (pti l i) (nxt l i) r) : ∃ L : Int, ∀ i, i < l.length → ∀ r, OnIn (pti l i) (nxt l i) r → wnd l r + up (pti l i) (nxt l i) = L := by
  have hn := h.n
  obtain ⟨r0, h0⟩ := hin 0 (by omega)
  refine ⟨wnd l r0 + up (pti l 0) (nxt l 0), ?_⟩
  intro i
  induction i with
  | zero =>
    intro hi r hr
    obtain ⟨q, hq⟩ := hin ((0 + 1) % l.length) (Nat.mod_lt _ (by omega))
    have e1 := left_step h hi hr hq
    have e2 := left_step h hi h0 hq
    omega
  | succ i ih =>
    intro hi r hr
    obtain ⟨p, hp⟩ := hin i (by omega)
    have e := Nat.mod_eq_of_lt hi
    have e2 : nxt l i = pti l (i + 1) := by unfold nxt; rw [e]
    rw [← e2] at hr ⊢
    have e1 := left_step h (show i < l.length by omega) hp (q := r) (by rw [e]; exact hr)
    rw [e] at e1
    rw [← e1]
    exact ih (by omega) p hp
/-! rows -/
/-- an edge crosses a row -/
def cr (a b : Pnt) (Y : Int) : Int := if a.y < Y ∧ Y < b.y then 1 else if b.y < Y ∧ Y < a.y then -1 else 0
/-- where -/
def xi (a b : Pnt) (Y : Int) : Int := a.x + (b.x - a.x) / (b.y - a.y) * (Y - a.y)
def b01 (p : Prop) [Decidable p] : Int := if p then 1 else 0
theorem b01_iff {p q : Prop} [Decidable p] [Decidable q] (h : p ↔ q) : b01 p = b01 q := by
  unfold b01
  by_cases hp : p
  · rw [if_pos hp, if_pos (h.1 hp)]
  · rw [if_neg hp, if_neg (fun x => hp (h.2 x))]
theorem cr_flip (a b : Pnt) (Y : Int) : cr b a Y = -cr a b Y := by
  unfold cr
  split <;> split <;> (try split) <;> omega
/-- an edge whose heights are even, and whose slope is an even number -/
structure Edge (a b : Pnt) : Prop where
  ne : a.y ≠ b.y
  ay : a.y % 2 = 0
  bY : b.y % 2 = 0
  ax : a.x % 2 = 0
  sl : ∃ s, s % 2 = 0 ∧ b.x - a.x = s * (b.y - a.y)
theorem Edge.xi {a b : Pnt} (h : Edge a b) : ∃ s, s % 2 = 0 ∧ b.x - a.x = s * (b.y - a.y) ∧ ∀ Y, xi a b Y = a.x + s * (Y - a.y) := by
  obtain ⟨s, h1, h2⟩ := h.sl
  have hne : b.y - a.y ≠ 0 := by have := h.ne; omega
  refine ⟨s, h1, h2, fun Y => ?_⟩
  unfold Go.Proofs.YtfmhickjefogdaaGreat.xi
  rw [h2, Int.mul_ediv_cancel _ hne]
theorem Edge.flip {a b : Pnt} (h : Edge a b) : Edge b a := by
  obtain ⟨s, h1, h2⟩ := h.sl
  refine ⟨Ne.symm h.ne, h.bY, h.ay, ?_, s, h1, by grind⟩
  have := h.ax
  have e : (s * (b.y - a.y)) % 2 = 0 := by rw [Int.mul_emod, h1]; simp
  omega
theorem xi_flip {a b : Pnt} (h : Edge a b) (Y : Int) : xi b a Y = xi a b Y := by
  obtain ⟨s, _, h2, e⟩ := h.xi
  obtain ⟨s', _, h2', e'⟩ := h.flip.xi
  rw [e, e']
  have hs : s' = s := by
    have hne := h.ne
    have : (s' - s) * (a.y - b.y) = 0 := by grind
    rcases Int.mul_eq_zero.1 this with g | g <;> omega
  subst hs
  grind
theorem xi_even {a b : Pnt} (h : Edge a b) (Y : Int) : xi a b Y % 2 = 0 := by
  obtain ⟨s, h1, _, e⟩ := h.xi
  rw [e]
  have e2 : (s * (Y - a.y)) % 2 = 0 := by rw [Int.mul_emod, h1]; simp
  have := h.ax
  omega
theorem trn_xi {a b : Pnt} (h : Edge a b) (X Y : Int) : trn a b ⟨X, Y⟩ = (b.y - a.y) * (xi a b Y - X) := by
  obtain ⟨s, _, h2, e⟩ := h.xi
  rw [e]
  unfold trn
  dsimp only
  grind
/-- an edge's count at any point of an odd row -/
theorem kap_row {a b : Pnt} (h : Edge a b) (X Y : Int) (hY : Y % 2 = 1) : kap a b ⟨X, Y⟩ = cr a b Y * b01 (X < xi a b Y) := by
  have t := trn_xi h X Y
  have := h.ay
  have := h.bY
  unfold kap cr b01
  dsimp only
  by_cases h1 : a.y < Y ∧ Y < b.y
  · rw [if_pos h1]
    have hp : 0 < trn a b ⟨X, Y⟩ ↔ X < xi a b Y := by
      rw [t]
      have hd : 0 < b.y - a.y := by omega
      constructor
      · intro g
        rcases Int.lt_or_le X (xi a b Y) with k | k
        · exact k
        · have := mul_nn (Int.le_of_lt hd) (show 0 ≤ X - xi a b Y by omega); grind
      · intro g; exact Int.mul_pos hd (by omega)
    by_cases g : X < xi a b Y
    · rw [if_pos ⟨by omega, by omega, hp.2 g⟩, if_pos g]; rfl
    · rw [if_neg (fun x => g (hp.1 x.2.2)), if_neg (by omega), if_neg g]; rfl
  · rw [if_neg h1, if_neg (show ¬ (a.y ≤ Y ∧ Y < b.y ∧ 0 < trn a b ⟨X, Y⟩) by omega)]
    by_cases h2 : b.y < Y ∧ Y < a.y
    · rw [if_pos h2]
      have hp : trn a b ⟨X, Y⟩ < 0 ↔ X < xi a b Y := by
        rw [t]
        have hd : 0 < a.y - b.y := by omega
        constructor
        · intro g
          rcases Int.lt_or_le X (xi a b Y) with k | k
          · exact k
          · have := mul_nn (Int.le_of_lt hd) (show 0 ≤ X - xi a b Y by omega); grind
        · intro g
          have := Int.mul_pos hd (show 0 < xi a b Y - X by omega); grind
      by_cases g : X < xi a b Y
      · rw [if_pos ⟨by omega, by omega, hp.2 g⟩, if_pos g]; rfl
      · rw [if_neg (fun x => g (hp.1 x.2.2)), if_neg g]; rfl
    · rw [if_neg h2, if_neg (by omega)]; simp
/-- the point of an edge on a row -/
theorem xi_in {a b : Pnt} (h : Edge a b) {Y : Int} (hc : cr a b Y ≠ 0) : OnIn a b ⟨xi a b Y, Y⟩ := by
  have key : ∀ {a b : Pnt}, Edge a b → a.y < Y → Y < b.y → OnIn a b ⟨Go.Proofs.YtfmhickjefogdaaGreat.xi a b Y, Y⟩ := fun {a b} h h1 h2 => by
    obtain ⟨s, _, e2, e⟩ := h.xi
    refine ⟨b.y - a.y, Y - a.y, by omega, by omega, ?_, ?_⟩
    · dsimp only; rw [e]; grind
    · dsimp only; grind
  unfold cr at hc
  by_cases h1 : a.y < Y ∧ Y < b.y
  · exact key h h1.1 h1.2
  · rw [if_neg h1] at hc
    by_cases h2 : b.y < Y ∧ Y < a.y
    · have := (key h.flip h2.1 h2.2).flip
      rw [xi_flip h] at this
      exact this
    · rw [if_neg h2] at hc; exact absurd rfl hc

/-! sums over pixels -/
theorem sum_b01 {x : Int} (hx : x % 2 = 0) (h0 : 0 ≤ x) : ∀ {T : Nat}, x ≤ 2 * T → 2 * sm T (fun t => b01 (2 * (t : Int) + 1 < x)) = x := by
  have gen : ∀ T : Nat, 2 * sm T (fun t => b01 (2 * (t : Int) + 1 < x)) = min x (2 * T) := by
    intro T
    induction T with
    | zero => simp only [sm]; omega
    | succ T ih =>
      rw [sm_succ, Int.mul_add, ih]
      unfold b01
      split <;> omega
  intro T h
  rw [gen]; omega
theorem sum_b01_mul {x y : Int} (hx : x % 2 = 0) (hy : y % 2 = 0) (h0 : 0 ≤ x) (k0 : 0 ≤ y) {T : Nat} (h1 : x ≤ 2 * T) (k1 : y ≤ 2 * T) (hne : x ≠ y) : 2 * sm T (fun t => b01 (2 * (t : Int) + 1 < x) * b01 (2 * (t : Int) + 1 < y)) = x * b01 (x < y) + y * b01 (y < x) := by
  rcases Int.lt_or_le x y with g | g
  · rw [sm_congr (g := fun t => b01 (2 * (t : Int) + 1 < x)) fun t _ => by
      unfold b01
      by_cases e : 2 * (t : Int) + 1 < x
      · rw [if_pos e, if_pos (by omega)]; rfl
      · rw [if_neg e]; simp, sum_b01 hx h0 h1]
    unfold b01
    rw [if_pos g, if_neg (by omega)]; omega
  · rw [sm_congr (g := fun t => b01 (2 * (t : Int) + 1 < y)) fun t _ => by
      unfold b01
      by_cases e : 2 * (t : Int) + 1 < y
      · rw [if_pos e, if_pos (by omega)]; rfl
      · rw [if_neg e]; simp, sum_b01 hy k0 k1]
    unfold b01
    rw [if_neg (by omega), if_pos (by omega)]; omega
/-- an edge's crossings of all rows -/
theorem sum_rows {a b : Pnt} (h : Edge a b) {R : Nat} (ha : 0 ≤ a.y) (hb : 0 ≤ b.y) (ha2 : a.y ≤ 2 * R) (hb2 : b.y ≤ 2 * R) : 4 * sm R (fun r => cr a b (2 * (r : Int) + 1) * xi a b (2 * (r : Int) + 1)) = (b.y - a.y) * (a.x + b.x) := by
  have key : ∀ {a b : Pnt}, Edge a b → 0 ≤ a.y → a.y < b.y → ∀ R : Nat, 4 * sm R (fun r => cr a b (2 * (r : Int) + 1) * xi a b (2 * (r : Int) + 1)) = (fun d : Int => d * (2 * a.x + (b.x - a.x) / (b.y - a.y) * d)) (max 0 (min (2 * (R : Int)) b.y - a.y)) := by
    intro a b h h0 hab R
    obtain ⟨s, _, e2, e⟩ := h.xi
    have es : (b.x - a.x) / (b.y - a.y) = s := by rw [e2, Int.mul_ediv_cancel _ (by omega)]
    have p1 := h.ay
    have p2 := h.bY
    rw [es]
    dsimp only
    induction R with
    | zero =>
      have : max 0 (min (2 * ((0 : Nat) : Int)) b.y - a.y) = 0 := by omega
      rw [this]; simp [sm]
    | succ R ih =>
      rw [sm_succ, Int.mul_add, ih]
      have e3 := e (2 * (R : Int) + 1)
      by_cases g : a.y ≤ 2 * (R : Int)
      · by_cases g2 : 2 * (R : Int) < b.y
        · have m1 : max 0 (min (2 * (R : Int)) b.y - a.y) = 2 * (R : Int) - a.y := by omega
          have m2 : max 0 (min (2 * ((R + 1 : Nat) : Int)) b.y - a.y) = 2 * (R : Int) - a.y + 2 := by omega
          have c1 : cr a b (2 * (R : Int) + 1) = 1 := by unfold cr; rw [if_pos (by omega)]
          rw [m1, m2, c1, e3]
          grind
        · have m1 : max 0 (min (2 * (R : Int)) b.y - a.y) = b.y - a.y := by omega
          have m2 : max 0 (min (2 * ((R + 1 : Nat) : Int)) b.y - a.y) = b.y - a.y := by omega
          have c1 : cr a b (2 * (R : Int) + 1) = 0 := by unfold cr; rw [if_neg (by omega), if_neg (by omega)]
          rw [m1, m2, c1]; omega
      · have m1 : max 0 (min (2 * (R : Int)) b.y - a.y) = 0 := by omega
        have m2 : max 0 (min (2 * ((R + 1 : Nat) : Int)) b.y - a.y) = 0 := by omega
        have c1 : cr a b (2 * (R : Int) + 1) = 0 := by unfold cr; rw [if_neg (by omega), if_neg (by omega)]
        rw [m1, m2, c1]; omega
  have fin : ∀ {a b : Pnt}, Edge a b → 0 ≤ a.y → a.y < b.y → b.y ≤ 2 * R → 4 * sm R (fun r => cr a b (2 * (r : Int) + 1) * xi a b (2 * (r : Int) + 1)) = (b.y - a.y) * (a.x + b.x) := by
    intro a b h h0 hab h2
    rw [key h h0 hab R]
    obtain ⟨s, _, e2, e⟩ := h.xi
    have es : (b.x - a.x) / (b.y - a.y) = s := by rw [e2, Int.mul_ediv_cancel _ (by omega)]
    rw [es]
    have m1 : max 0 (min (2 * (R : Int)) b.y - a.y) = b.y - a.y := by omega
    dsimp only
    rw [m1]
    grind
  rcases Int.lt_or_le a.y b.y with g | g
  · exact fin h ha g hb2
  · have hne := h.ne
    have := fin h.flip hb (by omega) ha2
    rw [sm_congr (g := fun r => -1 * (cr a b (2 * (r : Int) + 1) * xi a b (2 * (r : Int) + 1))) fun r _ => by rw [cr_flip, xi_flip h]; grind, sm_mul] at this
    grind
/-! contours with such edges -/
structure Grid (T R : Nat) (l : List Pnt) : Prop where
  e : ∀ i, i < l.length → Edge (pti l i) (nxt l i)
  x0 : ∀ i, i < l.length → 0 ≤ (pti l i).x ∧ (pti l i).x ≤ 2 * T
  y0 : ∀ i, i < l.length → 0 ≤ (pti l i).y ∧ (pti l i).y ≤ 2 * R
def pix (t r : Nat) : Pnt := ⟨2 * (t : Int) + 1, 2 * (r : Int) + 1⟩
theorem nxt_ok {l : List Pnt} {i : Nat} (hi : i < l.length) : (i + 1) % l.length < l.length := Nat.mod_lt _ (by omega)
theorem Grid.xi0 {T R : Nat} {l : List Pnt} (h : Grid T R l) {i : Nat} (hi : i < l.length) {Y : Int} (hc : cr (pti l i) (nxt l i) Y ≠ 0) : 0 ≤ xi (pti l i) (nxt l i) Y ∧ xi (pti l i) (nxt l i) Y ≤ 2 * T := by
  obtain ⟨m, s, h1, h2, h3, ex, ey⟩ := (xi_in (h.e i hi) hc).on
  have b := between h1 h2 h3 ex
  dsimp only at b
  have a0 := h.x0 i hi
  have a1 : 0 ≤ (nxt l i).x ∧ (nxt l i).x ≤ 2 * T := h.x0 _ (nxt_ok hi)
  omega
/-- a contour at a point of an odd row -/
theorem wnd_row {T R : Nat} {l : List Pnt} (h : Grid T R l) (X Y : Int) (hY : Y % 2 = 1) : wnd l ⟨X, Y⟩ = sm l.length fun i => cr (pti l i) (nxt l i) Y * b01 (X < xi (pti l i) (nxt l i) Y) :=
  sm_congr fun i hi => kap_row (h.e i hi) X Y hY
/-- the sum over a row -/
theorem row_sum {T R : Nat} {l : List Pnt} (h : Grid T R l) (Y : Int) (hY : Y % 2 = 1) : 2 * sm T (fun t => wnd l ⟨2 * (t : Int) + 1, Y⟩) = sm l.length fun i => cr (pti l i) (nxt l i) Y * xi (pti l i) (nxt l i) Y := by
  rw [sm_congr fun t _ => wnd_row h _ Y hY, ← sm_comm, ← sm_mul]
  refine sm_congr fun i hi => ?_
  rw [sm_mul]
  by_cases hc : cr (pti l i) (nxt l i) Y = 0
  · rw [hc]; omega
  · have b := h.xi0 hi hc
    have := sum_b01 (xi_even (h.e i hi) Y) b.1 b.2
    rw [Int.mul_left_comm, this]
def area2 (l : List Pnt) : Int := sm l.length fun i => (pti l i).x * (nxt l i).y - (pti l i).y * (nxt l i).x
/-- the sum over all pixels is the area -/
theorem pix_sum {T R : Nat} {l : List Pnt} (h : Grid T R l) : 8 * sm R (fun r => sm T fun t => wnd l (pix t r)) = area2 l := by
  have e1 : 2 * sm R (fun r => sm T fun t => wnd l (pix t r)) = sm l.length fun i => sm R fun r => cr (pti l i) (nxt l i) (2 * (r : Int) + 1) * xi (pti l i) (nxt l i) (2 * (r : Int) + 1) := by
    rw [← sm_mul, sm_congr (f := fun r => 2 * sm T fun t => wnd l (pix t r)) fun r _ => row_sum h (2 * (r : Int) + 1) (by omega), sm_comm]
  have e2 : 8 * sm R (fun r => sm T fun t => wnd l (pix t r)) = sm l.length fun i => ((nxt l i).y - (pti l i).y) * ((pti l i).x + (nxt l i).x) := by
    have : 8 * sm R (fun r => sm T fun t => wnd l (pix t r)) = 4 * (2 * sm R (fun r => sm T fun t => wnd l (pix t r))) := by omega
    rw [this, e1, ← sm_mul]
    exact sm_congr fun i hi => sum_rows (h.e i hi) (h.y0 i hi).1 (h.y0 _ (nxt_ok hi)).1 (h.y0 i hi).2 (h.y0 _ (nxt_ok hi)).2
  rw [e2]
  have e3 := tele l fun p => p.x * p.y
  have e4 : sm l.length (fun i => ((nxt l i).y - (pti l i).y) * ((pti l i).x + (nxt l i).x)) = area2 l - sm l.length (fun i => (pti l i).x * (pti l i).y - (nxt l i).x * (nxt l i).y) := by
    unfold area2
    rw [← sm_sub]
    exact sm_congr fun i _ => by grind
  rw [e4, e3]; omega

/-- two contours without a point in common: the sum over a row of the product -/
theorem row_mul {T R : Nat} {l m : List Pnt} (hl : Grid T R l) (hm : Grid T R m) (ha : Apart l m) (Y : Int) (hY : Y % 2 = 1) :
    2 * sm T (fun t => wnd l ⟨2 * (t : Int) + 1, Y⟩ * wnd m ⟨2 * (t : Int) + 1, Y⟩) = wnd m (pti l 0) * sm l.length (fun i => cr (pti l i) (nxt l i) Y * xi (pti l i) (nxt l i) Y) + wnd l (pti m 0) * sm m.length (fun j => cr (pti m j) (nxt m j) Y * xi (pti m j) (nxt m j) Y) := by
  -- what the one goes round at the other's crossings
  have k1 : ∀ i, i < l.length → cr (pti l i) (nxt l i) Y ≠ 0 → sm m.length (fun j => cr (pti m j) (nxt m j) Y * b01 (xi (pti l i) (nxt l i) Y < xi (pti m j) (nxt m j) Y)) = wnd m (pti l 0) := fun i hi hc => by
    rw [← wnd_row hm _ Y hY]
    exact wnd_on ha.sym hi (xi_in (hl.e i hi) hc).on
  have k2 : ∀ j, j < m.length → cr (pti m j) (nxt m j) Y ≠ 0 → sm l.length (fun i => cr (pti l i) (nxt l i) Y * b01 (xi (pti m j) (nxt m j) Y < xi (pti l i) (nxt l i) Y)) = wnd l (pti m 0) := fun j hj hc => by
    rw [← wnd_row hl _ Y hY]
    exact wnd_on ha hj (xi_in (hm.e j hj) hc).on
  have e1 : 2 * sm T (fun t => wnd l ⟨2 * (t : Int) + 1, Y⟩ * wnd m ⟨2 * (t : Int) + 1, Y⟩) = sm l.length fun i => sm m.length fun j => cr (pti l i) (nxt l i) Y * cr (pti m j) (nxt m j) Y * (xi (pti l i) (nxt l i) Y * b01 (xi (pti l i) (nxt l i) Y < xi (pti m j) (nxt m j) Y) + xi (pti m j) (nxt m j) Y * b01 (xi (pti m j) (nxt m j) Y < xi (pti l i) (nxt l i) Y)) := by
    have e0 : ∀ t : Nat, wnd l ⟨2 * (t : Int) + 1, Y⟩ * wnd m ⟨2 * (t : Int) + 1, Y⟩ = sm l.length fun i => sm m.length fun j => cr (pti l i) (nxt l i) Y * cr (pti m j) (nxt m j) Y * (b01 (2 * (t : Int) + 1 < xi (pti l i) (nxt l i) Y) * b01 (2 * (t : Int) + 1 < xi (pti m j) (nxt m j) Y)) := fun t => by
      rw [wnd_row hl _ Y hY, wnd_row hm _ Y hY, Int.mul_comm, ← sm_mul]
      refine sm_congr fun i _ => ?_
      rw [Int.mul_comm, ← sm_mul]
      exact sm_congr fun j _ => by grind
    rw [sm_congr fun t _ => e0 t, ← sm_comm, ← sm_mul]
    refine sm_congr fun i hi => ?_
    rw [← sm_comm, ← sm_mul]
    refine sm_congr fun j hj => ?_
    rw [sm_mul]
    by_cases c1 : cr (pti l i) (nxt l i) Y = 0
    · rw [c1]; simp
    by_cases c2 : cr (pti m j) (nxt m j) Y = 0
    · rw [c2]; simp
    have b1 := hl.xi0 hi c1
    have b2 := hm.xi0 hj c2
    have hne : xi (pti l i) (nxt l i) Y ≠ xi (pti m j) (nxt m j) Y := fun e => by
      obtain ⟨p, s, p1, p2, p3, p4, p5⟩ := (xi_in (hl.e i hi) c1).on
      obtain ⟨q, u, q1, q2, q3, q4, q5⟩ := (xi_in (hm.e j hj) c2).on
      refine ha i j hi hj ⟨p, s, q, u, p1, p2, p3, q1, q2, q3, ?_, ?_⟩
      · rw [← p4, ← q4]; dsimp only; rw [e]; grind
      · rw [← p5, ← q5]; dsimp only; grind
    rw [Int.mul_left_comm, sum_b01_mul (xi_even (hl.e i hi) Y) (xi_even (hm.e j hj) Y) b1.1 b2.1 b1.2 b2.2 hne]
  rw [e1]
  have e2 : ∀ i, i < l.length → sm m.length (fun j => cr (pti l i) (nxt l i) Y * cr (pti m j) (nxt m j) Y * (xi (pti l i) (nxt l i) Y * b01 (xi (pti l i) (nxt l i) Y < xi (pti m j) (nxt m j) Y) + xi (pti m j) (nxt m j) Y * b01 (xi (pti m j) (nxt m j) Y < xi (pti l i) (nxt l i) Y))) = wnd m (pti l 0) * (cr (pti l i) (nxt l i) Y * xi (pti l i) (nxt l i) Y) + sm m.length (fun j => cr (pti m j) (nxt m j) Y * xi (pti m j) (nxt m j) Y * (cr (pti l i) (nxt l i) Y * b01 (xi (pti m j) (nxt m j) Y < xi (pti l i) (nxt l i) Y))) := fun i hi => by
    rw [sm_congr (g := fun j => (cr (pti l i) (nxt l i) Y * xi (pti l i) (nxt l i) Y) * (cr (pti m j) (nxt m j) Y * b01 (xi (pti l i) (nxt l i) Y < xi (pti m j) (nxt m j) Y)) + cr (pti m j) (nxt m j) Y * xi (pti m j) (nxt m j) Y * (cr (pti l i) (nxt l i) Y * b01 (xi (pti m j) (nxt m j) Y < xi (pti l i) (nxt l i) Y))) fun j _ => by grind, sm_add, sm_mul]
    by_cases c1 : cr (pti l i) (nxt l i) Y = 0
    · rw [c1]; simp
    · rw [k1 i hi c1, Int.mul_comm]
  rw [sm_congr e2, sm_add, sm_mul, sm_comm]
  congr 1
  rw [← sm_mul]
  refine sm_congr fun j hj => ?_
  rw [sm_mul]
  by_cases c2 : cr (pti m j) (nxt m j) Y = 0
  · rw [c2]; simp
  · rw [k2 j hj c2, Int.mul_comm]
theorem pix_mul {T R : Nat} {l m : List Pnt} (hl : Grid T R l) (hm : Grid T R m) (ha : Apart l m) : 8 * sm R (fun r => sm T fun t => wnd l (pix t r) * wnd m (pix t r)) = wnd m (pti l 0) * area2 l + wnd l (pti m 0) * area2 m := by
  have e1 : 2 * sm R (fun r => sm T fun t => wnd l (pix t r) * wnd m (pix t r)) = wnd m (pti l 0) * (2 * sm R fun r => sm T fun t => wnd l (pix t r)) + wnd l (pti m 0) * (2 * sm R fun r => sm T fun t => wnd m (pix t r)) := by
    rw [← sm_mul, ← sm_mul, ← sm_mul, ← sm_mul, ← sm_mul, ← sm_add]
    refine sm_congr fun r _ => ?_
    have a1 := row_mul hl hm ha (2 * (r : Int) + 1) (by omega)
    rw [← row_sum hl (2 * (r : Int) + 1) (by omega), ← row_sum hm (2 * (r : Int) + 1) (by omega)] at a1
    exact a1
  have p1 := pix_sum hl
  have p2 := pix_sum hm
  rw [← p1, ← p2]
  grind
/-! a simple contour goes round each pixel once or not at all -/
theorem hit_on {a b c d r : Pnt} (h1 : On a b r) (h2 : On c d r) : Hit a b c d := by
  obtain ⟨p, s, p1, p2, p3, p4, p5⟩ := h1
  obtain ⟨q, u, q1, q2, q3, q4, q5⟩ := h2
  refine ⟨p, s, q, u, p1, p2, p3, q1, q2, q3, ?_, ?_⟩
  · rw [← p4, ← q4]; grind
  · rw [← p5, ← q5]; grind
theorem adj_inner {a u c r : Pnt} (hne : a.y ≠ u.y) (hne2 : u.y ≠ c.y) (h1 : ¬ onZ a u c) (h2 : ¬ onZ c a u) (hr : OnIn a u r) (hr2 : OnIn u c r) : False := by
  refine adj_nohit (z := c) (a := u) (u := a) (p := r) (Ne.symm hne) (fun g => h2 (onZ_flip g)) (fun g => h1 (onZ_flip g)) hr.flip ?_
  obtain ⟨q, v, q1, q2, q4, q5⟩ := hr2
  exact ⟨q, q - v, 1, 0, by omega, by omega, by omega, by omega, by omega, by omega, by grind, by grind⟩
theorem xi_ne {T R : Nat} {l : List Pnt} (h : Smp l) (hg : Grid T R l) {i j : Nat} (hi : i < l.length) (hj : j < l.length) (hij : i ≠ j) {Y : Int} (c1 : cr (pti l i) (nxt l i) Y ≠ 0) (c2 : cr (pti l j) (nxt l j) Y ≠ 0) : xi (pti l i) (nxt l i) Y ≠ xi (pti l j) (nxt l j) Y := fun e => by
  have r1 := xi_in (hg.e i hi) c1
  have r2 := xi_in (hg.e j hj) c2
  rw [← e] at r2
  have hn := h.n
  have adj : ∀ {i j : Nat} {r : Pnt}, i < l.length → (i + 1) % l.length = j → OnIn (pti l i) (nxt l i) r → OnIn (pti l j) (nxt l j) r → False := fun {i j r} hi e r1 r2 => by
    subst e
    have hz := h.adj i hi
    exact adj_inner (h.gen i _ hi (nxt_ok hi) (Ne.symm (mod_ne (by omega) hi))) (h.gen _ _ (nxt_ok hi) (nxt_ok (nxt_ok hi)) (Ne.symm (mod_ne (by omega) (nxt_ok hi)))) hz.1 hz.2 r1 r2
  by_cases a1 : (i + 1) % l.length = j
  · exact adj hi a1 r1 r2
  by_cases a2 : (j + 1) % l.length = i
  · exact adj hj a2 r2 r1
  exact h.far i j hi hj hij a1 a2 (hit_on r1.on r2.on)

theorem cr_up {a b : Pnt} {Y : Int} (h : cr a b Y ≠ 0) : (cr a b Y = 1 ∧ up a b = 1) ∨ (cr a b Y = -1 ∧ up a b = 0) := by
  unfold cr up at *
  by_cases h1 : a.y < Y ∧ Y < b.y
  · rw [if_pos h1, if_pos (by omega)]; exact .inl ⟨rfl, rfl⟩
  · rw [if_neg h1] at h ⊢
    by_cases h2 : b.y < Y ∧ Y < a.y
    · rw [if_pos h2, if_neg (by omega)]; exact .inr ⟨rfl, rfl⟩
    · rw [if_neg h2] at h; exact absurd rfl h
theorem edge_inner {a b : Pnt} (h : Edge a b) : ∃ Y : Int, Y % 2 = 1 ∧ cr a b Y ≠ 0 := by
  have h1 := h.ne
  have h2 := h.ay
  have h3 := h.bY
  rcases Int.lt_or_le a.y b.y with g | g
  · exact ⟨a.y + 1, by omega, by unfold cr; rw [if_pos (by omega)]; decide⟩
  · exact ⟨b.y + 1, by omega, by unfold cr; rw [if_neg (by omega), if_pos (by omega)]; decide⟩
/-- one step to the left -/
theorem row_step {T R : Nat} {l : List Pnt} (h : Smp l) (hg : Grid T R l) (X Y : Int) (hY : Y % 2 = 1) :
    wnd l ⟨X, Y⟩ = wnd l ⟨X + 1, Y⟩ ∨ ∃ f, f < l.length ∧ cr (pti l f) (nxt l f) Y ≠ 0 ∧ xi (pti l f) (nxt l f) Y = X + 1 ∧ wnd l ⟨X, Y⟩ = wnd l ⟨X + 1, Y⟩ + cr (pti l f) (nxt l f) Y := by
  have hd : ∀ f : Nat, f < l.length → (∀ i, i < l.length → i ≠ f → cr (pti l i) (nxt l i) Y = 0 ∨ xi (pti l i) (nxt l i) Y ≠ X + 1) → wnd l ⟨X, Y⟩ - wnd l ⟨X + 1, Y⟩ = cr (pti l f) (nxt l f) Y * b01 (xi (pti l f) (nxt l f) Y = X + 1) := fun f hf ho => by
    rw [wnd_row hg X Y hY, wnd_row hg (X + 1) Y hY, ← sm_sub, sm_but hf, sm_congr (g := fun _ => 0) fun i hi => by
      by_cases e : i = f
      · rw [if_pos e]
      · rw [if_neg e]
        rcases ho i hi e with g | g
        · rw [g]; simp
        · have : b01 (X < xi (pti l i) (nxt l i) Y) = b01 (X + 1 < xi (pti l i) (nxt l i) Y) := b01_iff (by omega)
          rw [this]; omega, sm_zero]
    unfold b01
    by_cases g : xi (pti l f) (nxt l f) Y = X + 1
    · rw [if_pos (by omega), if_neg (by omega), if_pos g]; omega
    · rw [if_neg g]
      by_cases k : X + 1 < xi (pti l f) (nxt l f) Y
      · rw [if_pos (by omega), if_pos k]; omega
      · rw [if_neg (by omega), if_neg k]; omega
  by_cases hex : ∃ f, f < l.length ∧ cr (pti l f) (nxt l f) Y ≠ 0 ∧ xi (pti l f) (nxt l f) Y = X + 1
  · obtain ⟨f, f1, f2, f3⟩ := hex
    refine .inr ⟨f, f1, f2, f3, ?_⟩
    have := hd f f1 fun i hi hne => by
      by_cases c : cr (pti l i) (nxt l i) Y = 0
      · exact .inl c
      · exact .inr fun e => xi_ne h hg hi f1 hne c f2 (by omega)
    unfold b01 at this
    rw [if_pos f3] at this
    omega
  · refine .inl ?_
    have hn := h.n
    have := hd 0 (by omega) fun i hi _ => by
      by_cases c : cr (pti l i) (nxt l i) Y = 0
      · exact .inl c
      · exact .inr fun e => hex ⟨i, hi, c, e⟩
    by_cases c : cr (pti l 0) (nxt l 0) Y = 0
    · rw [c] at this; omega
    · unfold b01 at this
      rw [if_neg (fun e => hex ⟨0, by omega, c, e⟩)] at this; omega
theorem wnd_right {T R : Nat} {l : List Pnt} (hg : Grid T R l) {X Y : Int} (hY : Y % 2 = 1) (h : ∀ i, i < l.length → cr (pti l i) (nxt l i) Y ≠ 0 → xi (pti l i) (nxt l i) Y ≤ X) : wnd l ⟨X, Y⟩ = 0 := by
  rw [wnd_row hg X Y hY, sm_congr (g := fun _ => 0) fun i hi => by
    by_cases c : cr (pti l i) (nxt l i) Y = 0
    · rw [c]; simp
    · unfold b01; rw [if_neg (by have := h i hi c; omega)]; simp, sm_zero]
theorem wnd_range {T R : Nat} {l : List Pnt} (h : Smp l) (hg : Grid T R l) : (∀ X Y : Int, Y % 2 = 1 → wnd l ⟨X, Y⟩ = 0 ∨ wnd l ⟨X, Y⟩ = 1) ∨ (∀ X Y : Int, Y % 2 = 1 → wnd l ⟨X, Y⟩ = 0 ∨ wnd l ⟨X, Y⟩ = -1) := by
  have hn := h.n
  obtain ⟨L, hL⟩ := left_all h fun i hi => by
    obtain ⟨Y, _, hc⟩ := edge_inner (hg.e i hi)
    exact ⟨_, xi_in (hg.e i hi) hc⟩
  have far : ∀ Y : Int, ∀ i, i < l.length → cr (pti l i) (nxt l i) Y ≠ 0 → xi (pti l i) (nxt l i) Y ≤ 2 * T := fun Y i hi hc => (hg.xi0 hi hc).2
  have pt : ∀ {f : Nat} {X Y : Int}, f < l.length → cr (pti l f) (nxt l f) Y ≠ 0 → xi (pti l f) (nxt l f) Y = X + 1 → wnd l ⟨X + 1, Y⟩ + up (pti l f) (nxt l f) = L := fun {f X Y} hf hc e => by
    have := hL f hf _ (xi_in (hg.e f hf) hc)
    rw [e] at this; exact this
  have vals : ∀ Y : Int, Y % 2 = 1 → ∀ k : Nat, wnd l ⟨2 * T - k, Y⟩ = 0 ∨ wnd l ⟨2 * T - k, Y⟩ = L ∨ wnd l ⟨2 * T - k, Y⟩ = L - 1 := fun Y hY k => by
    induction k with
    | zero => exact .inl (wnd_right hg hY fun i hi hc => by have := far Y i hi hc; omega)
    | succ k ih =>
      have e : (2 * (T : Int) - ((k + 1 : Nat) : Int)) + 1 = 2 * T - k := by omega
      rcases row_step h hg (2 * (T : Int) - ((k + 1 : Nat) : Int)) Y hY with g | ⟨f, f1, f2, f3, f4⟩
      · rw [g, e]; exact ih
      · have := pt f1 f2 f3
        rcases cr_up f2 with ⟨c1, c2⟩ | ⟨c1, c2⟩
        · rw [c1] at f4; rw [c2] at this; omega
        · rw [c1] at f4; rw [c2] at this; omega
  have all : ∀ X Y : Int, Y % 2 = 1 → wnd l ⟨X, Y⟩ = 0 ∨ wnd l ⟨X, Y⟩ = L ∨ wnd l ⟨X, Y⟩ = L - 1 := fun X Y hY => by
    by_cases g : 2 * (T : Int) ≤ X
    · exact .inl (wnd_right hg hY fun i hi hc => by have := far Y i hi hc; omega)
    · have := vals Y hY (2 * (T : Int) - X).toNat
      rwa [show 2 * (T : Int) - (((2 * (T : Int) - X).toNat : Nat) : Int) = X by omega] at this
  obtain ⟨Y, hY, hc⟩ := edge_inner (hg.e 0 (by omega))
  have L01 : ∀ k : Nat, (∀ i, i < l.length → cr (pti l i) (nxt l i) Y ≠ 0 → xi (pti l i) (nxt l i) Y ≤ 2 * T - k) ∨ L = 0 ∨ L = 1 := fun k => by
    induction k with
    | zero => exact .inl fun i hi hc => by have := far Y i hi hc; omega
    | succ k ih =>
      rcases ih with g | g
      · by_cases hex : ∃ f, f < l.length ∧ cr (pti l f) (nxt l f) Y ≠ 0 ∧ xi (pti l f) (nxt l f) Y = 2 * T - k
        · obtain ⟨f, f1, f2, f3⟩ := hex
          have z := wnd_right hg (X := 2 * T - k) hY g
          have := pt (X := 2 * T - k - 1) f1 f2 (by omega)
          rw [show 2 * (T : Int) - k - 1 + 1 = 2 * T - k by omega, z] at this
          rcases cr_up f2 with ⟨c1, c2⟩ | ⟨c1, c2⟩ <;> rw [c2] at this
          · exact .inr (.inr (by omega))
          · exact .inr (.inl (by omega))
        · refine .inl fun i hi hc => ?_
          have a := g i hi hc
          have b : xi (pti l i) (nxt l i) Y ≠ 2 * T - k := fun e => hex ⟨i, hi, hc, e⟩
          omega
      · exact .inr g
  have hL2 : L = 0 ∨ L = 1 := by
    rcases L01 (2 * T + 1) with g | g
    · have a := g 0 (by omega) hc
      have b := (hg.xi0 (show 0 < l.length by omega) hc).1
      omega
    · exact g
  rcases hL2 with e | e
  · exact .inr fun X Y hY => by have := all X Y hY; omega
  · exact .inl fun X Y hY => by have := all X Y hY; omega
/-- by the sign of its area -/
theorem wnd_pos {T R : Nat} {l : List Pnt} (h : Smp l) (hg : Grid T R l) (ha : 0 < area2 l) (t r : Nat) : wnd l (pix t r) = 0 ∨ wnd l (pix t r) = 1 := by
  rcases wnd_range h hg with g | g
  · exact g _ _ (by omega)
  · exfalso
    have e := pix_sum hg
    have : sm R (fun r => sm T fun t => wnd l (pix t r)) ≤ sm R fun _ => 0 := sm_le fun r _ => by
      have : sm T (fun t => wnd l (pix t r)) ≤ sm T fun _ => 0 := sm_le fun t _ => by
        have := g (2 * (t : Int) + 1) (2 * (r : Int) + 1) (by omega)
        unfold pix; omega
      rwa [sm_zero] at this
    rw [sm_zero] at this
    omega
theorem wnd_neg {T R : Nat} {l : List Pnt} (h : Smp l) (hg : Grid T R l) (ha : area2 l < 0) (t r : Nat) : wnd l (pix t r) = 0 ∨ wnd l (pix t r) = -1 := by
  rcases wnd_range h hg with g | g
  · exfalso
    have e := pix_sum hg
    have : 0 ≤ sm R (fun r => sm T fun t => wnd l (pix t r)) := sm_nonneg fun r _ => sm_nonneg fun t _ => by
      have := g (2 * (t : Int) + 1) (2 * (r : Int) + 1) (by omega)
      unfold pix; omega
    omega
  · exact g _ _ (by omega)

/-! shapes: an outer contour and its holes -/
/-- eight times the sum over all pixels -/
def PS (T R : Nat) (f : Pnt → Int) : Int := 8 * sm R fun r => sm T fun t => f (pix t r)
theorem PS_add (T R : Nat) (f g : Pnt → Int) : PS T R (fun q => f q + g q) = PS T R f + PS T R g := by
  unfold PS
  rw [sm_congr fun r _ => sm_add _ _ T, sm_add]; omega
theorem PS_sub (T R : Nat) (f g : Pnt → Int) : PS T R (fun q => f q - g q) = PS T R f - PS T R g := by
  unfold PS
  rw [sm_congr fun r _ => sm_sub _ _ T, sm_sub]; omega
theorem PS_zero (T R : Nat) : PS T R (fun _ => 0) = 0 := by
  unfold PS
  rw [sm_congr (g := fun _ => 0) fun r _ => sm_zero T, sm_zero]; rfl
theorem PS_congr {T R : Nat} {f g : Pnt → Int} (h : ∀ t r : Nat, t < T → r < R → f (pix t r) = g (pix t r)) : PS T R f = PS T R g := by
  unfold PS
  rw [sm_congr fun r hr => sm_congr fun t ht => h t r ht hr]
theorem PS_le {T R : Nat} {f g : Pnt → Int} (h : ∀ t r : Nat, t < T → r < R → f (pix t r) ≤ g (pix t r)) : PS T R f ≤ PS T R g := by
  unfold PS
  have := sm_le (n := R) fun r hr => sm_le (n := T) fun t ht => h t r ht hr
  omega
theorem sm_zero_all {f : Nat → Int} : ∀ {n : Nat}, (∀ i, i < n → 0 ≤ f i) → sm n f = 0 → ∀ i, i < n → f i = 0
  | 0, _, _, i, hi => by omega
  | n + 1, h, e, i, hi => by
    rw [sm_succ] at e
    have a := sm_nonneg (n := n) fun i hi => h i (by omega)
    have b := h n (by omega)
    by_cases g : i = n
    · subst g; omega
    · exact sm_zero_all (n := n) (fun i hi => h i (by omega)) (by omega) i (by omega)
theorem PS_zero_all {T R : Nat} {f : Pnt → Int} (h : ∀ t r : Nat, t < T → r < R → 0 ≤ f (pix t r)) (e : PS T R f = 0) : ∀ t r : Nat, t < T → r < R → f (pix t r) = 0 := fun t r ht hr => by
  unfold PS at e
  have a := sm_zero_all (n := R) (fun r hr => sm_nonneg (n := T) fun t ht => h t r ht hr) (by omega) r hr
  exact sm_zero_all (fun t ht => h t r ht hr) a t ht
theorem PS_wnd {T R : Nat} {l : List Pnt} (h : Grid T R l) : PS T R (wnd l) = area2 l := pix_sum h
theorem PS_mul {T R : Nat} {l m : List Pnt} (hl : Grid T R l) (hm : Grid T R m) (ha : Apart l m) : PS T R (fun q => wnd l q * wnd m q) = wnd m (pti l 0) * area2 l + wnd l (pti m 0) * area2 m := pix_mul hl hm ha
/-- at a corner of the one, the other goes round as at some pixel -/
theorem corner_pix {T R : Nat} {m : List Pnt} (hm : Grid T R m) (hn : 0 < m.length) : ∃ t r : Nat, t ≤ T ∧ r < R ∧ ∀ l, Grid T R l → Apart l m → wnd l (pti m 0) = wnd l (pix t r) := by
  obtain ⟨Y, hY, hc⟩ := edge_inner (hm.e 0 hn)
  have b := hm.xi0 hn hc
  have ev := xi_even (hm.e 0 hn) Y
  have hin := xi_in (hm.e 0 hn) hc
  have y0 := hm.y0 0 hn
  have y1 : 0 ≤ (nxt m 0).y ∧ (nxt m 0).y ≤ 2 * R := hm.y0 _ (nxt_ok hn)
  have hYR : 0 < Y ∧ Y < 2 * R := by
    unfold cr at hc
    by_cases h1 : (pti m 0).y < Y ∧ Y < (nxt m 0).y
    · omega
    · rw [if_neg h1] at hc
      by_cases h2 : (nxt m 0).y < Y ∧ Y < (pti m 0).y
      · omega
      · rw [if_neg h2] at hc; exact absurd rfl hc
  refine ⟨(xi (pti m 0) (nxt m 0) Y / 2).toNat, (Y / 2).toNat, by omega, by omega, fun l hl ha => ?_⟩
  rw [← wnd_on ha hn hin.on, wnd_row hl _ Y hY]
  have e1 : pix (xi (pti m 0) (nxt m 0) Y / 2).toNat (Y / 2).toNat = ⟨xi (pti m 0) (nxt m 0) Y + 1, Y⟩ := by
    unfold pix
    congr 1 <;> omega
  rw [e1, wnd_row hl _ Y hY]
  refine sm_congr fun i hi => ?_
  have ei := xi_even (hl.e i hi) Y
  rw [b01_iff (q := xi (pti m 0) (nxt m 0) Y + 1 < xi (pti l i) (nxt l i) Y) (by omega)]
def sumW : List (List Pnt) → Pnt → Int
  | [], _ => 0
  | c :: cs, q => wnd c q + sumW cs q
def sumA : List (List Pnt) → Int
  | [] => 0
  | c :: cs => area2 c + sumA cs
/-- the corners of the first ones, seen from the second ones -/
def seen : List (List Pnt) → List (List Pnt) → Int
  | [], _ => 0
  | c :: cs, ds => area2 c * sumW ds (pti c 0) + seen cs ds
theorem PS_sumW {T R : Nat} : ∀ {cs : List (List Pnt)}, (∀ c ∈ cs, Grid T R c) → PS T R (sumW cs) = sumA cs
  | [], _ => PS_zero T R
  | c :: cs, h => by
    show PS T R (fun q => wnd c q + sumW cs q) = area2 c + sumA cs
    rw [PS_add, PS_wnd (h c (by simp)), PS_sumW fun d hd => h d (by simp [hd])]
theorem PS_one {T R : Nat} {c : List Pnt} (hc : Grid T R c) : ∀ {ds : List (List Pnt)}, (∀ d ∈ ds, Grid T R d) → (∀ d ∈ ds, Apart c d) → PS T R (fun q => wnd c q * sumW ds q) = area2 c * sumW ds (pti c 0) + seen ds [c]
  | [], _, _ => by
    rw [PS_congr (g := fun _ => 0) fun t r _ _ => by simp [sumW], PS_zero]
    simp [sumW, seen]
  | d :: ds, h, ha => by
    rw [PS_congr (g := fun q => wnd c q * wnd d q + wnd c q * sumW ds q) fun t r _ _ => by
      show wnd c _ * (wnd d _ + sumW ds _) = _
      rw [Int.mul_add], PS_add, PS_mul hc (h d (by simp)) (ha d (by simp)), PS_one hc (fun e he => h e (by simp [he])) fun e he => ha e (by simp [he])]
    show _ = area2 c * (wnd d (pti c 0) + sumW ds (pti c 0)) + (area2 d * (wnd c (pti d 0) + 0) + seen ds [c])
    grind
theorem seen_add (c : List Pnt) (cs : List (List Pnt)) : ∀ ds, seen ds (c :: cs) = seen ds [c] + seen ds cs
  | [] => rfl
  | d :: ds => by
    show area2 d * (wnd c (pti d 0) + sumW cs (pti d 0)) + seen ds (c :: cs) = area2 d * (wnd c (pti d 0) + 0) + seen ds [c] + (area2 d * sumW cs (pti d 0) + seen ds cs)
    rw [seen_add c cs ds]; grind
theorem PS_two {T R : Nat} {ds : List (List Pnt)} (hd : ∀ d ∈ ds, Grid T R d) : ∀ {cs : List (List Pnt)}, (∀ c ∈ cs, Grid T R c) → (∀ c ∈ cs, ∀ d ∈ ds, Apart c d) → PS T R (fun q => sumW cs q * sumW ds q) = seen cs ds + seen ds cs
  | [], _, _ => by
    rw [PS_congr (g := fun _ => 0) fun t r _ _ => by simp [sumW], PS_zero]
    have : ∀ ds, seen ds [] = 0 := fun ds => by
      induction ds with
      | nil => rfl
      | cons d ds ih => simp [seen, sumW, ih]
    rw [this]; rfl
  | c :: cs, h, ha => by
    rw [PS_congr (g := fun q => wnd c q * sumW ds q + sumW cs q * sumW ds q) fun t r _ _ => by
      show (wnd c _ + sumW cs _) * sumW ds _ = _
      rw [Int.add_mul], PS_add, PS_one (h c (by simp)) hd (fun d hd => ha c (by simp) d hd), PS_two hd (fun e he => h e (by simp [he])) fun e he => ha e (by simp [he]), seen_add c cs ds]
    show _ = area2 c * sumW ds (pti c 0) + seen cs ds + _
    omega
/-- a shape: what is known of its contours -/
structure Shp (T R : Nat) (o : List Pnt) (hl : List (List Pnt)) : Prop where
  og : Grid T R o
  os : Smp o
  oa : 0 < area2 o
  hg : ∀ h ∈ hl, Grid T R h
  hs : ∀ h ∈ hl, Smp h
  ha : ∀ h ∈ hl, area2 h < 0
  ap : ∀ h ∈ hl, Apart o h
  ins : ∀ h ∈ hl, wnd o (pti h 0) = 1
  two : hl.Pairwise fun h k => Apart h k ∧ wnd h (pti k 0) = 0 ∧ wnd k (pti h 0) = 0
theorem Shp.grid {T R : Nat} {o : List Pnt} {hl : List (List Pnt)} (s : Shp T R o hl) : ∀ c ∈ o :: hl, Grid T R c := fun c hc => by
  rcases List.mem_cons.1 hc with e | e
  · subst e; exact s.og
  · exact s.hg c e
/-- one contour within another one, both going the same way round or not -/
theorem hole_in {T R : Nat} {o h : List Pnt} (og : Grid T R o) (os : Smp o) (oa : 0 < area2 o) (hg : Grid T R h) (hs : Smp h) (ha : area2 h < 0) (ap : Apart o h) (ins : wnd o (pti h 0) = 1) (t r : Nat) (ht : t < T) (hr : r < R) : wnd h (pix t r) = -1 → wnd o (pix t r) = 1 := by
  have hn : 0 < o.length := by have := os.n; omega
  obtain ⟨t0, r0, _, _, hz⟩ := corner_pix og hn
  have z := hz h hg ap.sym
  have zr := wnd_neg hs hg ha t0 r0
  have e1 := PS_mul hg og ap.sym
  rw [ins] at e1
  have e2 := PS_wnd hg
  have le : PS T R (fun q => wnd h q) ≤ PS T R (fun q => wnd h q * wnd o q) := PS_le fun t r _ _ => by
    rcases wnd_neg hs hg ha t r with a | a <;> rcases wnd_pos os og oa t r with b | b <;> rw [a, b] <;> decide
  have e2' : PS T R (fun q => wnd h q) = area2 h := e2
  have z0 : wnd h (pti o 0) = 0 := by
    rcases zr with g | g
    · rw [z, g]
    · rw [z, g] at e1; omega
  rw [z0] at e1
  have e3 : PS T R (fun q => wnd h q * wnd o q - wnd h q) = 0 := by rw [PS_sub, e1, e2']; omega
  have e4 := PS_zero_all (fun t r _ _ => by
    rcases wnd_neg hs hg ha t r with a | a <;> rcases wnd_pos os og oa t r with b | b <;> rw [a, b] <;> decide) e3 t r ht hr
  intro hm
  rcases wnd_pos os og oa t r with b | b
  · rw [hm, b] at e4; omega
  · exact b
theorem out_in {T R : Nat} {p o : List Pnt} (pg : Grid T R p) (ps : Smp p) (pa : 0 < area2 p) (og : Grid T R o) (os : Smp o) (oa : 0 < area2 o) (ap : Apart p o) (ins : wnd p (pti o 0) = 1) (t r : Nat) (ht : t < T) (hr : r < R) : wnd o (pix t r) = 1 → wnd p (pix t r) = 1 := by
  have hn : 0 < p.length := by have := ps.n; omega
  obtain ⟨t0, r0, _, _, hz⟩ := corner_pix pg hn
  have z := hz o og ap.sym
  have zr := wnd_pos os og oa t0 r0
  have e1 := PS_mul og pg ap.sym
  rw [ins] at e1
  have e2' : PS T R (fun q => wnd o q) = area2 o := PS_wnd og
  have le : PS T R (fun q => wnd o q * wnd p q) ≤ PS T R (fun q => wnd o q) := PS_le fun t r _ _ => by
    rcases wnd_pos os og oa t r with a | a <;> rcases wnd_pos ps pg pa t r with b | b <;> rw [a, b] <;> decide
  have z0 : wnd o (pti p 0) = 0 := by
    rcases zr with g | g
    · rw [z, g]
    · rw [z, g] at e1; omega
  rw [z0] at e1
  have e3 : PS T R (fun q => wnd o q - wnd o q * wnd p q) = 0 := by rw [PS_sub, e1, e2']; omega
  have e4 := PS_zero_all (fun t r _ _ => by
    rcases wnd_pos os og oa t r with a | a <;> rcases wnd_pos ps pg pa t r with b | b <;> rw [a, b] <;> decide) e3 t r ht hr
  intro hm
  rcases wnd_pos ps pg pa t r with b | b
  · rw [hm, b] at e4; omega
  · exact b
theorem holes_two {T R : Nat} {h k : List Pnt} (hg : Grid T R h) (hs : Smp h) (ha : area2 h < 0) (kg : Grid T R k) (ks : Smp k) (ka : area2 k < 0) (ap : Apart h k) (z1 : wnd h (pti k 0) = 0) (z2 : wnd k (pti h 0) = 0) (t r : Nat) (ht : t < T) (hr : r < R) : wnd h (pix t r) = 0 ∨ wnd k (pix t r) = 0 := by
  have e1 := PS_mul hg kg ap
  rw [z1, z2] at e1
  have e4 := PS_zero_all (fun t r _ _ => by
    rcases wnd_neg hs hg ha t r with a | a <;> rcases wnd_neg ks kg ka t r with b | b <;> rw [a, b] <;> decide) (e1.trans (by omega)) t r ht hr
  exact Int.mul_eq_zero.1 e4

/-! several shapes on one plate -/
theorem Grid.mono {T R T' R' : Nat} {l : List Pnt} (h : Grid T R l) (h1 : T ≤ T') (h2 : R ≤ R') : Grid T' R' l := ⟨h.e, fun k hk => by have := h.x0 k hk; omega, fun k hk => by have := h.y0 k hk; omega⟩
theorem Shp.mono {T R T' R' : Nat} {o : List Pnt} {hl : List (List Pnt)} (s : Shp T R o hl) (h1 : T ≤ T') (h2 : R ≤ R') : Shp T' R' o hl :=
  ⟨s.og.mono h1 h2, s.os, s.oa, fun h hh => (s.hg h hh).mono h1 h2, s.hs, s.ha, s.ap, s.ins, s.two⟩
theorem sumW_zero (q : Pnt) : ∀ hl : List (List Pnt), (∀ h ∈ hl, wnd h q = 0) → sumW hl q = 0
  | [], _ => rfl
  | h :: hl, z => by
    show wnd h q + sumW hl q = 0
    rw [z h (by simp), sumW_zero q hl fun k hk => z k (by simp [hk])]; rfl
/-- holes of which no two hold one point -/
theorem sumW_holes (q : Pnt) : ∀ hl : List (List Pnt), (∀ h ∈ hl, wnd h q = 0 ∨ wnd h q = -1) → hl.Pairwise (fun h k => wnd h q = 0 ∨ wnd k q = 0) → (sumW hl q = 0 ∧ ∀ h ∈ hl, wnd h q = 0) ∨ (sumW hl q = -1 ∧ ∃ h ∈ hl, wnd h q = -1)
  | [], _, _ => Or.inl ⟨rfl, by simp⟩
  | h :: hl, z, p => by
    rw [List.pairwise_cons] at p
    rcases z h (by simp) with e | e
    · rcases sumW_holes q hl (fun k hk => z k (by simp [hk])) p.2 with ⟨i1, i2⟩ | ⟨i1, k, hk, i2⟩
      · refine Or.inl ⟨?_, ?_⟩
        · show wnd h q + sumW hl q = 0
          omega
        · intro k hk
          rcases List.mem_cons.1 hk with g | g
          · subst g; exact e
          · exact i2 k g
      · refine Or.inr ⟨?_, k, by simp [hk], i2⟩
        show wnd h q + sumW hl q = -1
        omega
    · have zz := sumW_zero q hl fun k hk => by
        rcases p.1 k hk with g | g
        · omega
        · exact g
      refine Or.inr ⟨?_, h, by simp, e⟩
      show wnd h q + sumW hl q = -1
      omega
theorem Shp.val {T R : Nat} {o : List Pnt} {hl : List (List Pnt)} (s : Shp T R o hl) {t r : Nat} (ht : t < T) (hr : r < R) : (sumW (o :: hl) (pix t r) = 0 ∧ (wnd o (pix t r) = 0 ∨ ∃ h ∈ hl, wnd h (pix t r) = -1)) ∨ (sumW (o :: hl) (pix t r) = 1 ∧ wnd o (pix t r) = 1 ∧ ∀ h ∈ hl, wnd h (pix t r) = 0) := by
  have hz := sumW_holes (pix t r) hl (fun h hh => wnd_neg (s.hs h hh) (s.hg h hh) (s.ha h hh) t r) (s.two.imp_of_mem fun {h k} hh hk e => holes_two (s.hg h hh) (s.hs h hh) (s.ha h hh) (s.hg k hk) (s.hs k hk) (s.ha k hk) e.1 e.2.1 e.2.2 t r ht hr)
  have ho := wnd_pos s.os s.og s.oa t r
  rcases hz with ⟨i1, i2⟩ | ⟨i1, k, hk, i2⟩
  · rcases ho with e | e
    · refine Or.inl ⟨?_, Or.inl e⟩
      show wnd o _ + sumW hl _ = 0
      omega
    · refine Or.inr ⟨?_, e, i2⟩
      show wnd o _ + sumW hl _ = 1
      omega
  · have e := hole_in s.og s.os s.oa (s.hg k hk) (s.hs k hk) (s.ha k hk) (s.ap k hk) (s.ins k hk) t r ht hr i2
    refine Or.inl ⟨?_, Or.inr ⟨k, hk, i2⟩⟩
    show wnd o _ + sumW hl _ = 0
    omega
/-- at a corner of a contour off the shape -/
theorem Shp.corner {T R : Nat} {o : List Pnt} {hl : List (List Pnt)} (s : Shp T R o hl) {m : List Pnt} (hm : Grid T R m) (hn : 0 < m.length) (ha : ∀ c ∈ o :: hl, Apart c m) : (sumW (o :: hl) (pti m 0) = 0 ∧ (wnd o (pti m 0) = 0 ∨ ∃ h ∈ hl, wnd h (pti m 0) = -1)) ∨ (sumW (o :: hl) (pti m 0) = 1 ∧ wnd o (pti m 0) = 1 ∧ ∀ h ∈ hl, wnd h (pti m 0) = 0) := by
  obtain ⟨t, r, ht, hr, hz⟩ := corner_pix hm hn
  have e : ∀ c ∈ o :: hl, wnd c (pti m 0) = wnd c (pix t r) := fun c hc => hz c (s.grid c hc) (ha c hc)
  have es : ∀ cs : List (List Pnt), (∀ c ∈ cs, c ∈ o :: hl) → sumW cs (pti m 0) = sumW cs (pix t r) := fun cs => by
    induction cs with
    | nil => intro _; rfl
    | cons c cs ih =>
      intro h
      show wnd c _ + sumW cs _ = wnd c _ + sumW cs _
      rw [e c (h c (by simp)), ih fun d hd => h d (by simp [hd])]
  have v := (s.mono (T' := T + 1) (R' := R) (by omega) (by omega)).val (t := t) (r := r) (by omega) hr
  rw [es (o :: hl) (fun c hc => hc), e o (by simp)]
  rcases v with ⟨v1, v2 | ⟨k, hk, v2⟩⟩ | ⟨v1, v2, v3⟩
  · exact Or.inl ⟨v1, Or.inl v2⟩
  · exact Or.inl ⟨v1, Or.inr ⟨k, hk, by rw [e k (by simp [hk])]; exact v2⟩⟩
  · exact Or.inr ⟨v1, v2, fun h hh => by rw [e h (by simp [hh])]; exact v3 h hh⟩
/-- two shapes that are off each other -/
structure Off (o : List Pnt) (hl : List (List Pnt)) (o' : List Pnt) (hl' : List (List Pnt)) : Prop where
  ap : ∀ c ∈ o :: hl, ∀ d ∈ o' :: hl', Apart c d
  z1 : sumW (o' :: hl') (pti o 0) = 0
  z2 : sumW (o :: hl) (pti o' 0) = 0
theorem seen_le (ds : List (List Pnt)) : ∀ cs : List (List Pnt), (∀ c ∈ cs, area2 c < 0) → (∀ c ∈ cs, 0 ≤ sumW ds (pti c 0)) → seen cs ds ≤ 0
  | [], _, _ => Int.le_refl 0
  | c :: cs, h, z => by
    show area2 c * sumW ds (pti c 0) + seen cs ds ≤ 0
    have i := seen_le ds cs (fun d hd => h d (by simp [hd])) fun d hd => z d (by simp [hd])
    have a := h c (by simp)
    have b := z c (by simp)
    have := mul_nn (show 0 ≤ -area2 c by omega) b
    grind
theorem off_zero {T R : Nat} {o : List Pnt} {hl : List (List Pnt)} {o' : List Pnt} {hl' : List (List Pnt)} (s : Shp T R o hl) (s' : Shp T R o' hl') (f : Off o hl o' hl') {t r : Nat} (ht : t < T) (hr : r < R) : sumW (o :: hl) (pix t r) * sumW (o' :: hl') (pix t r) = 0 := by
  have e := PS_two (T := T) (R := R) s'.grid s.grid f.ap
  have ln : ∀ h ∈ hl, 0 < h.length := fun h hh => by have := (s.hs h hh).n; omega
  have ln' : ∀ h ∈ hl', 0 < h.length := fun h hh => by have := (s'.hs h hh).n; omega
  have e1 : seen (o :: hl) (o' :: hl') ≤ 0 := by
    show area2 o * sumW (o' :: hl') (pti o 0) + seen hl (o' :: hl') ≤ 0
    rw [f.z1]
    have := seen_le (o' :: hl') hl s.ha fun c hc => by
      rcases s'.corner (s.hg c hc) (ln c hc) (fun d hd => (f.ap c (by simp [hc]) d hd).sym) with v | v <;> omega
    omega
  have e2 : seen (o' :: hl') (o :: hl) ≤ 0 := by
    show area2 o' * sumW (o :: hl) (pti o' 0) + seen hl' (o :: hl) ≤ 0
    rw [f.z2]
    have := seen_le (o :: hl) hl' s'.ha fun c hc => by
      rcases s.corner (s'.hg c hc) (ln' c hc) (fun d hd => f.ap d hd c (by simp [hc])) with v | v <;> omega
    omega
  have nn : ∀ t r : Nat, t < T → r < R → 0 ≤ sumW (o :: hl) (pix t r) * sumW (o' :: hl') (pix t r) := fun t r ht hr => by
    refine mul_nn ?_ ?_
    · rcases s.val ht hr with v | v <;> omega
    · rcases s'.val ht hr with v | v <;> omega
  have e0 : PS T R (fun q => sumW (o :: hl) q * sumW (o' :: hl') q) = 0 := by
    have := PS_le (T := T) (R := R) (f := fun _ => 0) (g := fun q => sumW (o :: hl) q * sumW (o' :: hl') q) nn
    rw [PS_zero] at this
    omega
  exact PS_zero_all nn e0 t r ht hr
def sumS : List (List Pnt × List (List Pnt)) → Pnt → Int
  | [], _ => 0
  | s :: l, q => sumW (s.1 :: s.2) q + sumS l q
def sumB : List (List Pnt × List (List Pnt)) → Int
  | [] => 0
  | s :: l => sumA (s.1 :: s.2) + sumB l
theorem PS_sumS {T R : Nat} : ∀ {l : List (List Pnt × List (List Pnt))}, (∀ s ∈ l, Shp T R s.1 s.2) → PS T R (sumS l) = sumB l
  | [], _ => PS_zero T R
  | s :: l, h => by
    show PS T R (fun q => sumW (s.1 :: s.2) q + sumS l q) = sumA (s.1 :: s.2) + sumB l
    rw [PS_add, PS_sumS fun d hd => h d (by simp [hd])]
    have := PS_sumW (T := T) (R := R) (h s (by simp)).grid
    have e : PS T R (fun q => sumW (s.1 :: s.2) q) = sumA (s.1 :: s.2) := this
    omega
theorem sumS_zero (q : Pnt) : ∀ l : List (List Pnt × List (List Pnt)), (∀ s ∈ l, sumW (s.1 :: s.2) q = 0) → sumS l q = 0
  | [], _ => rfl
  | h :: hl, z => by
    show sumW (h.1 :: h.2) q + sumS hl q = 0
    rw [z h (by simp), sumS_zero q hl fun k hk => z k (by simp [hk])]; rfl
theorem sumS_le {T R : Nat} {p : List Pnt} (pp : Shp T R p []) {t r : Nat} (ht : t < T) (hr : r < R) : ∀ l : List (List Pnt × List (List Pnt)), (∀ s ∈ l, Shp T R s.1 s.2 ∧ Apart p s.1 ∧ wnd p (pti s.1 0) = 1) → l.Pairwise (fun s s' => Off s.1 s.2 s'.1 s'.2) → sumS l (pix t r) ≤ wnd p (pix t r)
  | [], _, _ => by
    show (0 : Int) ≤ _
    rcases wnd_pos pp.os pp.og pp.oa t r with e | e <;> omega
  | s :: l, h, hp => by
    rw [List.pairwise_cons] at hp
    have hs := h s (by simp)
    have i := sumS_le pp ht hr l (fun s' hs' => h s' (by simp [hs'])) hp.2
    show sumW (s.1 :: s.2) _ + sumS l _ ≤ _
    rcases hs.1.val ht hr with v | v
    · omega
    · have e := out_in pp.og pp.os pp.oa hs.1.og hs.1.os hs.1.oa hs.2.1 hs.2.2 t r ht hr v.2.1
      have z := sumS_zero (pix t r) l fun s' hs' => by
        have := off_zero hs.1 (h s' (by simp [hs'])).1 (hp.1 s' hs') ht hr
        rw [v.1, Int.one_mul] at this
        exact this
      omega
/-- what the shapes on a plate take -/
theorem plate_le {T R : Nat} {p : List Pnt} (pp : Shp T R p []) (l : List (List Pnt × List (List Pnt))) (h : ∀ s ∈ l, Shp T R s.1 s.2 ∧ Apart p s.1 ∧ wnd p (pti s.1 0) = 1) (hp : l.Pairwise (fun s s' => Off s.1 s.2 s'.1 s'.2)) : sumB l ≤ area2 p := by
  have e1 := PS_sumS fun s hs => (h s hs).1
  have e2 := PS_wnd pp.og
  have := PS_le (T := T) (R := R) (f := sumS l) (g := wnd p) fun t r ht hr => sumS_le pp ht hr l h hp
  omega

/-! into general position -/
/-- a map of the plane that keeps which points lie between which -/
def aff (al be ga de ep : Int) (p : Pnt) : Pnt := ⟨al * p.x + be, ga * p.y - de * p.x + ep⟩
theorem aff_trn (al be ga de ep : Int) (a b q : Pnt) : trn (aff al be ga de ep a) (aff al be ga de ep b) (aff al be ga de ep q) = al * ga * trn a b q := by
  unfold trn aff; grind
theorem aff_hit {al be ga de ep : Int} (h1 : 0 < al) (h2 : 0 < ga) {a b c d : Pnt} (h : Hit (aff al be ga de ep a) (aff al be ga de ep b) (aff al be ga de ep c) (aff al be ga de ep d)) : Hit a b c d := by
  obtain ⟨m, s, k, t, g1, g2, g3, g4, g5, g6, g7, g8⟩ := h
  have ex : k * ((m - s) * a.x + s * b.x) = m * ((k - t) * c.x + t * d.x) := by
    refine cancelL h1 ?_
    unfold aff at g7
    grind
  refine ⟨m, s, k, t, g1, g2, g3, g4, g5, g6, ex, ?_⟩
  refine cancelL h2 ?_
  unfold aff at g8
  grind
theorem mul_lt_iff {k u v : Int} (hk : 0 < k) : k * u ≤ k * v ↔ u ≤ v := ⟨fun h => Int.le_of_mul_le_mul_left h hk, fun h => Int.mul_le_mul_of_nonneg_left h (Int.le_of_lt hk)⟩
theorem aff_onZ {al be ga de ep : Int} (h1 : 0 < al) (h2 : 0 < ga) {q a b : Pnt} (h : onZ (aff al be ga de ep q) (aff al be ga de ep a) (aff al be ga de ep b)) : onZ q a b := by
  obtain ⟨hz, x1, x2, y1, y2⟩ := h
  rw [aff_trn] at hz
  have z : trn a b q = 0 := by
    rcases Int.mul_eq_zero.1 hz with e | e
    · have := Int.mul_pos h1 h2; omega
    · exact e
  have mx : min a.x b.x ≤ q.x ∧ q.x ≤ max a.x b.x := by
    simp only [aff] at x1 x2
    have c1 := mul_lt_iff h1 (u := a.x) (v := q.x)
    have c2 := mul_lt_iff h1 (u := b.x) (v := q.x)
    have c3 := mul_lt_iff h1 (u := q.x) (v := a.x)
    have c4 := mul_lt_iff h1 (u := q.x) (v := b.x)
    omega
  refine ⟨z, mx.1, mx.2, ?_⟩
  have zz := z
  unfold trn at zz
  rcases Int.lt_trichotomy a.x b.x with g | g | g
  · exact between (m := b.x - a.x) (s := q.x - a.x) (by omega) (by omega) (by omega) (by grind)
  · have e1 : q.x = a.x := by omega
    simp only [aff] at y1 y2
    rw [e1, ← g] at y1 y2
    have c1 := mul_lt_iff h2 (u := a.y) (v := q.y)
    have c2 := mul_lt_iff h2 (u := b.y) (v := q.y)
    have c3 := mul_lt_iff h2 (u := q.y) (v := a.y)
    have c4 := mul_lt_iff h2 (u := q.y) (v := b.y)
    omega
  · exact between (m := a.x - b.x) (s := a.x - q.x) (by omega) (by omega) (by omega) (by grind)
theorem pti_map (g : Pnt → Pnt) (l : List Pnt) {i : Nat} (hi : i < l.length) : pti (l.map g) i = g (pti l i) := by
  unfold pti
  rw [List.getD_eq_getElem?_getD, List.getD_eq_getElem?_getD, List.getElem?_map, List.getElem?_eq_getElem hi]
  rfl
theorem nxt_map (g : Pnt → Pnt) (l : List Pnt) {i : Nat} (hi : i < l.length) : nxt (l.map g) i = g (nxt l i) := by
  unfold nxt
  rw [List.length_map, pti_map g l (nxt_ok hi)]
theorem aff_area (al be ga de ep : Int) (l : List Pnt) : area2 (l.map (aff al be ga de ep)) = al * ga * area2 l := by
  unfold area2
  rw [List.length_map, ← sm_mul]
  have e := tele l (fun p => ep * al * p.x - be * ga * p.y + be * de * p.x)
  have : sm l.length (fun i => (pti (l.map (aff al be ga de ep)) i).x * (nxt (l.map (aff al be ga de ep)) i).y - (pti (l.map (aff al be ga de ep)) i).y * (nxt (l.map (aff al be ga de ep)) i).x) = sm l.length (fun i => al * ga * ((pti l i).x * (nxt l i).y - (pti l i).y * (nxt l i).x) + ((ep * al * (pti l i).x - be * ga * (pti l i).y + be * de * (pti l i).x) - (ep * al * (nxt l i).x - be * ga * (nxt l i).y + be * de * (nxt l i).x))) := sm_congr fun i hi => by
    rw [pti_map _ _ hi, nxt_map _ _ hi]
    unfold aff
    grind
  rw [this, sm_add, e]
  omega
/-- order of heights in general position -/
theorem lex_le {C : Int} {p q : Pnt} (hp : 0 ≤ p.x ∧ p.x ≤ C) (hq : 0 ≤ q.x ∧ q.x ≤ C) (ep : Int) : 2 * (C + 1) * p.y - 2 * p.x + ep ≤ 2 * (C + 1) * q.y - 2 * q.x + ep ↔ p.y < q.y ∨ (p.y = q.y ∧ q.x ≤ p.x) := by
  rcases Int.lt_trichotomy p.y q.y with g | g | g
  · have := mul_nn (show 0 ≤ C + 1 by omega) (show 0 ≤ q.y - p.y - 1 by omega)
    constructor
    · intro _; exact Or.inl g
    · intro _; grind
  · rw [g]
    constructor
    · intro h; exact Or.inr ⟨rfl, by omega⟩
    · intro h; omega
  · have := mul_nn (show 0 ≤ C + 1 by omega) (show 0 ≤ p.y - q.y - 1 by omega)
    constructor
    · intro h; exfalso; grind
    · intro h; omega
theorem kap_gen {C : Int} {a b q : Pnt} {al be ep : Int} (h1 : 0 < al) (ha : 0 ≤ a.x ∧ a.x ≤ C) (hb : 0 ≤ b.x ∧ b.x ≤ C) (hq : 0 ≤ q.x ∧ q.x ≤ C) : kap (aff al be (2 * (C + 1)) 2 ep a) (aff al be (2 * (C + 1)) 2 ep b) (aff al be (2 * (C + 1)) 2 ep q) = kap a b q := by
  unfold kap
  rw [aff_trn]
  have hD : 0 < al * (2 * (C + 1)) := Int.mul_pos h1 (by omega)
  obtain ⟨D, eD⟩ : ∃ D, al * (2 * (C + 1)) = D := ⟨_, rfl⟩
  rw [eD] at hD ⊢
  have s1 : 0 < D * trn a b q ↔ 0 < trn a b q := ⟨fun h => by
    rcases Int.lt_or_le 0 (trn a b q) with g | g
    · exact g
    · have := mul_nn (Int.le_of_lt hD) (show 0 ≤ -trn a b q by omega)
      grind, fun h => Int.mul_pos hD h⟩
  have s2 : D * trn a b q < 0 ↔ trn a b q < 0 := ⟨fun h => neg_of_mul hD h, fun h => by
    have := Int.mul_pos hD (show 0 < -trn a b q by omega)
    grind⟩
  have o1 : (aff al be (2 * (C + 1)) 2 ep a).y ≤ (aff al be (2 * (C + 1)) 2 ep q).y ↔ _ := lex_le ha hq ep
  have o2 : (aff al be (2 * (C + 1)) 2 ep b).y ≤ (aff al be (2 * (C + 1)) 2 ep q).y ↔ _ := lex_le hb hq ep
  have ta : a.y = q.y → trn a b q = (b.y - a.y) * (a.x - q.x) := fun e => by unfold trn; grind
  have tb : b.y = q.y → trn a b q = (b.y - a.y) * (b.x - q.x) := fun e => by unfold trn; grind
  have e1 : ((aff al be (2 * (C + 1)) 2 ep a).y ≤ (aff al be (2 * (C + 1)) 2 ep q).y ∧ (aff al be (2 * (C + 1)) 2 ep q).y < (aff al be (2 * (C + 1)) 2 ep b).y ∧ 0 < D * trn a b q) ↔ (a.y ≤ q.y ∧ q.y < b.y ∧ 0 < trn a b q) := by
    rw [s1, o1, Int.not_le.symm.trans (not_congr o2)]
    constructor
    · rintro ⟨g1, g2, g3⟩
      refine ⟨by omega, ?_, g3⟩
      rcases Int.lt_trichotomy q.y b.y with k | k | k
      · exact k
      · exfalso
        have := mul_nn (show 0 ≤ b.y - a.y by omega) (show 0 ≤ q.x - b.x by omega)
        rw [tb k.symm] at g3
        grind
      · omega
    · rintro ⟨g1, g2, g3⟩
      refine ⟨?_, by omega, g3⟩
      rcases Int.lt_trichotomy a.y q.y with k | k | k
      · exact Or.inl k
      · refine Or.inr ⟨k, ?_⟩
        rcases Int.le_total q.x a.x with j | j
        · exact j
        · exfalso
          have := mul_nn (show 0 ≤ b.y - a.y by omega) (show 0 ≤ q.x - a.x by omega)
          rw [ta k] at g3
          grind
      · omega
  have e2 : ((aff al be (2 * (C + 1)) 2 ep b).y ≤ (aff al be (2 * (C + 1)) 2 ep q).y ∧ (aff al be (2 * (C + 1)) 2 ep q).y < (aff al be (2 * (C + 1)) 2 ep a).y ∧ D * trn a b q < 0) ↔ (b.y ≤ q.y ∧ q.y < a.y ∧ trn a b q < 0) := by
    rw [s2, o2, Int.not_le.symm.trans (not_congr o1)]
    constructor
    · rintro ⟨g1, g2, g3⟩
      refine ⟨by omega, ?_, g3⟩
      rcases Int.lt_trichotomy q.y a.y with k | k | k
      · exact k
      · exfalso
        have := mul_nn (show 0 ≤ a.y - b.y by omega) (show 0 ≤ q.x - a.x by omega)
        rw [ta k.symm] at g3
        grind
      · omega
    · rintro ⟨g1, g2, g3⟩
      refine ⟨?_, by omega, g3⟩
      rcases Int.lt_trichotomy b.y q.y with k | k | k
      · exact Or.inl k
      · refine Or.inr ⟨k, ?_⟩
        rcases Int.le_total q.x b.x with j | j
        · exact j
        · exfalso
          have := mul_nn (show 0 ≤ a.y - b.y by omega) (show 0 ≤ q.x - b.x by omega)
          rw [tb k] at g3
          grind
      · omega
  simp only [e1, e2]
/-- a number that others divide -/
theorem all_divide : ∀ l : List Int, (∀ z ∈ l, z ≠ 0) → ∃ m : Int, 0 < m ∧ ∀ z ∈ l, z ∣ m
  | [], _ => ⟨1, by omega, by simp⟩
  | z :: l, h => by
    obtain ⟨m, m0, hm⟩ := all_divide l fun y hy => h y (by simp [hy])
    have hz := h z (by simp)
    rcases Int.lt_or_gt_of_ne hz with g | g
    · refine ⟨-z * m, Int.mul_pos (by omega) m0, fun y hy => ?_⟩
      rcases List.mem_cons.1 hy with e | e
      · subst e; exact ⟨-m, by grind⟩
      · obtain ⟨k, hk⟩ := hm y e
        exact ⟨-z * k, by rw [hk]; grind⟩
    · refine ⟨z * m, Int.mul_pos g m0, fun y hy => ?_⟩
      rcases List.mem_cons.1 hy with e | e
      · subst e; exact ⟨m, rfl⟩
      · obtain ⟨k, hk⟩ := hm y e
        exact ⟨z * k, by rw [hk]; grind⟩
/-- a contour whose coordinates run from 0 to C, and whose corners are different points -/
structure Box0 (C : Int) (l : List Pnt) : Prop where
  x : ∀ i, i < l.length → 0 ≤ (pti l i).x ∧ (pti l i).x ≤ C
  y : ∀ i, i < l.length → 0 ≤ (pti l i).y ∧ (pti l i).y ≤ C
  dis : ∀ i k, i < l.length → k < l.length → i ≠ k → (pti l i).x ≠ (pti l k).x ∨ (pti l i).y ≠ (pti l k).y
  n : 3 ≤ l.length
def rises (C : Int) (l : List Pnt) : List Int := (List.range l.length).map fun i => 2 * (2 * (C + 1) * ((nxt l i).y - (pti l i).y) - 2 * ((nxt l i).x - (pti l i).x))
theorem rise_ne {C : Int} {p q : Pnt} (hp : 0 ≤ p.x ∧ p.x ≤ C) (hq : 0 ≤ q.x ∧ q.x ≤ C) (hne : p.x ≠ q.x ∨ p.y ≠ q.y) (ep : Int) : 2 * (C + 1) * p.y - 2 * p.x + ep ≠ 2 * (C + 1) * q.y - 2 * q.x + ep := fun e => by
  have h1 := (lex_le hp hq ep).1 (by omega)
  have h2 := (lex_le hq hp ep).1 (by omega)
  omega
theorem general (C : Int) (hC : 0 ≤ C) (cs : List (List Pnt)) (h : ∀ c ∈ cs, Box0 C c) : ∃ (al ep : Int) (T R : Nat), 0 < al ∧ ∀ c ∈ cs, Grid T R (c.map (aff al 0 (2 * (C + 1)) 2 ep)) := by
  obtain ⟨m, m0, hm⟩ := all_divide (cs.flatMap (rises C)) fun z hz => by
    obtain ⟨c, hc, hz⟩ := List.mem_flatMap.1 hz
    obtain ⟨i, hi, rfl⟩ := List.mem_map.1 hz
    have hi := List.mem_range.1 hi
    have b := h c hc
    have := rise_ne (b.x i hi) (b.x _ (nxt_ok hi)) (b.dis i _ hi (nxt_ok hi) (Ne.symm (mod_ne (by have := b.n; omega) hi))) 0
    have e : 2 * (C + 1) * ((nxt c i).y - (pti c i).y) = 2 * (C + 1) * (nxt c i).y - 2 * (C + 1) * (pti c i).y := Int.mul_sub _ _ _
    unfold nxt at e ⊢
    omega
  refine ⟨2 * m, 2 * C, (m * C).toNat, ((C + 1) * C + C).toNat, by omega, fun c hc => ?_⟩
  have b := h c hc
  refine ⟨fun i hi => ?_, fun i hi => ?_, fun i hi => ?_⟩
  · rw [List.length_map] at hi
    rw [pti_map _ _ hi, nxt_map _ _ hi]
    have ne := rise_ne (b.x i hi) (b.x _ (nxt_ok hi)) (b.dis i _ hi (nxt_ok hi) (Ne.symm (mod_ne (by have := b.n; omega) hi))) (2 * C)
    refine ⟨ne, ?_, ?_, ?_, ?_⟩
    · have : (aff (2 * m) 0 (2 * (C + 1)) 2 (2 * C) (pti c i)).y = 2 * ((C + 1) * (pti c i).y - (pti c i).x + C) := by unfold aff; grind
      omega
    · have : (aff (2 * m) 0 (2 * (C + 1)) 2 (2 * C) (nxt c i)).y = 2 * ((C + 1) * (nxt c i).y - (nxt c i).x + C) := by unfold aff; grind
      omega
    · have : (aff (2 * m) 0 (2 * (C + 1)) 2 (2 * C) (pti c i)).x = 2 * (m * (pti c i).x) := by unfold aff; grind
      omega
    · obtain ⟨k, hk⟩ := hm _ (List.mem_flatMap.2 ⟨c, hc, List.mem_map.2 ⟨i, List.mem_range.2 hi, rfl⟩⟩)
      refine ⟨2 * (2 * k * ((nxt c i).x - (pti c i).x)), by omega, ?_⟩
      unfold aff
      rw [hk]
      grind
  · rw [List.length_map] at hi
    rw [pti_map _ _ hi]
    have bx := b.x i hi
    have e1 := mul_nn (Int.le_of_lt m0) bx.1
    have e2 := mul_nn (Int.le_of_lt m0) (show 0 ≤ C - (pti c i).x by omega)
    have e3 : m * (C - (pti c i).x) = m * C - m * (pti c i).x := Int.mul_sub _ _ _
    have e4 : (aff (2 * m) 0 (2 * (C + 1)) 2 (2 * C) (pti c i)).x = 2 * (m * (pti c i).x) := by unfold aff; grind
    rw [e4]
    omega
  · rw [List.length_map] at hi
    rw [pti_map _ _ hi]
    have bx := b.x i hi
    have bY := b.y i hi
    have e1 := mul_nn (show 0 ≤ C + 1 by omega) bY.1
    have e2 := mul_nn (show 0 ≤ C + 1 by omega) (show 0 ≤ C - (pti c i).y by omega)
    have e3 : (C + 1) * (C - (pti c i).y) = (C + 1) * C - (C + 1) * (pti c i).y := Int.mul_sub _ _ _
    have e4 : (aff (2 * m) 0 (2 * (C + 1)) 2 (2 * C) (pti c i)).y = 2 * ((C + 1) * (pti c i).y - (pti c i).x + C) := by unfold aff; grind
    rw [e4]
    omega

/-! shapes on a plate, wherever they are -/
structure Simple (l : List Pnt) : Prop where
  n : 3 ≤ l.length
  far : ∀ i k, i < l.length → k < l.length → i ≠ k → (i + 1) % l.length ≠ k → (k + 1) % l.length ≠ i → ¬ Hit (pti l i) (nxt l i) (pti l k) (nxt l k)
  adj : ∀ i, i < l.length → ¬ onZ (pti l i) (nxt l i) (nxt l ((i + 1) % l.length)) ∧ ¬ onZ (nxt l ((i + 1) % l.length)) (pti l i) (nxt l i)
  dis : ∀ i k, i < l.length → k < l.length → i ≠ k → (pti l i).x ≠ (pti l k).x ∨ (pti l i).y ≠ (pti l k).y
structure Sh0 (o : List Pnt) (hl : List (List Pnt)) : Prop where
  os : Simple o
  oa : 0 < area2 o
  hs : ∀ h ∈ hl, Simple h
  ha : ∀ h ∈ hl, area2 h < 0
  ap : ∀ h ∈ hl, Apart o h
  ins : ∀ h ∈ hl, wnd o (pti h 0) % 2 = 1
  two : hl.Pairwise fun h k => Apart h k ∧ wnd h (pti k 0) % 2 = 0 ∧ wnd k (pti h 0) % 2 = 0
structure Off0 (o : List Pnt) (hl : List (List Pnt)) (o' : List Pnt) (hl' : List (List Pnt)) : Prop where
  ap : ∀ c ∈ o :: hl, ∀ d ∈ o' :: hl', Apart c d
  z1 : wnd o' (pti o 0) % 2 = 0 ∨ ∃ h ∈ hl', wnd h (pti o 0) % 2 = 1
  z2 : wnd o (pti o' 0) % 2 = 0 ∨ ∃ h ∈ hl, wnd h (pti o' 0) % 2 = 1
/-- coordinates from 0 to C -/
structure In0 (C : Int) (l : List Pnt) : Prop where
  x : ∀ i, i < l.length → 0 ≤ (pti l i).x ∧ (pti l i).x ≤ C
  y : ∀ i, i < l.length → 0 ≤ (pti l i).y ∧ (pti l i).y ≤ C
theorem wnd_gen {C al be ep : Int} (h1 : 0 < al) {l : List Pnt} (hl : In0 C l) {q : Pnt} (hq : 0 ≤ q.x ∧ q.x ≤ C) : wnd (l.map (aff al be (2 * (C + 1)) 2 ep)) (aff al be (2 * (C + 1)) 2 ep q) = wnd l q := by
  unfold wnd
  rw [List.length_map]
  exact sm_congr fun i hi => by rw [pti_map _ _ hi, nxt_map _ _ hi]; exact kap_gen h1 (hl.x i hi) (hl.x _ (nxt_ok hi)) hq
theorem aff_apart {al be ga de ep : Int} (h1 : 0 < al) (h2 : 0 < ga) {l m : List Pnt} (h : Apart l m) : Apart (l.map (aff al be ga de ep)) (m.map (aff al be ga de ep)) := fun i k hi hk x => by
  rw [List.length_map] at hi hk
  rw [pti_map _ _ hi, nxt_map _ _ hi, pti_map _ _ hk, nxt_map _ _ hk] at x
  exact h i k hi hk (aff_hit h1 h2 x)
theorem simple_smp {C al be ep : Int} (h1 : 0 < al) (hC : 0 ≤ C) {l : List Pnt} (hl : In0 C l) (s : Simple l) : Smp (l.map (aff al be (2 * (C + 1)) 2 ep)) := by
  have hC2 : 0 < 2 * (C + 1) := by omega
  refine ⟨by rw [List.length_map]; exact s.n, fun i k hi hk => ?_, fun i hi => ?_, fun i k hi hk hne => ?_⟩
  · rw [List.length_map] at hi hk ⊢
    intro a b c x
    rw [pti_map _ _ hi, nxt_map _ _ hi, pti_map _ _ hk, nxt_map _ _ hk] at x
    exact s.far i k hi hk a b c (aff_hit h1 hC2 x)
  · rw [List.length_map] at hi ⊢
    rw [pti_map _ _ hi, nxt_map _ _ hi, nxt_map _ _ (nxt_ok hi)]
    exact ⟨fun x => (s.adj i hi).1 (aff_onZ h1 hC2 x), fun x => (s.adj i hi).2 (aff_onZ h1 hC2 x)⟩
  · rw [List.length_map] at hi hk
    rw [pti_map _ _ hi, pti_map _ _ hk]
    exact rise_ne (hl.x i hi) (hl.x k hk) (s.dis i k hi hk hne) ep
theorem Sh0.shp {C al be ep : Int} {T R : Nat} (h1 : 0 < al) (hC : 0 ≤ C) {o : List Pnt} {hl : List (List Pnt)} (s : Sh0 o hl) (hb : ∀ c ∈ o :: hl, In0 C c) (hg : ∀ c ∈ o :: hl, Grid T R (c.map (aff al be (2 * (C + 1)) 2 ep))) : Shp T R (o.map (aff al be (2 * (C + 1)) 2 ep)) (hl.map (List.map (aff al be (2 * (C + 1)) 2 ep))) := by
  have hC2 : 0 < 2 * (C + 1) := by omega
  have hD : 0 < al * (2 * (C + 1)) := Int.mul_pos h1 hC2
  have sml : ∀ c ∈ hl, Smp (c.map (aff al be (2 * (C + 1)) 2 ep)) := fun c hc => simple_smp h1 hC (hb c (by simp [hc])) (s.hs c hc)
  have smo := simple_smp (be := be) (ep := ep) h1 hC (hb o (by simp)) s.os
  have aro : 0 < area2 (o.map (aff al be (2 * (C + 1)) 2 ep)) := by rw [aff_area]; exact Int.mul_pos hD s.oa
  have arh : ∀ c ∈ hl, area2 (c.map (aff al be (2 * (C + 1)) 2 ep)) < 0 := fun c hc => by
    rw [aff_area]
    have := Int.mul_pos hD (show 0 < -area2 c by have := s.ha c hc; omega)
    grind
  have l0 : ∀ c ∈ o :: hl, 0 < c.length := fun c hc => by
    rcases List.mem_cons.1 hc with e | e
    · subst e; have := s.os.n; omega
    · have := (s.hs c e).n; omega
  have wg : ∀ c ∈ o :: hl, ∀ d ∈ o :: hl, wnd (c.map (aff al be (2 * (C + 1)) 2 ep)) (pti (d.map (aff al be (2 * (C + 1)) 2 ep)) 0) = wnd c (pti d 0) := fun c hc d hd => by
    rw [pti_map _ _ (l0 d hd)]
    exact wnd_gen h1 (hb c hc) ((hb d hd).x 0 (l0 d hd))
  refine ⟨hg o (by simp), smo, aro, ?_, ?_, ?_, ?_, ?_, ?_⟩
  · intro h hh
    obtain ⟨c, hc, rfl⟩ := List.mem_map.1 hh
    exact hg c (by simp [hc])
  · intro h hh
    obtain ⟨c, hc, rfl⟩ := List.mem_map.1 hh
    exact sml c hc
  · intro h hh
    obtain ⟨c, hc, rfl⟩ := List.mem_map.1 hh
    exact arh c hc
  · intro h hh
    obtain ⟨c, hc, rfl⟩ := List.mem_map.1 hh
    exact aff_apart h1 hC2 (s.ap c hc)
  · intro h hh
    obtain ⟨c, hc, rfl⟩ := List.mem_map.1 hh
    have e := wg o (by simp) c (by simp [hc])
    have i := s.ins c hc
    obtain ⟨t, r, _, _, hz⟩ := corner_pix (hg c (by simp [hc])) (by rw [List.length_map]; exact l0 c (by simp [hc]))
    have z := hz _ (hg o (by simp)) (aff_apart h1 hC2 (s.ap c hc))
    have v := wnd_pos smo (hg o (by simp)) aro t r
    rw [← z, e] at v
    rw [e]
    rcases v with v | v
    · rw [v] at i; exact absurd i (by decide)
    · exact v
  · rw [List.pairwise_map]
    refine s.two.imp_of_mem fun {h k} hh hk e => ?_
    refine ⟨aff_apart h1 hC2 e.1, ?_, ?_⟩
    · have e1 := wg h (by simp [hh]) k (by simp [hk])
      obtain ⟨t, r, _, _, hz⟩ := corner_pix (hg k (by simp [hk])) (by rw [List.length_map]; exact l0 k (by simp [hk]))
      have z := hz _ (hg h (by simp [hh])) (aff_apart h1 hC2 e.1)
      have v := wnd_neg (sml h hh) (hg h (by simp [hh])) (arh h hh) t r
      rw [← z, e1] at v
      rw [e1]
      rcases v with v | v
      · exact v
      · have := e.2.1; rw [v] at this; exact absurd this (by decide)
    · have e1 := wg k (by simp [hk]) h (by simp [hh])
      obtain ⟨t, r, _, _, hz⟩ := corner_pix (hg h (by simp [hh])) (by rw [List.length_map]; exact l0 h (by simp [hh]))
      have z := hz _ (hg k (by simp [hk])) (aff_apart h1 hC2 e.1.sym)
      have v := wnd_neg (sml k hk) (hg k (by simp [hk])) (arh k hk) t r
      rw [← z, e1] at v
      rw [e1]
      rcases v with v | v
      · exact v
      · have := e.2.2; rw [v] at this; exact absurd this (by decide)
theorem off_corner {T R : Nat} {o : List Pnt} {hl : List (List Pnt)} (s : Shp T R o hl) {m : List Pnt} (hm : Grid T R m) (hn : 0 < m.length) (ha : ∀ c ∈ o :: hl, Apart c m) (z : wnd o (pti m 0) % 2 = 0 ∨ ∃ h ∈ hl, wnd h (pti m 0) % 2 = 1) : sumW (o :: hl) (pti m 0) = 0 := by
  rcases s.corner hm hn ha with v | ⟨_, v2, v3⟩
  · exact v.1
  · rcases z with z | ⟨h, hh, z⟩
    · rw [v2] at z; exact absurd z (by decide)
    · rw [v3 h hh] at z; exact absurd z (by decide)
theorem sumA_map {al be ga de ep : Int} : ∀ cs : List (List Pnt), sumA (cs.map (List.map (aff al be ga de ep))) = al * ga * sumA cs
  | [] => (Int.mul_zero _).symm
  | c :: cs => by
    show area2 (c.map _) + sumA (cs.map _) = al * ga * (area2 c + sumA cs)
    rw [aff_area, sumA_map cs]; grind
theorem sumB_map {al be ga de ep : Int} : ∀ l : List (List Pnt × List (List Pnt)), sumB (l.map fun s => (s.1.map (aff al be ga de ep), s.2.map (List.map (aff al be ga de ep)))) = al * ga * sumB l
  | [] => (Int.mul_zero _).symm
  | s :: l => by
    show sumA ((s.1 :: s.2).map (List.map (aff al be ga de ep))) + sumB (l.map _) = al * ga * (sumA (s.1 :: s.2) + sumB l)
    rw [sumA_map, sumB_map l]; grind
theorem plate0 {C : Int} (hC : 0 ≤ C) {p : List Pnt} (ps : Simple p) (pa : 0 < area2 p) (pb : In0 C p) (l : List (List Pnt × List (List Pnt))) (hb : ∀ s ∈ l, ∀ c ∈ s.1 :: s.2, In0 C c) (h : ∀ s ∈ l, Sh0 s.1 s.2 ∧ Apart p s.1 ∧ wnd p (pti s.1 0) % 2 = 1) (hp : l.Pairwise fun s s' => Off0 s.1 s.2 s'.1 s'.2) : sumB l ≤ area2 p := by
  have bx : ∀ {c : List Pnt}, In0 C c → Simple c → Box0 C c := fun i s => ⟨i.x, i.y, s.dis, s.n⟩
  have sm : ∀ s ∈ l, ∀ c ∈ s.1 :: s.2, Simple c := fun s hs c hc => by
    rcases List.mem_cons.1 hc with e | e
    · subst e; exact (h s hs).1.os
    · exact (h s hs).1.hs c e
  obtain ⟨al, ep, T, R, h1, hg⟩ := general C hC (p :: l.flatMap fun s => s.1 :: s.2) fun c hc => by
    rcases List.mem_cons.1 hc with e | e
    · subst e; exact bx pb ps
    · obtain ⟨s, hs, hc⟩ := List.mem_flatMap.1 e
      exact bx (hb s hs c hc) (sm s hs c hc)
  have hC2 : 0 < 2 * (C + 1) := by omega
  have gg : ∀ s ∈ l, ∀ c ∈ s.1 :: s.2, Grid T R (c.map (aff al 0 (2 * (C + 1)) 2 ep)) := fun s hs c hc => hg c (List.mem_cons_of_mem _ (List.mem_flatMap.2 ⟨s, hs, hc⟩))
  have gp := hg p (by simp)
  have pp0 : Sh0 p [] := ⟨ps, pa, by simp, by simp, by simp, by simp, List.Pairwise.nil⟩
  have pp := pp0.shp (be := 0) (ep := ep) h1 hC (T := T) (R := R) (fun c hc => by rw [List.mem_singleton.1 hc]; exact pb) (fun c hc => by rw [List.mem_singleton.1 hc]; exact gp)
  have ls : ∀ s ∈ l, Shp T R (s.1.map (aff al 0 (2 * (C + 1)) 2 ep)) (s.2.map (List.map (aff al 0 (2 * (C + 1)) 2 ep))) := fun s hs => (h s hs).1.shp h1 hC (hb s hs) (gg s hs)
  have n0 : ∀ s ∈ l, 0 < s.1.length := fun s hs => by have := (h s hs).1.os.n; omega
  have e := plate_le pp (l.map fun s => (s.1.map (aff al 0 (2 * (C + 1)) 2 ep), s.2.map (List.map (aff al 0 (2 * (C + 1)) 2 ep)))) (fun s' hs' => by
    obtain ⟨s, hs, rfl⟩ := List.mem_map.1 hs'
    have ap := aff_apart (be := 0) (de := 2) (ep := ep) h1 hC2 (h s hs).2.1
    refine ⟨ls s hs, ap, ?_⟩
    have e1 : wnd (p.map (aff al 0 (2 * (C + 1)) 2 ep)) (pti (s.1.map (aff al 0 (2 * (C + 1)) 2 ep)) 0) = wnd p (pti s.1 0) := by
      rw [pti_map _ _ (n0 s hs)]
      exact wnd_gen h1 pb ((hb s hs s.1 (by simp)).x 0 (n0 s hs))
    obtain ⟨t, r, _, _, hz⟩ := corner_pix (gg s hs s.1 (by simp)) (by rw [List.length_map]; exact n0 s hs)
    have z := hz _ gp ap
    have v := wnd_pos pp.os pp.og pp.oa t r
    rw [← z, e1] at v
    have i := (h s hs).2.2
    show wnd (p.map _) (pti (s.1.map _) 0) = 1
    rw [e1]
    rcases v with v | v
    · rw [v] at i; exact absurd i (by decide)
    · exact v) (by
    rw [List.pairwise_map]
    refine hp.imp_of_mem fun {s s'} hs hs' f => ?_
    have ap : ∀ c ∈ s.1.map (aff al 0 (2 * (C + 1)) 2 ep) :: s.2.map (List.map (aff al 0 (2 * (C + 1)) 2 ep)), ∀ d ∈ s'.1.map (aff al 0 (2 * (C + 1)) 2 ep) :: s'.2.map (List.map (aff al 0 (2 * (C + 1)) 2 ep)), Apart c d := fun c hc d hd => by
      obtain ⟨c0, hc0, rfl⟩ : ∃ c0, c0 ∈ s.1 :: s.2 ∧ c0.map (aff al 0 (2 * (C + 1)) 2 ep) = c := by
        have : c ∈ (s.1 :: s.2).map (List.map (aff al 0 (2 * (C + 1)) 2 ep)) := hc
        exact List.mem_map.1 this
      obtain ⟨d0, hd0, rfl⟩ : ∃ d0, d0 ∈ s'.1 :: s'.2 ∧ d0.map (aff al 0 (2 * (C + 1)) 2 ep) = d := by
        have : d ∈ (s'.1 :: s'.2).map (List.map (aff al 0 (2 * (C + 1)) 2 ep)) := hd
        exact List.mem_map.1 this
      exact aff_apart h1 hC2 (f.ap c0 hc0 d0 hd0)
    have key : ∀ s ∈ l, ∀ s' ∈ l, (∀ c ∈ s.1.map (aff al 0 (2 * (C + 1)) 2 ep) :: s.2.map (List.map (aff al 0 (2 * (C + 1)) 2 ep)), ∀ d ∈ s'.1.map (aff al 0 (2 * (C + 1)) 2 ep) :: s'.2.map (List.map (aff al 0 (2 * (C + 1)) 2 ep)), Apart c d) → (wnd s.1 (pti s'.1 0) % 2 = 0 ∨ ∃ h ∈ s.2, wnd h (pti s'.1 0) % 2 = 1) → sumW (s.1.map (aff al 0 (2 * (C + 1)) 2 ep) :: s.2.map (List.map (aff al 0 (2 * (C + 1)) 2 ep))) (pti (s'.1.map (aff al 0 (2 * (C + 1)) 2 ep)) 0) = 0 := fun s hs s' hs' ap z => by
      have wg : ∀ c ∈ s.1 :: s.2, wnd (c.map (aff al 0 (2 * (C + 1)) 2 ep)) (pti (s'.1.map (aff al 0 (2 * (C + 1)) 2 ep)) 0) = wnd c (pti s'.1 0) := fun c hc => by
        rw [pti_map _ _ (n0 s' hs')]
        exact wnd_gen h1 (hb s hs c hc) ((hb s' hs' s'.1 (by simp)).x 0 (n0 s' hs'))
      refine off_corner (ls s hs) (gg s' hs' s'.1 (by simp)) (by rw [List.length_map]; exact n0 s' hs') (fun c hc => ap c hc _ (by simp)) ?_
      rcases z with z | ⟨h, hh, z⟩
      · exact Or.inl (by rw [wg _ (by simp)]; exact z)
      · exact Or.inr ⟨_, List.mem_map.2 ⟨h, hh, rfl⟩, by rw [wg h (by simp [hh])]; exact z⟩
    exact ⟨ap, key s' hs' s hs (fun c hc d hd => (ap d hd c hc).sym) f.z1, key s hs s' hs' ap f.z2⟩)
  rw [sumB_map, aff_area] at e
  exact Int.le_of_mul_le_mul_left e (Int.mul_pos h1 hC2)

/-! rectangles, and boxes around contours -/
/-- all corners from (x0, y0) to (x1, y1) -/
structure Inn (x0 y0 x1 y1 : Int) (l : List Pnt) : Prop where
  x : ∀ i, i < l.length → x0 ≤ (pti l i).x ∧ (pti l i).x ≤ x1
  y : ∀ i, i < l.length → y0 ≤ (pti l i).y ∧ (pti l i).y ≤ y1
theorem hit_x {a b c d : Pnt} (z : Int) (h : Hit a b c d) (h1 : a.x ≤ z) (h2 : b.x ≤ z) (h3 : z < c.x) (h4 : z < d.x) : False := by
  obtain ⟨m, s, k, t, g1, g2, g3, g4, g5, g6, e, _⟩ := h
  have e1 := mul_nn (Int.le_of_lt g4) (mul_nn (show 0 ≤ m - s by omega) (show 0 ≤ z - a.x by omega))
  have e2 := mul_nn (Int.le_of_lt g4) (mul_nn g2 (show 0 ≤ z - b.x by omega))
  have e3 := mul_nn (Int.le_of_lt g1) (mul_nn (show 0 ≤ k - t by omega) (show 0 ≤ c.x - z - 1 by omega))
  have e4 := mul_nn (Int.le_of_lt g1) (mul_nn g5 (show 0 ≤ d.x - z - 1 by omega))
  have e5 := Int.mul_pos g1 g4
  grind
theorem hit_y {a b c d : Pnt} (z : Int) (h : Hit a b c d) (h1 : a.y ≤ z) (h2 : b.y ≤ z) (h3 : z < c.y) (h4 : z < d.y) : False := by
  obtain ⟨m, s, k, t, g1, g2, g3, g4, g5, g6, _, e⟩ := h
  have e1 := mul_nn (Int.le_of_lt g4) (mul_nn (show 0 ≤ m - s by omega) (show 0 ≤ z - a.y by omega))
  have e2 := mul_nn (Int.le_of_lt g4) (mul_nn g2 (show 0 ≤ z - b.y by omega))
  have e3 := mul_nn (Int.le_of_lt g1) (mul_nn (show 0 ≤ k - t by omega) (show 0 ≤ c.y - z - 1 by omega))
  have e4 := mul_nn (Int.le_of_lt g1) (mul_nn g5 (show 0 ≤ d.y - z - 1 by omega))
  have e5 := Int.mul_pos g1 g4
  grind
/-- contours in boxes beside each other -/
theorem apart_box {x0 y0 x1 y1 u0 v0 u1 v1 : Int} {l m : List Pnt} (hl : Inn x0 y0 x1 y1 l) (hm : Inn u0 v0 u1 v1 m) (h : x1 < u0 ∨ u1 < x0 ∨ y1 < v0 ∨ v1 < y0) : Apart l m := fun i k hi hk x => by
  have a1 := hl.x i hi
  have a2 := hl.x _ (nxt_ok hi)
  have a3 := hl.y i hi
  have a4 := hl.y _ (nxt_ok hi)
  have b1 := hm.x k hk
  have b2 := hm.x _ (nxt_ok hk)
  have b3 := hm.y k hk
  have b4 := hm.y _ (nxt_ok hk)
  rcases h with h | h | h | h
  · exact hit_x x1 x a1.2 a2.2 (by omega) (show x1 < (pti m _).x by omega)
  · exact hit_x u1 x.sym b1.2 b2.2 (by omega) (show u1 < (pti l _).x by omega)
  · exact hit_y y1 x a3.2 a4.2 (by omega) (show y1 < (pti m _).y by omega)
  · exact hit_y v1 x.sym b3.2 b4.2 (by omega) (show v1 < (pti l _).y by omega)
/-- a point beside the box -/
theorem wnd_out {x0 y0 x1 y1 : Int} {l : List Pnt} (hl : Inn x0 y0 x1 y1 l) {q : Pnt} (h : x1 < q.x ∨ q.x < x0 ∨ y1 < q.y ∨ q.y < y0) : wnd l q = 0 := by
  have all : (∀ i, i < l.length → kap (pti l i) (nxt l i) q = 0) → wnd l q = 0 := fun h => by
    unfold wnd
    rw [sm_congr h, sm_zero]
  rcases h with h | h | h | h
  · refine all fun i hi => ?_
    have a1 := hl.x i hi
    have a2 : x0 ≤ (nxt l i).x ∧ (nxt l i).x ≤ x1 := hl.x _ (nxt_ok hi)
    obtain ⟨a, ea⟩ : ∃ a, pti l i = a := ⟨_, rfl⟩
    obtain ⟨b, eb⟩ : ∃ b, nxt l i = b := ⟨_, rfl⟩
    rw [ea] at a1 ⊢
    rw [eb] at a2 ⊢
    unfold kap
    rw [if_neg, if_neg]
    · rintro ⟨g1, g2, g3⟩
      have e1 := mul_nn (show 0 ≤ a.y - q.y by omega) (show 0 ≤ q.x - b.x by omega)
      have e2 := mul_nn (show 0 ≤ q.y - b.y by omega) (show 0 ≤ q.x - a.x by omega)
      unfold trn at g3
      grind
    · rintro ⟨g1, g2, g3⟩
      have e1 := mul_nn (show 0 ≤ q.y - a.y by omega) (show 0 ≤ q.x - b.x by omega)
      have e2 := mul_nn (show 0 ≤ b.y - q.y by omega) (show 0 ≤ q.x - a.x by omega)
      unfold trn at g3
      grind
  · have e := tele l fun p => if p.y ≤ q.y then 1 else 0
    rw [← e]
    unfold wnd
    refine sm_congr fun i hi => ?_
    have a1 := hl.x i hi
    have a2 : x0 ≤ (nxt l i).x ∧ (nxt l i).x ≤ x1 := hl.x _ (nxt_ok hi)
    obtain ⟨a, ea⟩ : ∃ a, pti l i = a := ⟨_, rfl⟩
    obtain ⟨b, eb⟩ : ∃ b, nxt l i = b := ⟨_, rfl⟩
    rw [ea] at a1 ⊢
    rw [eb] at a2 ⊢
    have t1 : a.y ≤ q.y → q.y < b.y → 0 < trn a b q := fun g1 g2 => by
      have e1 := mul_nn (show 0 ≤ q.y - a.y by omega) (show 0 ≤ b.x - q.x - 1 by omega)
      have e2 := mul_nn (show 0 ≤ b.y - q.y - 1 by omega) (show 0 ≤ a.x - q.x - 1 by omega)
      unfold trn
      grind
    have t2 : b.y ≤ q.y → q.y < a.y → trn a b q < 0 := fun g1 g2 => by
      have e1 := mul_nn (show 0 ≤ q.y - b.y by omega) (show 0 ≤ a.x - q.x - 1 by omega)
      have e2 := mul_nn (show 0 ≤ a.y - q.y - 1 by omega) (show 0 ≤ b.x - q.x - 1 by omega)
      unfold trn
      grind
    unfold kap
    by_cases ga : a.y ≤ q.y <;> by_cases gb : b.y ≤ q.y
    · rw [if_neg (by omega), if_neg (by omega), if_pos ga, if_pos gb]; rfl
    · rw [if_pos ⟨ga, by omega, t1 ga (by omega)⟩, if_pos ga, if_neg gb]; rfl
    · rw [if_neg (by omega), if_pos ⟨gb, by omega, t2 gb (by omega)⟩, if_neg ga, if_pos gb]; rfl
    · rw [if_neg (by omega), if_neg (by omega), if_neg ga, if_neg gb]; rfl
  · refine all fun i hi => kap_no (fun g => ?_) fun g => ?_
    · have : y0 ≤ (nxt l i).y ∧ (nxt l i).y ≤ y1 := hl.y _ (nxt_ok hi)
      omega
    · have := hl.y i hi
      omega
  · refine all fun i hi => kap_no (fun g => ?_) fun g => ?_
    · have := hl.y i hi
      omega
    · have : y0 ≤ (nxt l i).y ∧ (nxt l i).y ≤ y1 := hl.y _ (nxt_ok hi)
      omega
def rct (x0 y0 x1 y1 : Int) : List Pnt := [⟨x0, y0⟩, ⟨x1, y0⟩, ⟨x1, y1⟩, ⟨x0, y1⟩]
theorem rct_inn (x0 y0 x1 y1 : Int) (hx : x0 ≤ x1) (hy : y0 ≤ y1) : Inn x0 y0 x1 y1 (rct x0 y0 x1 y1) := by
  refine ⟨fun i hi => ?_, fun i hi => ?_⟩
  · match i, hi with
    | 0, _ | 1, _ | 2, _ | 3, _ => simp only [rct, pti, List.getD_cons_zero, List.getD_cons_succ]; omega
    | i + 4, hi => exact absurd hi (by show ¬ i + 4 < 4; omega)
  · match i, hi with
    | 0, _ | 1, _ | 2, _ | 3, _ => simp only [rct, pti, List.getD_cons_zero, List.getD_cons_succ]; omega
    | i + 4, hi => exact absurd hi (by show ¬ i + 4 < 4; omega)
theorem rct_n3 (x0 y0 x1 y1 : Int) : nxt (rct x0 y0 x1 y1) 3 = ⟨x0, y0⟩ := by
  unfold nxt
  rw [show (rct x0 y0 x1 y1).length = 4 from rfl]
  rfl
theorem rct_sm (x0 y0 x1 y1 : Int) (f : Pnt → Pnt → Int) : sm (rct x0 y0 x1 y1).length (fun i => f (pti (rct x0 y0 x1 y1) i) (nxt (rct x0 y0 x1 y1) i)) = 0 + f ⟨x0, y0⟩ ⟨x1, y0⟩ + f ⟨x1, y0⟩ ⟨x1, y1⟩ + f ⟨x1, y1⟩ ⟨x0, y1⟩ + f ⟨x0, y1⟩ ⟨x0, y0⟩ := by
  rw [show (rct x0 y0 x1 y1).length = 4 from rfl]
  show 0 + f _ (nxt _ 0) + f _ (nxt _ 1) + f _ (nxt _ 2) + f _ (nxt _ 3) = _
  rw [rct_n3]
  rfl
theorem rct_area (x0 y0 x1 y1 : Int) : area2 (rct x0 y0 x1 y1) = 2 * ((x1 - x0) * (y1 - y0)) := by
  have e : area2 (rct x0 y0 x1 y1) = 0 + (x0 * y0 - y0 * x1) + (x1 * y1 - y0 * x1) + (x1 * y1 - y1 * x0) + (x0 * y0 - y1 * x0) := rct_sm x0 y0 x1 y1 fun a b => a.x * b.y - a.y * b.x
  rw [e]; grind
theorem rct_simple {x0 y0 x1 y1 : Int} (hx : x0 < x1) (hy : y0 < y1) : Simple (rct x0 y0 x1 y1) := by
  have p0 : pti (rct x0 y0 x1 y1) 0 = ⟨x0, y0⟩ := rfl
  have p1 : pti (rct x0 y0 x1 y1) 1 = ⟨x1, y0⟩ := rfl
  have p2 : pti (rct x0 y0 x1 y1) 2 = ⟨x1, y1⟩ := rfl
  have p3 : pti (rct x0 y0 x1 y1) 3 = ⟨x0, y1⟩ := rfl
  have n0 : nxt (rct x0 y0 x1 y1) 0 = ⟨x1, y0⟩ := rfl
  have n1 : nxt (rct x0 y0 x1 y1) 1 = ⟨x1, y1⟩ := rfl
  have n2 : nxt (rct x0 y0 x1 y1) 2 = ⟨x0, y1⟩ := rfl
  have n3 : nxt (rct x0 y0 x1 y1) 3 = ⟨x0, y0⟩ := rct_n3 x0 y0 x1 y1
  have ln : (rct x0 y0 x1 y1).length = 4 := rfl
  have hxy := Int.mul_pos (show 0 < x1 - x0 by omega) (show 0 < y1 - y0 by omega)
  refine ⟨by rw [ln]; decide, fun i k hi hk => ?_, fun i hi => ?_, fun i k hi hk => ?_⟩
  · rw [ln] at hi hk ⊢
    intro a b c x
    have : (i = 0 ∧ k = 2) ∨ (i = 2 ∧ k = 0) ∨ (i = 1 ∧ k = 3) ∨ (i = 3 ∧ k = 1) := by omega
    rcases this with ⟨rfl, rfl⟩ | ⟨rfl, rfl⟩ | ⟨rfl, rfl⟩ | ⟨rfl, rfl⟩
    · rw [p0, n0, p2, n2] at x; exact hit_y y0 x (Int.le_refl _) (Int.le_refl _) hy hy
    · rw [p0, n0, p2, n2] at x; exact hit_y y0 x.sym (Int.le_refl _) (Int.le_refl _) hy hy
    · rw [p1, n1, p3, n3] at x; exact hit_x x0 x.sym (Int.le_refl _) (Int.le_refl _) hx hx
    · rw [p1, n1, p3, n3] at x; exact hit_x x0 x (Int.le_refl _) (Int.le_refl _) hx hx
  · rw [ln] at hi ⊢
    have : i = 0 ∨ i = 1 ∨ i = 2 ∨ i = 3 := by omega
    rcases this with rfl | rfl | rfl | rfl
    · rw [p0, n0, show (0 + 1) % 4 = 1 from rfl, n1]
      exact ⟨fun x => by have := x.1; unfold trn at this; grind, fun x => by have := x.1; unfold trn at this; grind⟩
    · rw [p1, n1, show (1 + 1) % 4 = 2 from rfl, n2]
      exact ⟨fun x => by have := x.1; unfold trn at this; grind, fun x => by have := x.1; unfold trn at this; grind⟩
    · rw [p2, n2, show (2 + 1) % 4 = 3 from rfl, n3]
      exact ⟨fun x => by have := x.1; unfold trn at this; grind, fun x => by have := x.1; unfold trn at this; grind⟩
    · rw [p3, n3, show (3 + 1) % 4 = 0 from rfl, n0]
      exact ⟨fun x => by have := x.1; unfold trn at this; grind, fun x => by have := x.1; unfold trn at this; grind⟩
  · rw [ln] at hi hk
    intro hne
    have h1 : i = 0 ∨ i = 1 ∨ i = 2 ∨ i = 3 := by omega
    have h2 : k = 0 ∨ k = 1 ∨ k = 2 ∨ k = 3 := by omega
    rcases h1 with rfl | rfl | rfl | rfl <;> rcases h2 with rfl | rfl | rfl | rfl <;> simp only [p0, p1, p2, p3] <;> omega
theorem rct_sh {x0 y0 x1 y1 : Int} (hx : x0 < x1) (hy : y0 < y1) : Sh0 (rct x0 y0 x1 y1) [] :=
  ⟨rct_simple hx hy, by rw [rct_area]; have := Int.mul_pos (show 0 < x1 - x0 by omega) (show 0 < y1 - y0 by omega); omega, by simp, by simp, by simp, by simp, List.Pairwise.nil⟩
theorem rct_wnd {X Y : Int} {q : Pnt} (h1 : 0 < q.x) (h2 : q.x < X) (h3 : 0 < q.y) (h4 : q.y < Y) : wnd (rct 0 0 X Y) q = 1 := by
  have e : wnd (rct 0 0 X Y) q = 0 + kap ⟨0, 0⟩ ⟨X, 0⟩ q + kap ⟨X, 0⟩ ⟨X, Y⟩ q + kap ⟨X, Y⟩ ⟨0, Y⟩ q + kap ⟨0, Y⟩ ⟨0, 0⟩ q := rct_sm 0 0 X Y fun a b => kap a b q
  have k0 : kap ⟨0, 0⟩ ⟨X, 0⟩ q = 0 := kap_no (fun g => by have := g.1; have := g.2; simp only at *; omega) (fun g => by have := g.1; have := g.2; simp only at *; omega)
  have k2 : kap ⟨X, Y⟩ ⟨0, Y⟩ q = 0 := kap_no (fun g => by have := g.1; have := g.2; simp only at *; omega) (fun g => by have := g.1; have := g.2; simp only at *; omega)
  have t1 := Int.mul_pos (show 0 < Y by omega) (show 0 < X - q.x by omega)
  have t2 := Int.mul_pos (show 0 < Y by omega) h1
  have k1 : kap ⟨X, 0⟩ ⟨X, Y⟩ q = 1 := by
    unfold kap
    rw [if_pos ⟨by show 0 ≤ q.y; omega, h4, by unfold trn; show 0 < (X - X) * (q.y - 0) - (Y - 0) * (q.x - X); grind⟩]
  have k3 : kap ⟨0, Y⟩ ⟨0, 0⟩ q = 0 := by
    unfold kap
    rw [if_neg (fun g => by have := g.1; have := g.2.1; simp only at *; omega), if_neg]
    rintro ⟨_, _, g⟩
    unfold trn at g
    have : (0 - 0) * (q.y - Y) - (0 - Y) * (q.x - 0) < 0 := g
    grind
  rw [e, k0, k1, k2, k3]; rfl

/-! a plate and what lies on it, up to its border -/
theorem kap_scale {B e f : Int} (hB : 0 < B) (a b q : Pnt) : kap (aff B e B 0 f a) (aff B e B 0 f b) (aff B e B 0 f q) = kap a b q := by
  have o : ∀ p q : Pnt, (aff B e B 0 f p).y ≤ (aff B e B 0 f q).y ↔ p.y ≤ q.y := fun p q => by
    have := mul_lt_iff hB (u := p.y) (v := q.y)
    simp only [aff]
    omega
  have hD := Int.mul_pos hB hB
  unfold kap
  rw [aff_trn]
  obtain ⟨D, eD⟩ : ∃ D, B * B = D := ⟨_, rfl⟩
  rw [eD] at hD ⊢
  have s1 : 0 < D * trn a b q ↔ 0 < trn a b q := ⟨fun h => by
    rcases Int.lt_or_le 0 (trn a b q) with g | g
    · exact g
    · have := mul_nn (Int.le_of_lt hD) (show 0 ≤ -trn a b q by omega)
      grind, fun h => Int.mul_pos hD h⟩
  have s2 : D * trn a b q < 0 ↔ trn a b q < 0 := ⟨fun h => neg_of_mul hD h, fun h => by
    have := Int.mul_pos hD (show 0 < -trn a b q by omega)
    grind⟩
  have l : ∀ p q : Pnt, (aff B e B 0 f p).y < (aff B e B 0 f q).y ↔ p.y < q.y := fun p q => by
    rw [← Int.not_le, ← Int.not_le, o]
  simp only [s1, s2, o, l]
theorem wnd_scale {B e f : Int} (hB : 0 < B) (l : List Pnt) (q : Pnt) : wnd (l.map (aff B e B 0 f)) (aff B e B 0 f q) = wnd l q := by
  unfold wnd
  rw [List.length_map]
  exact sm_congr fun i hi => by rw [pti_map _ _ hi, nxt_map _ _ hi]; exact kap_scale hB _ _ _
theorem Simple.scale {B e f : Int} (hB : 0 < B) {l : List Pnt} (s : Simple l) : Simple (l.map (aff B e B 0 f)) := by
  refine ⟨by rw [List.length_map]; exact s.n, fun i k hi hk => ?_, fun i hi => ?_, fun i k hi hk hne => ?_⟩
  · rw [List.length_map] at hi hk ⊢
    intro a b c x
    rw [pti_map _ _ hi, nxt_map _ _ hi, pti_map _ _ hk, nxt_map _ _ hk] at x
    exact s.far i k hi hk a b c (aff_hit hB hB x)
  · rw [List.length_map] at hi ⊢
    rw [pti_map _ _ hi, nxt_map _ _ hi, nxt_map _ _ (nxt_ok hi)]
    exact ⟨fun x => (s.adj i hi).1 (aff_onZ hB hB x), fun x => (s.adj i hi).2 (aff_onZ hB hB x)⟩
  · rw [List.length_map] at hi hk
    rw [pti_map _ _ hi, pti_map _ _ hk]
    have d := s.dis i k hi hk hne
    have i1 : B * (pti l i).x = B * (pti l k).x → (pti l i).x = (pti l k).x := cancelL hB
    have i2 : B * (pti l i).y = B * (pti l k).y → (pti l i).y = (pti l k).y := cancelL hB
    simp only [aff]
    omega
theorem wnd_scale0 {B e f : Int} (hB : 0 < B) (l : List Pnt) {m : List Pnt} (hm : 0 < m.length) : wnd (l.map (aff B e B 0 f)) (pti (m.map (aff B e B 0 f)) 0) = wnd l (pti m 0) := by
  rw [pti_map _ _ hm]
  exact wnd_scale hB l _
theorem Sh0.len {o : List Pnt} {hl : List (List Pnt)} (s : Sh0 o hl) : ∀ c ∈ o :: hl, 0 < c.length := fun c hc => by
  rcases List.mem_cons.1 hc with e | e
  · subst e; have := s.os.n; omega
  · have := (s.hs c e).n; omega
theorem Sh0.scale {B e f : Int} (hB : 0 < B) {o : List Pnt} {hl : List (List Pnt)} (s : Sh0 o hl) : Sh0 (o.map (aff B e B 0 f)) (hl.map (List.map (aff B e B 0 f))) := by
  have hD := Int.mul_pos hB hB
  refine ⟨s.os.scale hB, by rw [aff_area]; exact Int.mul_pos hD s.oa, ?_, ?_, ?_, ?_, ?_⟩
  · intro h hh
    obtain ⟨c, hc, rfl⟩ := List.mem_map.1 hh
    exact (s.hs c hc).scale hB
  · intro h hh
    obtain ⟨c, hc, rfl⟩ := List.mem_map.1 hh
    rw [aff_area]
    have := Int.mul_pos hD (show 0 < -area2 c by have := s.ha c hc; omega)
    grind
  · intro h hh
    obtain ⟨c, hc, rfl⟩ := List.mem_map.1 hh
    exact aff_apart hB hB (s.ap c hc)
  · intro h hh
    obtain ⟨c, hc, rfl⟩ := List.mem_map.1 hh
    rw [wnd_scale0 hB o (s.len c (by simp [hc]))]
    exact s.ins c hc
  · rw [List.pairwise_map]
    refine s.two.imp_of_mem fun {h k} hh hk g => ?_
    rw [wnd_scale0 hB h (s.len k (by simp [hk])), wnd_scale0 hB k (s.len h (by simp [hh]))]
    exact ⟨aff_apart hB hB g.1, g.2⟩
theorem Off0.scale {B e f : Int} (hB : 0 < B) {o : List Pnt} {hl : List (List Pnt)} {o' : List Pnt} {hl' : List (List Pnt)} (n : 0 < o.length) (n' : 0 < o'.length) (fo : Off0 o hl o' hl') : Off0 (o.map (aff B e B 0 f)) (hl.map (List.map (aff B e B 0 f))) (o'.map (aff B e B 0 f)) (hl'.map (List.map (aff B e B 0 f))) := by
  have key : ∀ {o m : List Pnt} {hl : List (List Pnt)}, 0 < m.length → (wnd o (pti m 0) % 2 = 0 ∨ ∃ h ∈ hl, wnd h (pti m 0) % 2 = 1) → (wnd (o.map (aff B e B 0 f)) (pti (m.map (aff B e B 0 f)) 0) % 2 = 0 ∨ ∃ h ∈ hl.map (List.map (aff B e B 0 f)), wnd h (pti (m.map (aff B e B 0 f)) 0) % 2 = 1) := fun {o m hl} hm z => by
    rcases z with z | ⟨h, hh, z⟩
    · exact Or.inl (by rw [wnd_scale0 hB o hm]; exact z)
    · exact Or.inr ⟨_, List.mem_map.2 ⟨h, hh, rfl⟩, by rw [wnd_scale0 hB h hm]; exact z⟩
  refine ⟨fun c hc d hd => ?_, key n fo.z1, key n' fo.z2⟩
  obtain ⟨c0, hc0, rfl⟩ : ∃ c0, c0 ∈ o :: hl ∧ c0.map (aff B e B 0 f) = c := List.mem_map.1 (show c ∈ (o :: hl).map (List.map (aff B e B 0 f)) from hc)
  obtain ⟨d0, hd0, rfl⟩ : ∃ d0, d0 ∈ o' :: hl' ∧ d0.map (aff B e B 0 f) = d := List.mem_map.1 (show d ∈ (o' :: hl').map (List.map (aff B e B 0 f)) from hd)
  exact aff_apart hB hB (fo.ap c0 hc0 d0 hd0)
theorem rct_around {X Y X' Y' : Int} {c : List Pnt} (i : Inn 1 1 X Y c) (hX : X < X') (hY : Y < Y') : Apart (rct 0 0 X' Y') c := by
  intro j k hj hk x
  have a1 := i.x k hk
  have a2 := i.x _ (nxt_ok hk)
  have a3 := i.y k hk
  have a4 := i.y _ (nxt_ok hk)
  have hj : j < 4 := hj
  have : j = 0 ∨ j = 1 ∨ j = 2 ∨ j = 3 := by omega
  rcases this with rfl | rfl | rfl | rfl
  · exact hit_y 0 x (Int.le_refl _) (Int.le_refl _) (by omega) (show 0 < (pti _ _).y by omega)
  · exact hit_x X x.sym a1.2 a2.2 hX hX
  · exact hit_y Y x.sym a3.2 a4.2 hY hY
  · rw [rct_n3] at x
    exact hit_x 0 x (Int.le_refl _) (Int.le_refl _) (by omega) (show 0 < (pti _ _).x by omega)
/-- what lies on a plate without a point in common takes no more than the plate -/
theorem plate1 {L W : Int} (hL : 0 < L) (hW : 0 < W) (l : List (List Pnt × List (List Pnt))) (hb : ∀ s ∈ l, ∀ c ∈ s.1 :: s.2, Inn 0 0 L W c) (h : ∀ s ∈ l, Sh0 s.1 s.2) (hp : l.Pairwise fun s s' => Off0 s.1 s.2 s'.1 s'.2) : sumB l ≤ 2 * (L * W) := by
  obtain ⟨B, eB⟩ : ∃ B, 4 * (L + W) + 8 = B := ⟨_, rfl⟩
  have hB : 0 < B := by omega
  have bL := Int.mul_pos hB hL
  have bW := Int.mul_pos hB hW
  have inn : ∀ s ∈ l, ∀ c ∈ s.1 :: s.2, Inn 1 1 (B * L + 1) (B * W + 1) (c.map (aff B 1 B 0 1)) := fun s hs c hc => by
    have b := hb s hs c hc
    refine ⟨fun i hi => ?_, fun i hi => ?_⟩
    · rw [List.length_map] at hi
      rw [pti_map _ _ hi]
      have b := b.x i hi
      have e1 := (mul_lt_iff hB (u := 0) (v := (pti c i).x)).2 b.1
      have e2 := (mul_lt_iff hB (u := (pti c i).x) (v := L)).2 b.2
      simp only [aff]
      omega
    · rw [List.length_map] at hi
      rw [pti_map _ _ hi]
      have b := b.y i hi
      have e1 := (mul_lt_iff hB (u := 0) (v := (pti c i).y)).2 b.1
      have e2 := (mul_lt_iff hB (u := (pti c i).y) (v := W)).2 b.2
      simp only [aff]
      omega
  have pr : Inn 0 0 (B * L + 2) (B * W + 2) (rct 0 0 (B * L + 2) (B * W + 2)) := rct_inn _ _ _ _ (by omega) (by omega)
  have e := plate0 (C := B * L + B * W + 2) (by omega) (rct_simple (x0 := 0) (y0 := 0) (x1 := B * L + 2) (y1 := B * W + 2) (by omega) (by omega))
    (by rw [rct_area]; have := Int.mul_pos (show 0 < B * L + 2 - 0 by omega) (show 0 < B * W + 2 - 0 by omega); omega)
    ⟨fun i hi => by have := pr.x i hi; omega, fun i hi => by have := pr.y i hi; omega⟩
    (l.map fun s => (s.1.map (aff B 1 B 0 1), s.2.map (List.map (aff B 1 B 0 1))))
    (fun s' hs' c hc => by
      obtain ⟨s, hs, rfl⟩ := List.mem_map.1 hs'
      obtain ⟨c0, hc0, rfl⟩ : ∃ c0, c0 ∈ s.1 :: s.2 ∧ c0.map (aff B 1 B 0 1) = c := List.mem_map.1 (show c ∈ (s.1 :: s.2).map (List.map (aff B 1 B 0 1)) from hc)
      have i := inn s hs c0 hc0
      exact ⟨fun k hk => by have := i.x k hk; omega, fun k hk => by have := i.y k hk; omega⟩)
    (fun s' hs' => by
      obtain ⟨s, hs, rfl⟩ := List.mem_map.1 hs'
      have i := inn s hs s.1 (by simp)
      have n0 : 0 < (s.1.map (aff B 1 B 0 1)).length := by rw [List.length_map]; exact (h s hs).len s.1 (by simp)
      refine ⟨(h s hs).scale hB, rct_around i (by omega) (by omega), ?_⟩
      · have a1 := i.x 0 n0
        have a3 := i.y 0 n0
        show wnd _ (pti (s.1.map (aff B 1 B 0 1)) 0) % 2 = 1
        rw [rct_wnd (by omega) (by omega) (by omega) (by omega)]; rfl)
    (by
      rw [List.pairwise_map]
      exact hp.imp_of_mem fun {s s'} hs hs' f => f.scale hB ((h s hs).len _ (by simp)) ((h s' hs').len _ (by simp)))
  rw [sumB_map, rct_area] at e
  rcases Int.lt_or_le (2 * (L * W)) (sumB l) with g | g
  · exfalso
    have e1 := Int.mul_pos hB hB
    have e2 := mul_nn (Int.le_of_lt e1) (show 0 ≤ sumB l - 2 * (L * W) - 1 by omega)
    have e3 : B * B = 4 * (B * L) + 4 * (B * W) + 8 * B := by
      have : B * B = B * (4 * (L + W) + 8) := by rw [eB]
      rw [this]; grind
    have e4 : (B * L + 2 - 0) * (B * W + 2 - 0) = B * B * (L * W) + 2 * (B * L) + 2 * (B * W) + 4 := by grind
    rw [e4] at e
    have e5 : B * B * (sumB l - 2 * (L * W) - 1) = B * B * sumB l - 2 * (B * B * (L * W)) - B * B := by grind
    rw [e5] at e2
    omega
  · exact g
/-- a rectangle beside the shapes -/
theorem rct_off {x0 y0 x1 y1 u0 v0 u1 v1 : Int} (hx : x0 ≤ x1) (hy : y0 ≤ y1) {o : List Pnt} {hl : List (List Pnt)} (n : 0 < o.length) (hb : ∀ c ∈ o :: hl, Inn u0 v0 u1 v1 c) (h : x1 < u0 ∨ u1 < x0 ∨ y1 < v0 ∨ v1 < y0) : Off0 (rct x0 y0 x1 y1) [] o hl := by
  have r := rct_inn x0 y0 x1 y1 hx hy
  refine ⟨fun c hc d hd => ?_, Or.inl ?_, Or.inl ?_⟩
  · rw [List.mem_singleton.1 hc]
    exact apart_box r (hb d hd) h
  · rw [wnd_out (hb o (by simp)) (q := pti (rct x0 y0 x1 y1) 0)]; · rfl
    have a := r.x 0 (by show 0 < 4; decide)
    have b := r.y 0 (by show 0 < 4; decide)
    omega
  · rw [wnd_out r (q := pti o 0)]; · rfl
    have a := (hb o (by simp)).x 0 n
    have b := (hb o (by simp)).y 0 n
    omega

/-! moves: turned, turned over, put elsewhere -/
def offL (l : List Pnt) (q : Pnt) : Prop := ∀ i, i < l.length → ¬ onZ q (pti l i) (nxt l i)
theorem onZ_on {q a b : Pnt} (h : onZ q a b) : On a b q := by
  obtain ⟨z, x1, x2, y1, y2⟩ := h
  unfold trn at z
  rcases Int.lt_trichotomy a.x b.x with g | g | g
  · exact ⟨b.x - a.x, q.x - a.x, by omega, by omega, by omega, by grind, by grind⟩
  · rcases Int.lt_trichotomy a.y b.y with k | k | k
    · exact ⟨b.y - a.y, q.y - a.y, by omega, by omega, by omega, by grind, by grind⟩
    · exact ⟨1, 0, by omega, by omega, by omega, by omega, by omega⟩
    · exact ⟨a.y - b.y, a.y - q.y, by omega, by omega, by omega, by grind, by grind⟩
  · exact ⟨a.x - b.x, a.x - q.x, by omega, by omega, by omega, by grind, by grind⟩
theorem on_self (a b : Pnt) : On a b a := ⟨1, 0, by omega, by omega, by omega, by omega, by omega⟩
theorem apart_off {l m : List Pnt} (h : Apart l m) {k : Nat} (hk : k < m.length) : offL l (pti m k) := fun i hi x => h i k hi hk (hit_on (onZ_on x) (on_self _ _))
/-- what a move of contours keeps -/
structure Mov (E : List Pnt → List Pnt) (g : Pnt → Pnt) : Prop where
  len : ∀ l, (E l).length = l.length
  sim : ∀ l, Simple l → Simple (E l)
  area : ∀ l, area2 (E l) = area2 l
  ap : ∀ l m, Apart l m → Apart (E l) (E m)
  off : ∀ l q, offL l q → offL (E l) (g q)
  wnd : ∀ l q, offL l q → wnd (E l) (g q) = wnd l q
  pt : ∀ l i, i < l.length → ∃ k, k < l.length ∧ pti (E l) i = g (pti l k)
theorem Mov.comp {E F : List Pnt → List Pnt} {g f : Pnt → Pnt} (h : Mov E g) (k : Mov F f) : Mov (fun l => F (E l)) (fun p => f (g p)) :=
  ⟨fun l => (k.len _).trans (h.len _), fun l s => k.sim _ (h.sim _ s), fun l => (k.area _).trans (h.area _), fun l m a => k.ap _ _ (h.ap _ _ a), fun l q o => k.off _ _ (h.off _ _ o), fun l q o => (k.wnd _ _ (h.off _ _ o)).trans (h.wnd _ _ o), fun l i hi => by
    obtain ⟨j, hj, e⟩ := k.pt (E l) i (by rw [h.len]; exact hi)
    rw [h.len] at hj
    obtain ⟨j', hj', e'⟩ := h.pt l j hj
    exact ⟨j', hj', by rw [e, e']⟩⟩
theorem Mov.ident : Mov (fun l => l) (fun p => p) := ⟨fun _ => rfl, fun _ s => s, fun _ => rfl, fun _ _ a => a, fun _ _ o => o, fun _ _ _ => rfl, fun _ i hi => ⟨i, hi, rfl⟩⟩
theorem Mov.wnd0 {E : List Pnt → List Pnt} {g : Pnt → Pnt} (m : Mov E g) {o h : List Pnt} (a : Apart o h) (n : 0 < h.length) : Go.Proofs.YtfmhickjefogdaaGreat.wnd (E o) (pti (E h) 0) = Go.Proofs.YtfmhickjefogdaaGreat.wnd o (pti h 0) := by
  obtain ⟨k, hk, e⟩ := m.pt h 0 n
  rw [e, m.wnd o _ (apart_off a hk), wnd_all a k hk]
theorem Mov.sh0 {E : List Pnt → List Pnt} {g : Pnt → Pnt} (m : Mov E g) {o : List Pnt} {hl : List (List Pnt)} (s : Sh0 o hl) : Sh0 (E o) (hl.map E) := by
  refine ⟨m.sim _ s.os, by rw [m.area]; exact s.oa, ?_, ?_, ?_, ?_, ?_⟩
  · intro h hh
    obtain ⟨c, hc, rfl⟩ := List.mem_map.1 hh
    exact m.sim _ (s.hs c hc)
  · intro h hh
    obtain ⟨c, hc, rfl⟩ := List.mem_map.1 hh
    rw [m.area]; exact s.ha c hc
  · intro h hh
    obtain ⟨c, hc, rfl⟩ := List.mem_map.1 hh
    exact m.ap _ _ (s.ap c hc)
  · intro h hh
    obtain ⟨c, hc, rfl⟩ := List.mem_map.1 hh
    rw [m.wnd0 (s.ap c hc) (s.len c (by simp [hc]))]
    exact s.ins c hc
  · rw [List.pairwise_map]
    refine s.two.imp_of_mem fun {h k} hh hk e => ?_
    rw [m.wnd0 e.1 (s.len k (by simp [hk])), m.wnd0 e.1.sym (s.len h (by simp [hh]))]
    exact ⟨m.ap _ _ e.1, e.2⟩
theorem Mov.sumA {E : List Pnt → List Pnt} {g : Pnt → Pnt} (m : Mov E g) : ∀ cs, Go.Proofs.YtfmhickjefogdaaGreat.sumA (cs.map E) = Go.Proofs.YtfmhickjefogdaaGreat.sumA cs
  | [] => rfl
  | c :: cs => by
    show area2 (E c) + Go.Proofs.YtfmhickjefogdaaGreat.sumA (cs.map E) = area2 c + Go.Proofs.YtfmhickjefogdaaGreat.sumA cs
    rw [m.area, m.sumA cs]
/-- holes are in the box of the outer contour -/
theorem Sh0.box {o : List Pnt} {hl : List (List Pnt)} (s : Sh0 o hl) {x0 y0 x1 y1 : Int} (b : Inn x0 y0 x1 y1 o) : ∀ c ∈ o :: hl, Inn x0 y0 x1 y1 c := fun c hc => by
  rcases List.mem_cons.1 hc with e | e
  · subst e; exact b
  · have key : ∀ i, i < c.length → ¬ (x1 < (pti c i).x ∨ (pti c i).x < x0 ∨ y1 < (pti c i).y ∨ (pti c i).y < y0) := fun i hi x => by
      have z := wnd_out b x
      have a := s.ins c e
      rw [wnd_all (s.ap c e) i hi] at z
      rw [z] at a
      exact absurd a (by decide)
    exact ⟨fun i hi => by have := key i hi; omega, fun i hi => by have := key i hi; omega⟩
/-- a move by a map of points that keeps the order of the corners -/
theorem mov_map {g : Pnt → Pnt} (h1 : ∀ a b c d, Hit (g a) (g b) (g c) (g d) → Hit a b c d) (h2 : ∀ q a b, onZ (g q) (g a) (g b) → onZ q a b) (h3 : ∀ p q : Pnt, (p.x ≠ q.x ∨ p.y ≠ q.y) → ((g p).x ≠ (g q).x ∨ (g p).y ≠ (g q).y)) (h4 : ∀ l, area2 (l.map g) = area2 l) (h5 : ∀ l q, offL l q → wnd (l.map g) (g q) = wnd l q) : Mov (List.map g) g := by
  refine ⟨fun l => List.length_map _, fun l s => ?_, h4, fun l m a i k hi hk x => ?_, fun l q o i hi x => ?_, h5, fun l i hi => ⟨i, hi, pti_map _ _ hi⟩⟩
  · refine ⟨by rw [List.length_map]; exact s.n, fun i k hi hk => ?_, fun i hi => ?_, fun i k hi hk hne => ?_⟩
    · rw [List.length_map] at hi hk ⊢
      intro a b c x
      rw [pti_map _ _ hi, nxt_map _ _ hi, pti_map _ _ hk, nxt_map _ _ hk] at x
      exact s.far i k hi hk a b c (h1 _ _ _ _ x)
    · rw [List.length_map] at hi ⊢
      rw [pti_map _ _ hi, nxt_map _ _ hi, nxt_map _ _ (nxt_ok hi)]
      exact ⟨fun x => (s.adj i hi).1 (h2 _ _ _ x), fun x => (s.adj i hi).2 (h2 _ _ _ x)⟩
    · rw [List.length_map] at hi hk
      rw [pti_map _ _ hi, pti_map _ _ hk]
      exact h3 _ _ (s.dis i k hi hk hne)
  · rw [List.length_map] at hi hk
    rw [pti_map _ _ hi, nxt_map _ _ hi, pti_map _ _ hk, nxt_map _ _ hk] at x
    exact a i k hi hk (h1 _ _ _ _ x)
  · rw [List.length_map] at hi
    rw [pti_map _ _ hi, nxt_map _ _ hi] at x
    exact o i hi (h2 _ _ _ x)
theorem mov_shift (x y : Int) : Mov (List.map (aff 1 x 1 0 y)) (aff 1 x 1 0 y) :=
  mov_map (fun a b c d h => aff_hit (by omega) (by omega) h) (fun q a b h => aff_onZ (by omega) (by omega) h) (fun p q h => by simp only [aff]; omega) (fun l => by rw [aff_area]; omega) (fun l q _ => wnd_scale (by omega) l q)
def rot (p : Pnt) : Pnt := ⟨-p.y, p.x⟩
theorem mul_four (u v : Int) : (0 < u ∧ 0 < v ∧ 0 < u * v) ∨ (0 < u ∧ v ≤ 0 ∧ u * v ≤ 0) ∨ (u ≤ 0 ∧ 0 < v ∧ u * v ≤ 0) ∨ (u ≤ 0 ∧ v ≤ 0 ∧ 0 ≤ u * v) := by
  rcases Int.lt_or_le 0 u with g | g <;> rcases Int.lt_or_le 0 v with k | k
  · exact Or.inl ⟨g, k, Int.mul_pos g k⟩
  · refine Or.inr (Or.inl ⟨g, k, ?_⟩)
    have := mul_nn (Int.le_of_lt g) (show 0 ≤ -v by omega)
    grind
  · refine Or.inr (Or.inr (Or.inl ⟨g, k, ?_⟩))
    have := mul_nn (show 0 ≤ -u by omega) (Int.le_of_lt k)
    grind
  · refine Or.inr (Or.inr (Or.inr ⟨g, k, ?_⟩))
    have := mul_nn (show 0 ≤ -u by omega) (show 0 ≤ -v by omega)
    grind
/-- a point on the line through the ends, between them -/
theorem zero_on {a b q : Pnt} (h : ¬ onZ q a b) (hb : (a.x ≤ q.x ∧ q.x < b.x) ∨ (b.x ≤ q.x ∧ q.x < a.x) ∨ (a.y ≤ q.y ∧ q.y < b.y) ∨ (b.y ≤ q.y ∧ q.y < a.y)) : trn a b q ≠ 0 := fun z => h (by
  have zz := z
  unfold trn at zz
  have on : ∀ m s : Int, 0 < m → 0 ≤ s → s ≤ m → m * q.x = (m - s) * a.x + s * b.x → m * q.y = (m - s) * a.y + s * b.y → onZ q a b := fun m s h1 h2 h3 e1 e2 =>
    ⟨z, (between h1 h2 h3 e1).1, (between h1 h2 h3 e1).2, between h1 h2 h3 e2⟩
  rcases hb with ⟨g, k⟩ | ⟨g, k⟩ | ⟨g, k⟩ | ⟨g, k⟩
  · exact on (b.x - a.x) (q.x - a.x) (by omega) (by omega) (by omega) (by grind) (by grind)
  · exact on (a.x - b.x) (a.x - q.x) (by omega) (by omega) (by omega) (by grind) (by grind)
  · exact on (b.y - a.y) (q.y - a.y) (by omega) (by omega) (by omega) (by grind) (by grind)
  · exact on (a.y - b.y) (a.y - q.y) (by omega) (by omega) (by omega) (by grind) (by grind))
def qua (q p : Pnt) : Int := if q.x < p.x ∧ p.y ≤ q.y then 1 else 0
theorem kap_rot {a b q : Pnt} (h : ¬ onZ q a b) : kap (rot a) (rot b) (rot q) = kap a b q - (qua q a - qua q b) := by
  have e1 : trn (rot a) (rot b) (rot q) = trn a b q := by unfold trn rot; grind
  have e2 : trn a b q = (a.x - q.x) * (b.y - q.y) - (a.y - q.y) * (b.x - q.x) := by unfold trn; grind
  have z := zero_on h
  unfold kap qua
  rw [e1]
  simp only [rot]
  have s1 := mul_four (a.x - q.x) (b.y - q.y)
  have s2 := mul_four (a.y - q.y) (b.x - q.x)
  generalize trn a b q = t at *
  generalize (a.x - q.x) * (b.y - q.y) = u at *
  generalize (a.y - q.y) * (b.x - q.x) = v at *
  clear h e1
  rcases s1 with ⟨c1, c2, c3⟩ | ⟨c1, c2, c3⟩ | ⟨c1, c2, c3⟩ | ⟨c1, c2, c3⟩ <;> rcases s2 with ⟨d1, d2, d3⟩ | ⟨d1, d2, d3⟩ | ⟨d1, d2, d3⟩ | ⟨d1, d2, d3⟩ <;> rcases Int.lt_trichotomy t 0 with e | e | e <;> (try have z := z (by omega)) <;> (try clear z) <;> omega

theorem rot_hit (a b c d : Pnt) (h : Hit (rot a) (rot b) (rot c) (rot d)) : Hit a b c d := by
  obtain ⟨m, s, k, t, g1, g2, g3, g4, g5, g6, g7, g8⟩ := h
  refine ⟨m, s, k, t, g1, g2, g3, g4, g5, g6, g8, ?_⟩
  simp only [rot] at g7
  grind
theorem rot_onZ (q a b : Pnt) (h : onZ (rot q) (rot a) (rot b)) : onZ q a b := by
  obtain ⟨z, x1, x2, y1, y2⟩ := h
  have e1 : trn (rot a) (rot b) (rot q) = trn a b q := by unfold trn rot; grind
  rw [e1] at z
  simp only [rot] at x1 x2 y1 y2
  exact ⟨z, y1, y2, by omega, by omega⟩
theorem mov_rot : Mov (List.map rot) rot := by
  refine mov_map rot_hit rot_onZ (fun p q h => by simp only [rot]; omega) (fun l => ?_) fun l q o => ?_
  · unfold area2
    rw [List.length_map]
    refine sm_congr fun i hi => ?_
    rw [pti_map _ _ hi, nxt_map _ _ hi]
    simp only [rot]
    grind
  · have e := tele l (qua q)
    unfold wnd
    rw [List.length_map, sm_congr (g := fun i => kap (pti l i) (nxt l i) q - (qua q (pti l i) - qua q (nxt l i))) fun i hi => by rw [pti_map _ _ hi, nxt_map _ _ hi]; exact kap_rot (o i hi), sm_sub, e]
    omega
/-! the other way round -/
theorem pti_rev (l : List Pnt) {i : Nat} (hi : i < l.length) : pti l.reverse i = pti l (l.length - 1 - i) := by
  unfold pti
  rw [List.getD_eq_getElem?_getD, List.getD_eq_getElem?_getD, List.getElem?_reverse hi]
theorem rev_next {n i : Nat} (hi : i < n) : (n - 1 - (i + 1) % n + 1) % n = n - 1 - i ∧ n - 1 - (i + 1) % n < n := by
  by_cases h : i + 1 = n
  · rw [h, Nat.mod_self]
    have : n - 1 - 0 + 1 = n := by omega
    rw [this, Nat.mod_self]
    omega
  · rw [Nat.mod_eq_of_lt (show i + 1 < n by omega), Nat.mod_eq_of_lt (by omega)]
    omega
theorem rev_edge (l : List Pnt) {i : Nat} (hi : i < l.length) : pti l.reverse i = nxt l (l.length - 1 - (i + 1) % l.length) ∧ nxt l.reverse i = pti l (l.length - 1 - (i + 1) % l.length) := by
  refine ⟨?_, ?_⟩
  · rw [pti_rev l hi]
    unfold nxt
    rw [(rev_next hi).1]
  · unfold nxt
    rw [List.length_reverse, pti_rev l (nxt_ok hi)]
theorem sm_rev (f : Nat → Int) : ∀ n, sm n (fun i => f (n - 1 - i)) = sm n f
  | 0 => rfl
  | n + 1 => by
    rw [sm_head, sm_succ, ← sm_rev f n]
    have : sm n (fun i => f (n + 1 - 1 - (i + 1))) = sm n fun i => f (n - 1 - i) := sm_congr fun i hi => by rw [show n + 1 - 1 - (i + 1) = n - 1 - i by omega]
    rw [this]
    show f n + _ = _ + f n
    omega
theorem sum_rev (l : List Pnt) (F : Pnt → Pnt → Int) : sm l.reverse.length (fun i => F (pti l.reverse i) (nxt l.reverse i)) = sm l.length fun i => F (nxt l i) (pti l i) := by
  rw [List.length_reverse]
  refine Eq.trans (sm_congr fun i hi => ?_) ((sm_round (fun i => F (nxt l (l.length - 1 - i)) (pti l (l.length - 1 - i))) l.length).trans (sm_rev (fun j => F (nxt l j) (pti l j)) l.length))
  rw [(rev_edge l hi).1, (rev_edge l hi).2]
theorem sm_neg (f : Nat → Int) (n : Nat) : sm n (fun i => -f i) = -sm n f := by
  have := sm_mul (-1) f n
  rw [sm_congr (g := fun i => -1 * f i) fun i _ => by omega, this]
  omega
theorem rev_area (l : List Pnt) : area2 l.reverse = -area2 l := by
  have e := sum_rev l fun a b => a.x * b.y - a.y * b.x
  unfold area2
  rw [e, ← sm_neg]
  exact sm_congr fun i _ => by grind
theorem rev_wnd (l : List Pnt) (q : Pnt) : wnd l.reverse q = -wnd l q := by
  have e := sum_rev l fun a b => kap a b q
  unfold wnd
  rw [e, ← sm_neg]
  exact sm_congr fun i _ => kap_flip _ _ _
theorem rev_apart {l m : List Pnt} (h : Apart l m) : Apart l.reverse m := fun i k hi hk x => by
  rw [List.length_reverse] at hi
  rw [(rev_edge l hi).1, (rev_edge l hi).2] at x
  exact h _ k (rev_next hi).2 hk x.flip
theorem rev_off {l : List Pnt} {q : Pnt} (h : offL l q) : offL l.reverse q := fun i hi x => by
  rw [List.length_reverse] at hi
  rw [(rev_edge l hi).1, (rev_edge l hi).2] at x
  exact h _ (rev_next hi).2 (onZ_flip x)
theorem rev_simple {l : List Pnt} (s : Simple l) : Simple l.reverse := by
  have n3 := s.n
  refine ⟨by rw [List.length_reverse]; exact s.n, fun i k hi hk => ?_, fun i hi => ?_, fun i k hi hk hne => ?_⟩
  · rw [List.length_reverse] at hi hk ⊢
    intro a b c x
    rw [(rev_edge l hi).1, (rev_edge l hi).2, (rev_edge l hk).1, (rev_edge l hk).2] at x
    have r1 := rev_next hi
    have r2 := rev_next hk
    have i1 := nxt_ok (l := l) hi
    have k1 := nxt_ok (l := l) hk
    refine s.far _ _ r1.2 r2.2 (fun e => ?_) (fun e => ?_) (fun e => ?_) x.sym.flip.sym.flip
    · have e2 : (i + 1) % l.length = (k + 1) % l.length := by omega
      have := r1.1
      rw [e2, r2.1] at this
      omega
    · rw [r1.1] at e
      exact c (by omega)
    · rw [r2.1] at e
      exact b (by omega)
  · rw [List.length_reverse] at hi ⊢
    have h2 := nxt_ok (l := l) hi
    have r1 := rev_next hi
    have r2 := rev_next h2
    have e2 := (rev_edge l h2).2
    rw [(rev_edge l hi).1, (rev_edge l hi).2, e2]
    obtain ⟨j, hj⟩ : ∃ j, l.length - 1 - ((i + 1) % l.length + 1) % l.length = j := ⟨_, rfl⟩
    rw [hj] at r2 ⊢
    have e3 : l.length - 1 - (i + 1) % l.length = (j + 1) % l.length := by rw [r2.1]
    have e4 : pti l (l.length - 1 - (i + 1) % l.length) = nxt l j := by unfold nxt; rw [e3]
    rw [e3, show pti l ((j + 1) % l.length) = nxt l j from rfl]
    have a := s.adj j r2.2
    exact ⟨fun x => a.2 (onZ_flip x), fun x => a.1 (onZ_flip x)⟩
  · rw [List.length_reverse] at hi hk
    rw [pti_rev l hi, pti_rev l hk]
    exact s.dis _ _ (by omega) (by omega) (by omega)
def flp (p : Pnt) : Pnt := ⟨-p.x, p.y⟩
theorem flp_hit (a b c d : Pnt) (h : Hit (flp a) (flp b) (flp c) (flp d)) : Hit a b c d := by
  obtain ⟨m, s, k, t, g1, g2, g3, g4, g5, g6, g7, g8⟩ := h
  refine ⟨m, s, k, t, g1, g2, g3, g4, g5, g6, ?_, g8⟩
  simp only [flp] at g7
  grind
theorem flp_trn (a b q : Pnt) : trn (flp a) (flp b) (flp q) = -trn a b q := by unfold trn flp; grind
theorem flp_onZ (q a b : Pnt) (h : onZ (flp q) (flp a) (flp b)) : onZ q a b := by
  obtain ⟨z, x1, x2, y1, y2⟩ := h
  rw [flp_trn] at z
  simp only [flp] at x1 x2 y1 y2
  exact ⟨by omega, by omega, by omega, y1, y2⟩
theorem kap_flp {a b q : Pnt} (h : ¬ onZ q a b) : kap (flp a) (flp b) (flp q) = -kap a b q + ((if a.y ≤ q.y then 1 else 0) - (if b.y ≤ q.y then 1 else 0)) := by
  have z := zero_on h
  unfold kap
  rw [flp_trn]
  simp only [flp]
  generalize trn a b q = t at *
  clear h
  rcases Int.lt_trichotomy t 0 with e | e | e <;> omega
theorem mov_flp : Mov (fun l => (l.map flp).reverse) flp := by
  have wf : ∀ l q, offL l q → wnd (l.map flp) (flp q) = -wnd l q := fun l q o => by
    have e := tele l fun p => if p.y ≤ q.y then 1 else 0
    unfold wnd
    rw [List.length_map, sm_congr (g := fun i => -kap (pti l i) (nxt l i) q + ((if (pti l i).y ≤ q.y then 1 else 0) - (if (nxt l i).y ≤ q.y then 1 else 0))) fun i hi => by rw [pti_map _ _ hi, nxt_map _ _ hi]; exact kap_flp (o i hi), sm_add, e, sm_neg]
    omega
  have af : ∀ l, area2 (l.map flp) = -area2 l := fun l => by
    unfold area2
    rw [List.length_map, ← sm_neg]
    refine sm_congr fun i hi => ?_
    rw [pti_map _ _ hi, nxt_map _ _ hi]
    simp only [flp]
    grind
  have sf : ∀ l, Simple l → Simple (l.map flp) := fun l s => by
    refine ⟨by rw [List.length_map]; exact s.n, fun i k hi hk => ?_, fun i hi => ?_, fun i k hi hk hne => ?_⟩
    · rw [List.length_map] at hi hk ⊢
      intro a b c x
      rw [pti_map _ _ hi, nxt_map _ _ hi, pti_map _ _ hk, nxt_map _ _ hk] at x
      exact s.far i k hi hk a b c (flp_hit _ _ _ _ x)
    · rw [List.length_map] at hi ⊢
      rw [pti_map _ _ hi, nxt_map _ _ hi, nxt_map _ _ (nxt_ok hi)]
      exact ⟨fun x => (s.adj i hi).1 (flp_onZ _ _ _ x), fun x => (s.adj i hi).2 (flp_onZ _ _ _ x)⟩
    · rw [List.length_map] at hi hk
      rw [pti_map _ _ hi, pti_map _ _ hk]
      have := s.dis i k hi hk hne
      simp only [flp]
      omega
  have of : ∀ l q, offL l q → offL (l.map flp) (flp q) := fun l q o i hi x => by
    rw [List.length_map] at hi
    rw [pti_map _ _ hi, nxt_map _ _ hi] at x
    exact o i hi (flp_onZ _ _ _ x)
  refine ⟨fun l => by rw [List.length_reverse, List.length_map], fun l s => rev_simple (sf l s), fun l => by rw [rev_area, af]; omega, fun l m a => ?_, fun l q o => rev_off (of l q o), fun l q o => by rw [rev_wnd, wf l q o]; omega, fun l i hi => ?_⟩
  · refine rev_apart (rev_apart (l := m.map flp) ?_).sym
    intro i k hi hk x
    rw [List.length_map] at hi hk
    rw [pti_map _ _ hi, nxt_map _ _ hi, pti_map _ _ hk, nxt_map _ _ hk] at x
    exact a.sym i k hi hk (flp_hit _ _ _ _ x)
  · refine ⟨l.length - 1 - i, by omega, ?_⟩
    rw [pti_rev _ (by rw [List.length_map]; exact hi), List.length_map, pti_map _ _ (by omega)]

/-! the test for common points is right both ways -/
theorem hit_of_opp {a b c d : Pnt} (h1 : opp (trn a b c) (trn a b d)) (h2 : opp (trn c d a) (trn c d b)) : Hit a b c d := by
  have e : trn c d b - trn c d a = trn a b c - trn a b d := by unfold trn; grind
  have ix : (trn a b c - trn a b d) * (a.x - c.x) = trn c d a * (b.x - a.x) + trn a b c * (d.x - c.x) := by unfold trn; grind
  have iy : (trn a b c - trn a b d) * (a.y - c.y) = trn c d a * (b.y - a.y) + trn a b c * (d.y - c.y) := by unfold trn; grind
  generalize trn a b c = u at *
  generalize trn a b d = v at *
  generalize trn c d a = p at *
  generalize trn c d b = q at *
  rcases h1 with ⟨g1, g2⟩ | ⟨g1, g2⟩ <;> rcases h2 with ⟨k1, k2⟩ | ⟨k1, k2⟩
  · exfalso; omega
  · exact ⟨v - u, p, v - u, -u, by omega, by omega, by omega, by omega, by omega, by omega, by grind, by grind⟩
  · exact ⟨u - v, -p, u - v, u, by omega, by omega, by omega, by omega, by omega, by omega, by grind, by grind⟩
  · exfalso; omega
theorem hit_of_meet {a b c d : Pnt} (h : Meet a b c d) : Hit a b c d := by
  rcases h with (h | h | h | h) | ⟨h1, h2⟩
  · exact hit_on (on_self a b) (onZ_on h)
  · exact hit_on (r := b) ⟨1, 1, by omega, by omega, by omega, by omega, by omega⟩ (onZ_on h)
  · exact hit_on (onZ_on h) (on_self c d)
  · exact hit_on (r := d) (onZ_on h) ⟨1, 1, by omega, by omega, by omega, by omega, by omega⟩
  · exact hit_of_opp h1 h2

end Go.Proofs.YtfmhickjefogdaaGreat
