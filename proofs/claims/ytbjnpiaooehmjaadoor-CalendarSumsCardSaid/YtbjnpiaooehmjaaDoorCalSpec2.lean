/- Counting between two times, the next working hour, adding hours; in plain Lean. -/
import Derived.Test.YtbjnpiaooehmjaaDoorCalSpec
namespace Go.Proofs.YtbjnpiaooehmjaaDoor

def workB (sh : List Sp) (cl : List Int) (at_ : Int) : Bool := decide (0 ≤ at_) && decide (at_ ≤ 1048576) && wk sh cl at_.toNat
/-- the working hours before t -/
def befN (sh : List Sp) (cl : List Int) (t : Nat) : Nat := cnt (wk sh cl) t
def btw (sh : List Sp) (cl : List Int) (f u : Int) : Int := if min u 1048577 ≤ max f 0 then 0 else (befN sh cl (min u 1048577).toNat : Int) - befN sh cl (max f 0).toNat
/-- the first hour from s on, before t -/
def firstN (f : Nat → Bool) (s : Nat) : Nat → Option Nat
  | 0 => none
  | n + 1 => if f s then some s else firstN f (s + 1) n
theorem firstN_some {f : Nat → Bool} : ∀ {n s i : Nat}, firstN f s n = some i → s ≤ i ∧ i < s + n ∧ f i = true ∧ ∀ j, s ≤ j → j < i → f j = false := by
  intro n
  induction n with
  | zero => intro s i h; cases h
  | succ n ih =>
    intro s i h
    unfold firstN at h
    cases hf : f s
    · rw [hf, if_neg (by simp)] at h
      obtain ⟨h1, h2, h3, h4⟩ := ih h
      refine ⟨by omega, by omega, h3, fun j hj hji => ?_⟩
      by_cases e : j = s
      · subst e; exact hf
      · exact h4 j (by omega) hji
    · rw [hf, if_pos rfl] at h
      obtain rfl := Option.some.inj h
      exact ⟨Nat.le_refl _, by omega, hf, fun j h1 h2 => by omega⟩
theorem firstN_none {f : Nat → Bool} : ∀ {n s : Nat}, firstN f s n = none → ∀ j, s ≤ j → j < s + n → f j = false := by
  intro n
  induction n with
  | zero => intro s _ j h1 h2; omega
  | succ n ih =>
    intro s h j h1 h2
    unfold firstN at h
    cases hf : f s
    · rw [hf, if_neg (by simp)] at h
      by_cases e : j = s
      · subst e; exact hf
      · exact ih h j (by omega) (by omega)
    · rw [hf, if_pos rfl] at h; cases h
theorem firstN_at {f : Nat → Bool} {n s i : Nat} (h1 : s ≤ i) (h2 : i < s + n) (h3 : f i = true) (h4 : ∀ j, s ≤ j → j < i → f j = false) : firstN f s n = some i := by
  cases h : firstN f s n with
  | none => have := firstN_none h i h1 h2; rw [h3] at this; cases this
  | some k =>
    obtain ⟨g1, g2, g3, g4⟩ := firstN_some h
    by_cases e : k = i
    · rw [e]
    · by_cases e2 : k < i
      · rw [h4 k g1 e2] at g3; cases g3
      · rw [g4 i h1 (by omega)] at h3; cases h3
theorem firstN_no {f : Nat → Bool} {n s : Nat} (h : ∀ j, s ≤ j → j < s + n → f j = false) : firstN f s n = none := by
  cases hf : firstN f s n with
  | none => rfl
  | some k => obtain ⟨g1, g2, g3, _⟩ := firstN_some hf; rw [h k g1 g2] at g3; cases g3
/-- the next working hour of a time -/
def nextO (sh : List Sp) (cl : List Int) (at_ : Nat) : Option Nat := firstN (wk sh cl) at_ (1048577 - at_)
def nextE (sh : List Sp) (cl : List Int) (at_ : Int) : Int := if at_ < 0 ∨ 1048576 < at_ then 9 else match nextO sh cl at_.toNat with
  | some _ => 0
  | none => 8
def nextV (sh : List Sp) (cl : List Int) (at_ : Int) : Int := if at_ < 0 ∨ 1048576 < at_ then 0 else match nextO sh cl at_.toNat with
  | some t => t
  | none => 0
/-- the least time behind which so many hours have passed -/
def addO (sh : List Sp) (cl : List Int) (at_ : Nat) (h : Int) : Option Nat := firstN (fun t => decide (h ≤ (befN sh cl t : Int) - befN sh cl at_)) at_ (1048577 - at_)
def addCE (sh : List Sp) (cl : List Int) (at_ h : Int) : Int := if at_ < 0 ∨ 1048576 < at_ ∨ h < 0 then 9 else match addO sh cl at_.toNat h with
  | some _ => 0
  | none => 15
def addCV (sh : List Sp) (cl : List Int) (at_ h : Int) : Int := if at_ < 0 ∨ 1048576 < at_ ∨ h < 0 then 0 else match addO sh cl at_.toNat h with
  | some t => t
  | none => 0
theorem btw_at {sh : List Sp} {cl : List Int} {s t : Nat} (h : s ≤ t) (ht : t ≤ 1048577) : btw sh cl s t = (befN sh cl t : Int) - befN sh cl s := by
  unfold btw
  by_cases e : s = t
  · subst e; rw [if_pos (by omega)]; omega
  · rw [if_neg (by omega), show (min (t : Int) 1048577).toNat = t by omega, show (max (s : Int) 0).toNat = s by omega]
/-- too many hours -/
theorem addO_none {sh : List Sp} {cl : List Int} {s : Nat} {h : Int} (hs : s ≤ 1048576) : addO sh cl s h = none ↔ btw sh cl s 1048576 < h := by
  have e := btw_at (sh := sh) (cl := cl) (show s ≤ 1048576 from hs) (by omega)
  rw [show ((1048576 : Nat) : Int) = 1048576 from rfl] at e
  rw [e]
  constructor
  · intro h0
    have := firstN_none h0 1048576 hs (by omega)
    rw [decide_eq_false_iff_not] at this
    omega
  · intro h0
    refine firstN_no fun j h1 h2 => ?_
    rw [decide_eq_false_iff_not]
    have := cnt_mono (wk sh cl) (show j ≤ 1048576 by omega)
    unfold befN at *
    omega
theorem addO_zero {sh : List Sp} {cl : List Int} {s : Nat} (hs : s ≤ 1048576) : addO sh cl s 0 = some s := by
  refine firstN_at (Nat.le_refl _) (by omega) ?_ fun j h1 h2 => by omega
  rw [decide_eq_true_eq]; omega
/-- what Add returns is reached exactly, behind a working hour -/
theorem addO_some {sh : List Sp} {cl : List Int} {s t : Nat} {h : Int} (hh : 0 ≤ h) (e : addO sh cl s h = some t) : s ≤ t ∧ t ≤ 1048576 ∧ (befN sh cl t : Int) - befN sh cl s = h ∧ (0 < h → s < t ∧ wk sh cl (t - 1) = true) := by
  obtain ⟨h1, h2, h3, h4⟩ := firstN_some e
  rw [decide_eq_true_eq] at h3
  have key : (befN sh cl t : Int) - befN sh cl s = h ∧ (0 < h → s < t ∧ wk sh cl (t - 1) = true) := by
    by_cases hst : s = t
    · subst hst; exact ⟨by omega, fun h => by omega⟩
    · have := h4 (t - 1) (by omega) (by omega)
      rw [decide_eq_false_iff_not] at this
      have es : befN sh cl t = befN sh cl (t - 1) + if wk sh cl (t - 1) then 1 else 0 := by
        unfold befN
        obtain ⟨k, rfl⟩ : ∃ k, t = k + 1 := ⟨t - 1, by omega⟩
        rw [Nat.add_sub_cancel, cnt]
      cases hw : wk sh cl (t - 1)
      · rw [hw, if_neg (by simp)] at es; omega
      · rw [hw, if_pos rfl] at es; exact ⟨by omega, fun _ => ⟨by omega, rfl⟩⟩
  exact ⟨h1, by omega, key⟩
theorem addO_at {sh : List Sp} {cl : List Int} {s t : Nat} {h : Int} (h1 : s ≤ t) (h2 : t ≤ 1048576) (h3 : h ≤ (befN sh cl t : Int) - befN sh cl s) (h4 : s = t ∨ (befN sh cl (t - 1) : Int) - befN sh cl s < h) : addO sh cl s h = some t := by
  refine firstN_at h1 (by omega) (by rw [decide_eq_true_eq]; exact h3) fun j g1 g2 => ?_
  rw [decide_eq_false_iff_not]
  have := cnt_mono (wk sh cl) (show j ≤ t - 1 by omega)
  unfold befN at *
  omega
/-- adding twice -/
theorem addO_twice {sh : List Sp} {cl : List Int} {s t : Nat} {a b : Int} (ha : 0 ≤ a) (hb : 0 ≤ b) (e : addO sh cl s a = some t) : addO sh cl t b = addO sh cl s (a + b) := by
  obtain ⟨h1, h2, h3, h4⟩ := addO_some ha e
  cases e2 : addO sh cl s (a + b) with
  | none =>
    rw [addO_none (by omega)] at e2 ⊢
    have g1 := btw_at (sh := sh) (cl := cl) (show s ≤ 1048576 by omega) (by omega)
    have g2 := btw_at (sh := sh) (cl := cl) (show t ≤ 1048576 by omega) (by omega)
    rw [show ((1048576 : Nat) : Int) = 1048576 from rfl] at g1 g2
    omega
  | some u =>
    obtain ⟨k1, k2, k3, k4⟩ := addO_some (by omega) e2
    by_cases hb0 : b = 0
    · subst hb0
      rw [Int.add_zero, e] at e2
      obtain rfl := Option.some.inj e2
      exact addO_zero k2
    · have hut : t ≤ u := by
        by_cases g : t ≤ u
        · exact g
        · have := cnt_mono (wk sh cl) (show u ≤ t by omega)
          unfold befN at *
          omega
      have hne : t ≠ u := by rintro rfl; omega
      have es : befN sh cl u = befN sh cl (u - 1) + if wk sh cl (u - 1) then 1 else 0 := by
        unfold befN
        obtain ⟨k, rfl⟩ : ∃ k, u = k + 1 := ⟨u - 1, by omega⟩
        rw [Nat.add_sub_cancel, cnt]
      rw [(k4 (by omega)).2, if_pos rfl] at es
      exact addO_at hut k2 (by omega) (.inr (by omega))
/-- the next working hour and one hour added -/
theorem next_add {sh : List Sp} {cl : List Int} {s t : Nat} (hs : s ≤ 1048576) (e : nextO sh cl s = some t) : (t = 1048576 → addO sh cl s 1 = none) ∧ (t < 1048576 → addO sh cl s 1 = some (t + 1)) := by
  obtain ⟨h1, h2, h3, h4⟩ := firstN_some e
  have hz : befN sh cl t = befN sh cl s := by
    by_cases g : cnt (wk sh cl) s < cnt (wk sh cl) t
    · obtain ⟨i, g1, g2, g3, _⟩ := cnt_lt g
      rw [h4 i g1 g2] at g3; cases g3
    · have := cnt_mono (wk sh cl) h1; unfold befN; omega
  have hn : befN sh cl (t + 1) = befN sh cl s + 1 := by unfold befN at *; rw [cnt, h3, if_pos rfl, hz]
  constructor
  · intro ht
    rw [addO_none hs]
    have := btw_at (sh := sh) (cl := cl) hs (by omega)
    rw [show ((1048576 : Nat) : Int) = 1048576 from rfl] at this
    rw [this, ← ht, hz]; omega
  · intro ht
    refine addO_at (by omega) (by omega) (by omega) (.inr ?_)
    rw [Nat.add_sub_cancel]; omega
/-- no working hour up to t -/
theorem bef_same {sh : List Sp} {cl : List Int} {s t : Nat} (h : s ≤ t) (hn : ∀ j, s ≤ j → j < t → wk sh cl j = false) : befN sh cl t = befN sh cl s := by
  by_cases g : cnt (wk sh cl) s < cnt (wk sh cl) t
  · obtain ⟨i, g1, g2, g3, _⟩ := cnt_lt g
    rw [hn i g1 g2] at g3; cases g3
  · have := cnt_mono (wk sh cl) h; unfold befN; omega
end Go.Proofs.YtbjnpiaooehmjaaDoor
