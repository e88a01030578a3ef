/- What the laws of calendar say of sums, in plain Lean. -/
import Derived.Test.YtbjnpiaooehmjaaDoorCalSpec3
import Derived.Test.YtbjnpiaooehmjaaDoorCalDate
namespace Go.Proofs.YtbjnpiaooehmjaaDoor

def clampN (x : Int) : Nat := (min (max x 0) 1048577).toNat
def befC (sh : List Sp) (cl : List Int) (x : Int) : Int := befN sh cl (clampN x)
theorem btw_C {sh : List Sp} {cl : List Int} {f u : Int} (h : f ≤ u) : btw sh cl f u = befC sh cl u - befC sh cl f := by
  unfold btw befC clampN
  by_cases hc : min u 1048577 ≤ max f 0
  · rw [if_pos hc]
    have : (min (max u 0) 1048577).toNat = (min (max f 0) 1048577).toNat := by omega
    rw [this]; omega
  · rw [if_neg hc]
    have e1 : min (max u 0) 1048577 = min u 1048577 := by omega
    have e2 : min (max f 0) 1048577 = max f 0 := by omega
    rw [e1, e2]
theorem btw_back {sh : List Sp} {cl : List Int} {f u : Int} (h : u ≤ f) : btw sh cl f u = 0 := by
  unfold btw
  rw [if_pos (by omega)]
theorem btw_plus {sh : List Sp} {cl : List Int} {a b c : Int} (h1 : a ≤ b) (h2 : b ≤ c) : btw sh cl a b + btw sh cl b c = btw sh cl a c := by
  rw [btw_C h1, btw_C h2, btw_C (show a ≤ c by omega)]; omega
theorem befC_succ (sh : List Sp) (cl : List Int) (t : Int) : befC sh cl (t + 1) = befC sh cl t + if workB sh cl t = true then 1 else 0 := by
  unfold befC
  by_cases h : 0 ≤ t ∧ t ≤ 1048576
  · obtain ⟨n, rfl⟩ : ∃ n : Nat, t = n := ⟨t.toNat, by omega⟩
    have e1 : clampN ((n : Int) + 1) = n + 1 := by unfold clampN; omega
    have e2 : clampN (n : Int) = n := by unfold clampN; omega
    have e3 : workB sh cl (n : Int) = wk sh cl n := by
      unfold workB
      rw [show decide ((0 : Int) ≤ (n : Int)) = true by rw [decide_eq_true_eq]; omega, show decide ((n : Int) ≤ 1048576) = true by rw [decide_eq_true_eq]; omega, Int.toNat_natCast]
      simp
    rw [e1, e2, e3, bef_succ]
    split <;> omega
  · have e1 : clampN (t + 1) = clampN t := by unfold clampN; omega
    have e3 : workB sh cl t = false := by
      unfold workB
      rcases Classical.not_and_iff_not_or_not.1 h with h | h
      · rw [show decide ((0 : Int) ≤ t) = false by rw [decide_eq_false_iff_not]; exact h]; rfl
      · rw [show decide (t ≤ 1048576) = false by rw [decide_eq_false_iff_not]; exact h]; simp
    rw [e1, e3]; simp
theorem btw_succ {sh : List Sp} {cl : List Int} {f t : Int} (h : f ≤ t) : btw sh cl f (t + 1) = btw sh cl f t + if workB sh cl t = true then 1 else 0 := by
  rw [btw_C (show f ≤ t + 1 by omega), btw_C h, befC_succ]; omega
theorem befC_mono {sh : List Sp} {cl : List Int} {a b : Int} (h : a ≤ b) : befC sh cl a ≤ befC sh cl b ∧ befC sh cl b ≤ befC sh cl a + (b - a) := by
  have h2 : clampN a ≤ clampN b ∧ (clampN b : Int) ≤ clampN a + (b - a) := by unfold clampN; omega
  have h3 := cnt_mono (wk sh cl) h2.1
  have h4 := cnt_step (wk sh cl) h2.1
  unfold befC befN
  omega
theorem btw_bound {sh : List Sp} {cl : List Int} {f u : Int} : 0 ≤ btw sh cl f u ∧ (f ≤ u → btw sh cl f u ≤ u - f) ∧ btw sh cl f u ≤ 1048577 := by
  by_cases h : f ≤ u
  · rw [btw_C h]
    have := befC_mono (sh := sh) (cl := cl) h
    refine ⟨by omega, fun _ => by omega, ?_⟩
    have h1 := cnt_le (wk sh cl) (clampN u)
    have h2 : clampN u ≤ 1048577 := by unfold clampN; omega
    unfold befC befN
    omega
  · rw [btw_back (by omega)]
    exact ⟨by omega, fun g => absurd g h, by omega⟩

/-! dates -/
theorem parse_ok {l : List UInt8} (h : parseE l = 0) : dateV (parseV l) = l ∧ 0 ≤ parseV l ∧ parseV l ≤ 1048576 := by
  unfold parseE at h
  unfold parseV
  cases hp : parseP l with
  | none => rw [hp] at h; cases h
  | some t =>
    rw [hp] at h
    dsimp only at h ⊢
    by_cases ht : t ≤ 1048576
    · rw [if_pos ht]
      refine ⟨?_, by omega, by omega⟩
      unfold dateV
      rw [if_neg (by omega), Int.toNat_natCast]; exact date_parse hp
    · rw [if_neg ht] at h; cases h
theorem parse_dateV {t : Int} (h : 0 ≤ t ∧ t ≤ 1048576) : parseV (dateV t) = t ∧ parseE (dateV t) = 0 := by
  unfold dateV
  rw [if_neg (by omega)]
  have hp := parse_date (t := t.toNat) (by omega)
  unfold parseV parseE
  rw [hp]
  dsimp only
  rw [if_pos (by omega), if_pos (by omega)]
  exact ⟨by omega, rfl⟩
theorem parse_dateN {t : Int} (h : ¬ (0 ≤ t ∧ t ≤ 1048576)) : parseV (dateV t) = 0 ∧ parseE (dateV t) = 5 := by
  unfold dateV
  rw [if_pos (by omega)]
  exact ⟨rfl, rfl⟩
theorem dateV_len (t : Int) : (dateV t).length ≤ 100 := by
  unfold dateV
  split
  · simp
  · rename_i h
    unfold dateL
    have : ∀ k n : Nat, n < 10 ^ k → 1 ≤ k → (Lib.decDigits n).length ≤ k := by
      intro k
      induction k with
      | zero => intro n _ h; omega
      | succ k ih =>
        intro n hn _
        rw [dec_succ]
        split
        · simp
        · rename_i h10
          have hk : 1 ≤ k := by
            rcases Nat.eq_zero_or_pos k with e | e
            · subst e; simp at hn; omega
            · exact e
          have := ih (n / 10) (by rw [Nat.pow_succ] at hn; omega) hk
          simp; omega
    have := this 8 (t.toNat / 168) (by omega) (by omega)
    simp; omega

/-! adding -/
theorem add_err {sh : List Sp} {cl : List Int} {s : Nat} {h : Int} (hs : s ≤ 1048576) (hh : 0 ≤ h) : (addO sh cl s h = none ∧ addCE sh cl s h = 15 ∧ addCV sh cl s h = 0) ∨ ∃ t, addO sh cl s h = some t ∧ addCE sh cl s h = 0 ∧ addCV sh cl s h = t := by
  unfold addCE addCV
  rw [if_neg (by omega), if_neg (by omega), Int.toNat_natCast]
  cases addO sh cl s h with
  | none => exact .inl ⟨rfl, rfl, rfl⟩
  | some t => exact .inr ⟨t, rfl, rfl, rfl⟩
theorem next_err {sh : List Sp} {cl : List Int} {s : Nat} (hs : s ≤ 1048576) : (nextO sh cl s = none ∧ nextE sh cl s = 8 ∧ nextV sh cl s = 0) ∨ ∃ t, nextO sh cl s = some t ∧ nextE sh cl s = 0 ∧ nextV sh cl s = t := by
  unfold nextE nextV
  rw [if_neg (by omega), if_neg (by omega), Int.toNat_natCast]
  cases nextO sh cl s with
  | none => exact .inl ⟨rfl, rfl, rfl⟩
  | some t => exact .inr ⟨t, rfl, rfl, rfl⟩
theorem workB_at {sh : List Sp} {cl : List Int} {t : Nat} (h : t ≤ 1048576) : workB sh cl t = wk sh cl t := by
  unfold workB
  rw [show decide ((0 : Int) ≤ (t : Int)) = true by rw [decide_eq_true_eq]; omega, show decide ((t : Int) ≤ 1048576) = true by rw [decide_eq_true_eq]; omega, Int.toNat_natCast]
  simp
theorem workB_out {sh : List Sp} {cl : List Int} {t : Int} (h : t < 0 ∨ 1048576 < t) : workB sh cl t = false := by
  unfold workB
  rcases h with h | h
  · rw [show decide ((0 : Int) ≤ t) = false by rw [decide_eq_false_iff_not]; omega]; rfl
  · rw [show decide (t ≤ 1048576) = false by rw [decide_eq_false_iff_not]; omega]; simp
/-- no next hour -/
theorem next_no {sh : List Sp} {cl : List Int} {s x : Nat} (hs : s ≤ 1048576) (hx : s ≤ x) (e : nextO sh cl s = none) : workB sh cl x = false ∧ btw sh cl s 1048577 = 0 := by
  have key := firstN_none e
  constructor
  · by_cases h : x ≤ 1048576
    · rw [workB_at h]; exact key x hx (by omega)
    · exact workB_out (.inr (by omega))
  · have := btw_at (sh := sh) (cl := cl) (s := s) (t := 1048577) (by omega) (by omega)
    rw [show ((1048577 : Nat) : Int) = 1048577 from rfl] at this
    rw [this, bef_same (s := s) (t := 1048577) (by omega) fun j h1 h2 => key j h1 (by omega)]
    omega
theorem next_yes {sh : List Sp} {cl : List Int} {s t x : Nat} (hs : s ≤ 1048576) (hx : s ≤ x) (e : nextO sh cl s = some t) : s ≤ t ∧ t ≤ 1048576 ∧ workB sh cl t = true ∧ btw sh cl s t = 0 ∧ (x < t → workB sh cl x = false) := by
  obtain ⟨h1, h2, h3, h4⟩ := firstN_some e
  refine ⟨h1, by omega, by rw [workB_at (by omega)]; exact h3, ?_, fun h => ?_⟩
  · rw [btw_at h1 (by omega), bef_same h1 h4]; omega
  · rw [workB_at (by omega)]; exact h4 x hx h
/-- the week -/
theorem fW_shift (sh : List Sp) (t k : Nat) : fW sh (t + 168 * k) = fW sh t := by unfold fW; rw [Nat.add_mul_mod_self_left]
theorem wk_open (sh : List Sp) (t : Nat) : wk sh [] t = fW sh t := by unfold wk clD; simp
theorem wk_weeks {sh : List Sp} {cl : List Int} {t k : Nat} (h : t ≤ 1048576) : workB sh cl t = (workB sh [] t && !clD cl (t / 24)) ∧ (t + 168 * k ≤ 1048576 → workB sh [] (t + 168 * k : Nat) = workB sh [] t) := by
  rw [workB_at h, workB_at h, wk_open]
  refine ⟨rfl, fun h2 => ?_⟩
  rw [workB_at h2, wk_open, fW_shift]
theorem newE_open {sh : List Sp} {cl : List Int} (h : newE sh cl = 0) : newE sh [] = 0 := by
  obtain ⟨h1, h2, _, _, _⟩ := newE_ok h
  unfold newE at h ⊢
  rw [if_neg (by omega)] at h ⊢
  by_cases h3 : 21 < sh.length ∨ 400 < cl.length
  · rw [if_pos h3] at h; cases h
  · rw [if_neg h3] at h
    rw [if_neg (by simp; omega)]
    by_cases h4 : shE 0 sh ≠ 0
    · rw [if_pos h4] at h; exact absurd h h4
    · rw [if_neg h4]; rfl
end Go.Proofs.YtbjnpiaooehmjaaDoor
