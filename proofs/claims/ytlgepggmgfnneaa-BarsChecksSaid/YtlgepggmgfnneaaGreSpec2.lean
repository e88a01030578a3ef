/- First fit in decreasing order: what its bars keep, in plain Lean. -/
import Derived.Test.YtlgepggmgfnneaaGreSpec
import Derived.Test.YtlgepggmgfnneaaTab
namespace Go.Proofs.Ytlgepggmgfnneaa

theorem gi_setN {xs : List Int} {i k : Nat} {x : Int} (hi : i < xs.length) : gi (xs.set i x) k = if k = i then x else gi xs k := gi_set hi
theorem good_glI {l : List Int} {s k : Int} (hg : GoodB l s k) {i : Int} (h0 : 0 ≤ i) (h1 : i < l.length) : 1 ≤ glI l i ∧ glI l i ≤ 32768 ∧ glI l i ≤ s := by
  have := hg.side _ (gi_mem (xs := l) (k := i.toNat) (by omega))
  exact this
theorem fit_step {l : List Int} {s k : Int} {n : Nat} {st : Bars} (hg : GoodB l s k) (h : FitG l s k n st) {i : Int} (h0 : 0 ≤ i) (h1 : i < l.length) : FitG l s k (n + 1) (stepG l s k st i) := by
  have hi := good_glI hg h0 h1
  have hk := hg.kerf
  unfold stepG
  rcases findI_cases (fun n => decide (glI l i + k ≤ n)) st.2 with ⟨hf, _⟩ | ⟨t, hf, ht, hp, _⟩
  · have hf' : fitG (glI l i + k) st.2 = -1 := hf
    rw [hf', if_pos (by omega)]
    refine ⟨by simp [h.len], by simp; have := h.most; omega, fun j hj => ?_, fun j hj => ?_⟩
    · simp only [List.length_append, List.length_singleton] at hj
      by_cases e : j < st.1.length
      · rw [ri_append_left e]; have := h.rows j e; omega
      · obtain rfl : j = st.1.length := by omega
        rw [ri_append_one]; simp
    · simp only [List.length_append, List.length_singleton] at hj
      by_cases e : j < st.2.length
      · rw [gi_append_left e]; exact h.free j e
      · obtain rfl : j = st.2.length := by omega
        rw [gi_append_one]; omega
  · have hf' : fitG (glI l i + k) st.2 = (t : Int) := hf
    rw [hf', if_neg (by omega), Int.toNat_natCast]
    have ht1 : t < st.1.length := by rw [← h.len]; exact ht
    simp only [decide_eq_true_eq] at hp
    refine ⟨by simp [h.len], by simp; have := h.most; omega, fun j hj => ?_, fun j hj => ?_⟩
    · simp only [List.length_set] at hj
      rw [ri_set ht1]
      split
      · have := h.rows t ht1; simp; omega
      · have := h.rows j hj; omega
    · simp only [List.length_set] at hj
      rw [gi_setN ht]
      split
      · have := h.free t ht; omega
      · exact h.free j hj
theorem fit_plan {l : List Int} {s k : Int} (hg : GoodB l s k) : ∀ n, n ≤ l.length → FitG l s k n (planG l s k n) := by
  intro n
  induction n with
  | zero => intro _; exact ⟨rfl, Nat.le_refl _, fun i hi => by simp [planG] at hi, fun i hi => by simp [planG] at hi⟩
  | succ n ih =>
    intro hn
    rw [planG_succ]
    have := ordG_mem (gi_mem (xs := ordG l) (k := n) (by rw [ordG_length]; omega))
    exact fit_step hg (ih (by omega)) this.1 this.2
theorem stepG_new {l : List Int} {s k : Int} {st : Bars} {i : Int} (h : fitG (glI l i + k) st.2 < 0) : stepG l s k st i = (st.1 ++ [[i]], st.2 ++ [s + k - (glI l i + k)]) := if_pos h
theorem stepG_old {l : List Int} {s k : Int} {st : Bars} {i : Int} {t : Nat} (h : fitG (glI l i + k) st.2 = t) : stepG l s k st i = (st.1.set t (ri st.1 t ++ [i]), st.2.set t (gi st.2 t - (glI l i + k))) := by
  unfold stepG; rw [h, if_neg (by omega), Int.toNat_natCast]
theorem step_new_eq {l : List Int} {s k : Int} {rs : List (List Int)} {fr : List Int} {i : Int} (hl : fr.length = rs.length) (h : stepG l s k (rs, fr) i = (rs ++ [[i]], fr ++ [s + k - (glI l i + k)])) :
    stepG l s k (rs, fr) i = ((rs ++ [[]]).set rs.length (ri (rs ++ [[]]) rs.length ++ [i]), (fr ++ [s + k]).set rs.length (gi (fr ++ [s + k]) rs.length - (glI l i + k))) := by
  rw [h, ri_append_one]
  have e1 : (rs ++ [[]]).set rs.length ([] ++ [i]) = rs ++ [[i]] := by rw [List.set_append]; simp
  have e2 : gi (fr ++ [s + k]) rs.length = s + k := by rw [← hl, gi_append_one]
  have e3 : (fr ++ [s + k]).set rs.length (s + k - (glI l i + k)) = fr ++ [s + k - (glI l i + k)] := by rw [← hl, List.set_append]; simp
  rw [e1, e2, e3]
end Go.Proofs.Ytlgepggmgfnneaa
