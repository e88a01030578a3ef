/- The laws FlowTwo, FlowOptimal. -/
import Derived.Test.YtijapbfkpmphpaaLawA
import Derived.Test.YtijapbfkpmphpaaOptSpec
import Derived.Test.YtijapbfkpmphpaaTwoSpec
namespace Go.Proofs.Ytijapbfkpmphpaa
open Go.RowKit

theorem st0_left : (st0 100000).left = 100000 := rfl
/-- what the search with all steps finds -/
theorem best_spec {p : List (List Int)} (hg : Good p) (h6 : p.length ≤ 6) : ∃ st, bestS p 100000 = some st ∧ Whole p st.order ∧ lenV p st.order = st.span ∧
    ∀ l, Whole p l → st.span < lenV p l ∨ (st.span = lenV p l ∧ (st.order = l ∨ LexLt st.order l)) := by
  obtain ⟨st, hs, _⟩ := expl_enough (p := p) p.length (st0 100000) [] (by simp) (rightB_nil _) (by rw [st0_left]; exact nodes_le h6)
  have hso : Sound p (st0 100000) := fun h => by simp [st0] at h
  have hah : Ahead (st0 100000) [] := fun h => by simp [st0] at h
  have S : Step p [] (st0 100000) st := by
    by_cases e : p.length = 0
    · have hs' := hs
      rw [e, expl_zero] at hs'
      cases hs'
      exact leaf_step hso ⟨rightB_nil _, by simp [e]⟩ hah
    · exact expl_step hg (by omega) p.length _ [] st (by simp) (rightB_nil _) hso hah hs
  have hf := S.sound S.found
  exact ⟨st, hs, hf.1, hf.2, fun l hl => (S.good l ⟨hl, by simp⟩).2⟩
theorem finishE_whole {p : List (List Int)} {l : List Int} (hc : checkE p = 0) (h : Whole p l) : finishE p l = 0 := by simp [finishE, hc, h.1, h.2]
theorem spanV_whole {p : List (List Int)} {l : List Int} (hc : checkE p = 0) (h : Whole p l) : spanV p l = lenV p l := by simp [spanV, finishE_whole hc h, lenV]
theorem johnE_zero {p : List (List Int)} (h : johnE p = 0) : checkE p = 0 ∧ (0 < p.length → (ri p 0).length = 2) ∧ johnL p = selJ p p.length := by
  have hc : checkE p = 0 := by
    apply Decidable.byContradiction; intro hc
    rw [(johnE_bad hc).1] at h; exact hc h
  have h2 : 0 < p.length → (ri p 0).length = 2 := fun hp => by
    apply Decidable.byContradiction; intro h2
    rw [(johnE_shape hc hp h2).1] at h; cases h
  exact ⟨hc, h2, (johnE_good hc h2).2⟩
theorem johnL_bad {p : List (List Int)} (h : johnE p ≠ 0) : johnL p = [] := by simp [johnL, h]
theorem SI_form {w : World} {v : Value} {xs : List Int} (h : SI w v xs) : ∃ a c, v = .slice a xs.length c := by obtain ⟨a, c, e, _⟩ := h; exact ⟨a, c, e⟩
theorem light_len {p : List (List Int)} {m : Int} (h : lightB p m = true) : (p.length : Int) ≤ m := by simp only [lightB, Bool.and_eq_true, decide_eq_true_eq] at h; exact h.2

set_option maxHeartbeats 1000000 in
theorem two_law (v : Value) (p : List (List Int)) (w : World) (h : SS w v p) : Calls Try.prog 9 #[v] w (Law w) := by
  have H := Lib.hid h
  clear h
  go_enter Try.func9, Try.ntmps9
  go_wp2_with fail
  refine (light_any _ p 6 _ H.out).mono ?_
  rintro e w1 ⟨rfl, m1, rfl⟩
  cases hl : lightB p 6
  · go_wp2_with fail
    refine (awake_any _).mono ?_
    rintro e w2 ⟨rfl, hb⟩
    go_wp2_with fail
    go_ret
    exact law_of rfl (below_drewN' (Below.refl _ _) _) hb
  have h6 := light_len hl
  have h6' : p.length ≤ 6 := by omega
  clear hl h6
  go_wp2_with fail
  refine (Johnson_any _ p _ (H.out.drewN _) (stableOK_small (by omega))).mono ?_
  rintro e w2 ⟨r1, rfl, hs, hb⟩
  have HB2 := Lib.hid (ext_trans (below_drewN' (Below.refl w.heap.size w) m1) hb)
  have HS2 := Lib.hid hs
  clear hb hs
  by_cases hj : johnE p = 0
  · have hjb : (johnE p != 0) = false := by simpa using hj
    obtain ⟨hc, h2, hjl⟩ := johnE_zero hj
    have hg := checkE_zero hc
    have hwj : Whole p (johnL p) := by rw [hjl]; exact ⟨john_right.1, selJ_length _ _⟩
    obtain ⟨st, hs, hw, hsp, hbest⟩ := best_spec hg h6'
    have e1 : (finishE p (johnL p) == 0) = true := by rw [finishE_whole hc hwj]; rfl
    have e2 : (bestE p 100000 == 0) = true := by rw [(best_some hc hs).1]; rfl
    have e3 : (spanV p (johnL p) == bestN p 100000) = true := by
      rw [spanV_whole hc hwj, (best_some hc hs).2.2, beq_iff_eq]
      have a1 := john_le hg h2 hw.1 hw.2
      have a2 := hbest _ hwj
      rw [← hjl] at a1
      omega
    clear hj hc h2 hjl hg hwj hs hw hsp hbest
    go_wp2_with fail
    refine (Makespan_any _ _ p (johnL p) _ (H.out.keep HB2.out) HS2.out).mono ?_
    rintro e w3 ⟨rfl, hb⟩
    have HB3 := Lib.hid (ext_trans HB2.out hb)
    clear hb
    go_wp2_with fail
    refine (Best_any _ p 100000 _ (H.out.keep HB3.out)).mono ?_
    rintro e w4 ⟨r4, rfl, hs, hb⟩
    have HB4 := Lib.hid (ext_trans HB3.out hb)
    clear hb hs
    go_wp2_with fail
    refine (awake_any _).mono ?_
    rintro e w7 ⟨rfl, hb⟩
    go_wp2_with fail
    go_ret
    exact law_of rfl HB4.out hb
  · have hjb : (johnE p != 0) = true := by simpa using hj
    obtain ⟨a, c, rfl⟩ := SI_form HS2.out
    have hl0 : (johnL p).length = 0 := by rw [johnL_bad hj]; rfl
    rw [hl0]
    clear hj hl0
    go_wp2_with fail
    refine (awake_any _).mono ?_
    rintro e w7 ⟨rfl, hb⟩
    go_wp2_with fail
    go_ret
    exact law_of rfl HB2.out hb
end Go.Proofs.Ytijapbfkpmphpaa
