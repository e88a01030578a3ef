/- The laws FlowBests, FlowJohnson. -/
import Derived.Test.YtijapbfkpmphpaaLawA
namespace Go.Proofs.Ytijapbfkpmphpaa
open Go.RowKit

set_option maxHeartbeats 1000000 in
theorem bests_rest (v : Value) (p : List (List Int)) (s : Int) (w : World) (h : SS w v p) (c : Bool) (hc : c = lightB p 40)
    (hb : (decide (60 < s) && decide ((6 : Int) < p.length) && decide ((p.length : Int) ≤ 32)) = false ∨ c = false) : Calls Try.prog 6 #[v, .int .i64 s] w (Law w) := by
  have H := Lib.hid h
  obtain ⟨vs, ⟨a, cap, rfl, h1, h2, h3⟩, h4⟩ := h
  clear h3 h4
  go_enter Try.func6, Try.ntmps6
  go_wp2_with fail
  refine (light_any _ p 40 _ H.out).mono ?_
  rintro e w1 ⟨rfl, m1, rfl⟩
  rw [← hc]
  clear hc
  cases c
  · clear hb
    go_wp2_with fail
    refine (awake_any _).mono ?_
    rintro e w2 ⟨rfl, hb⟩
    go_wp2_with fail
    go_ret
    exact law_of rfl (below_drewN' (Below.refl _ _) _) hb
  have hb : (decide (60 < s) && decide ((6 : Int) < p.length) && decide ((p.length : Int) ≤ 32)) = false := by rcases hb with hb | hb; exact hb; cases hb
  cases c1 : decide (60 < s)
  · go_wp2_with fail
    refine (Best_any _ p s _ (H.out.drewN _)).mono ?_
    rintro e w2 ⟨r1, rfl, hs, hb⟩
    have HB2 := Lib.hid (ext_trans (below_drewN' (Below.refl w.heap.size w) m1) hb)
    have HS2 := Lib.hid hs
    clear hb hs
    go_wp2_with fail
    refine (rBest_any _ p s _ (H.out.keep HB2.out)).mono ?_
    rintro e w3 ⟨r2, rfl, hs, hb⟩
    have HB3 := Lib.hid (ext_trans HB2.out hb)
    have HS3 := Lib.hid (HS2.out.keep hb)
    have HT3 := Lib.hid hs
    clear hb hs
    go_wp2_with fail
    refine (same_any _ _ _ _ _ HS3.out HT3.out).mono ?_
    rintro e w6 ⟨rfl, m6, rfl⟩
    rw [decide_eq_true rfl]
    have e1 : (bestN p s == bestN p s) = true := by rw [beq_iff_eq]
    have e2 : (bestE p s == bestE p s) = true := by rw [beq_iff_eq]
    go_wp2_with fail
    refine (awake_any _).mono ?_
    rintro e w7 ⟨rfl, hb⟩
    go_wp2_with fail
    go_ret
    exact law_of rfl (below_drewN' HB3.out _) hb
  · cases c2 : decide ((6 : Int) < p.length)
    · go_wp2_with fail
      refine (Best_any _ p s _ (H.out.drewN _)).mono ?_
      rintro e w2 ⟨r1, rfl, hs, hb⟩
      have HB2 := Lib.hid (ext_trans (below_drewN' (Below.refl w.heap.size w) m1) hb)
      have HS2 := Lib.hid hs
      clear hb hs
      go_wp2_with fail
      refine (rBest_any _ p s _ (H.out.keep HB2.out)).mono ?_
      rintro e w3 ⟨r2, rfl, hs, hb⟩
      have HB3 := Lib.hid (ext_trans HB2.out hb)
      have HS3 := Lib.hid (HS2.out.keep hb)
      have HT3 := Lib.hid hs
      clear hb hs
      go_wp2_with fail
      refine (same_any _ _ _ _ _ HS3.out HT3.out).mono ?_
      rintro e w6 ⟨rfl, m6, rfl⟩
      rw [decide_eq_true rfl]
      have e1 : (bestN p s == bestN p s) = true := by rw [beq_iff_eq]
      have e2 : (bestE p s == bestE p s) = true := by rw [beq_iff_eq]
      go_wp2_with fail
      refine (awake_any _).mono ?_
      rintro e w7 ⟨rfl, hb⟩
      go_wp2_with fail
      go_ret
      exact law_of rfl (below_drewN' HB3.out _) hb
    · have c3 : decide ((p.length : Int) ≤ 32) = false := by rw [c1, c2] at hb; simpa using hb
      go_wp2_with fail
      refine (Best_any _ p s _ (H.out.drewN _)).mono ?_
      rintro e w2 ⟨r1, rfl, hs, hb⟩
      have HB2 := Lib.hid (ext_trans (below_drewN' (Below.refl w.heap.size w) m1) hb)
      have HS2 := Lib.hid hs
      clear hb hs
      go_wp2_with fail
      refine (rBest_any _ p s _ (H.out.keep HB2.out)).mono ?_
      rintro e w3 ⟨r2, rfl, hs, hb⟩
      have HB3 := Lib.hid (ext_trans HB2.out hb)
      have HS3 := Lib.hid (HS2.out.keep hb)
      have HT3 := Lib.hid hs
      clear hb hs
      go_wp2_with fail
      refine (same_any _ _ _ _ _ HS3.out HT3.out).mono ?_
      rintro e w6 ⟨rfl, m6, rfl⟩
      rw [decide_eq_true rfl]
      have e1 : (bestN p s == bestN p s) = true := by rw [beq_iff_eq]
      have e2 : (bestE p s == bestE p s) = true := by rw [beq_iff_eq]
      go_wp2_with fail
      refine (awake_any _).mono ?_
      rintro e w7 ⟨rfl, hb⟩
      go_wp2_with fail
      go_ret
      exact law_of rfl (below_drewN' HB3.out _) hb

set_option maxHeartbeats 1000000 in
theorem bests_skip (v : Value) (p : List (List Int)) (s : Int) (w : World) (h : SS w v p)
    (hb : (decide (60 < s) && decide ((6 : Int) < p.length) && decide ((p.length : Int) ≤ 32)) = true) : Calls Try.prog 6 #[v, .int .i64 s] w (Law w) := by
  have H := Lib.hid h
  obtain ⟨vs, ⟨a, cap, rfl, h1, h2, h3⟩, h4⟩ := h
  clear h3 h4
  simp only [Bool.and_eq_true] at hb
  obtain ⟨⟨c1, c2⟩, c3⟩ := hb
  go_enter Try.func6, Try.ntmps6
  go_wp2_with fail
  refine (light_any _ p 40 _ H.out).mono ?_
  rintro e w1 ⟨rfl, m1, rfl⟩
  cases lightB p 40
  all_goals
    go_wp2_with fail
    refine (awake_any _).mono ?_
    rintro e w2 ⟨rfl, hb⟩
    go_wp2_with fail
    go_ret
    exact law_of rfl (below_drewN' (Below.refl _ _) _) hb

theorem bests_law (v : Value) (p : List (List Int)) (s : Int) (w : World) (h : SS w v p) : Calls Try.prog 6 #[v, .int .i64 s] w (Law w) := by
  cases hb : (decide (60 < s) && decide ((6 : Int) < p.length) && decide ((p.length : Int) ≤ 32))
  · exact bests_rest v p s w h _ rfl (.inl hb)
  · exact bests_skip v p s w h hb

set_option maxHeartbeats 1000000 in
/-- FlowJohnson, if the sort does what it says at that length -/
theorem johnson_law (hst : ∀ n, n ≤ 40 → StableOK n) (v : Value) (p : List (List Int)) (w : World) (h : SS w v p) : Calls Try.prog 5 #[v] w (Law w) := by
  have H := Lib.hid h
  have HST := Lib.hid hst
  clear h hst
  go_enter Try.func5, Try.ntmps5
  go_wp2_with fail
  refine (light_any _ p 40 _ H.out).mono ?_
  rintro e w1 ⟨rfl, m1, rfl⟩
  cases hl : lightB p 40
  · go_wp2_with fail
    refine (awake_any _).mono ?_
    rintro e w2 ⟨rfl, hb⟩
    go_wp2_with fail
    go_ret
    exact law_of rfl (below_drewN' (Below.refl _ _) _) hb
  have hp40 : p.length ≤ 40 := by
    simp only [lightB, Bool.and_eq_true, decide_eq_true_eq] at hl
    omega
  have HS0 := Lib.hid (HST.out p.length hp40)
  clear hl
  go_wp2_with fail
  refine (Johnson_any _ p _ (H.out.drewN _) HS0.out).mono ?_
  rintro e w2 ⟨r1, rfl, hs, hb⟩
  have HB2 := Lib.hid (ext_trans (below_drewN' (Below.refl w.heap.size w) m1) hb)
  have HS2 := Lib.hid hs
  clear hb hs
  go_wp2_with fail
  refine (rJohnson_any _ p _ (H.out.keep HB2.out)).mono ?_
  rintro e w3 ⟨r2, rfl, hs, hb⟩
  have HB3 := Lib.hid (ext_trans HB2.out hb)
  have HS3 := Lib.hid (HS2.out.keep hb)
  have HT3 := Lib.hid hs
  clear hb hs
  go_wp2_with fail
  refine (same_any _ _ _ _ _ HS3.out HT3.out).mono ?_
  rintro e w6 ⟨rfl, m6, rfl⟩
  rw [decide_eq_true rfl]
  have e2 : (johnE p == johnE p) = true := by rw [beq_iff_eq]
  go_wp2_with fail
  refine (awake_any _).mono ?_
  rintro e w7 ⟨rfl, hb⟩
  go_wp2_with fail
  go_ret
  exact law_of rfl (below_drewN' HB3.out _) hb
end Go.Proofs.Ytijapbfkpmphpaa
