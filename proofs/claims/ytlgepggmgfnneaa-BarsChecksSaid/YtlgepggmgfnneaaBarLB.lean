/- The laws BarsBounds, BarsGreedy, BarsBest. -/
import Derived.Test.YtlgepggmgfnneaaBarLA
namespace Go.Proofs.Ytlgepggmgfnneaa
open Go.RowKit

/-- The law holds at these arguments: it returns true and keeps what was there. -/
def Law (w : World) (e : Ending) (w' : World) : Prop := e = .returned (.bool true) ∧ Below w.heap.size w w'
theorem law_of {w w1 : World} {e : Ending} {w' : World} (h : e = .returned (.bool true)) (h1 : Below w.heap.size w w1) (h2 : Below w1.heap.size w1 w') : Law w e w' := ⟨h, ext_trans h1 h2⟩

set_option maxRecDepth 100000 in
set_option maxHeartbeats 4000000 in
theorem bounds_law (v : Value) (l : List Int) (s k : Int) (w : World) (h : SI w v l) : Calls Try.prog 4 #[v, .int .i64 s, .int .i64 k] w (Law w) := by
  have H := Lib.hid h
  obtain ⟨a, cap, rfl, h1, h2, h3⟩ := h
  clear h3
  have hm : l.length ≤ 9223372036854775807 := by unfold maxLen at h2; omega
  by_cases hl : 300 < l.length
  · have hlb : decide ((300 : Int) < l.length) = true := by rw [decide_eq_true_eq]; omega
    go_enter Try.func4, Try.ntmps4
    go_wp2_with fail
    refine (awake_any _).mono ?_
    rintro e w2 ⟨rfl, hb⟩
    go_wp2_with fail
    go_ret
    exact ⟨rfl, hb⟩
  have hlb : decide ((300 : Int) < l.length) = false := by rw [decide_eq_false_iff_not]; omega
  go_enter Try.func4, Try.ntmps4
  go_wp2_with fail
  refine (Bound_any _ l s k _ H.out).mono ?_
  rintro e w1 ⟨rfl, hb⟩
  have HB1 := Lib.hid hb
  clear hb
  go_wp2_with fail
  refine (rBound_any _ l s k _ (H.out.keep HB1.out)).mono ?_
  rintro e w2 ⟨rfl, hb⟩
  have HB2 := Lib.hid (ext_trans HB1.out hb)
  clear hb
  have e1 : (boundR l s k == boundR l s k) = true := by rw [beq_iff_eq]
  have e2 : (rightE l s k == rightE l s k) = true := by rw [beq_iff_eq]
  have e3 : (needV l k == needV l k) = true := by rw [beq_iff_eq]
  go_wp2_with fail
  refine (Need_any _ l k _ (H.out.keep HB2.out)).mono ?_
  rintro e w3 ⟨rfl, m3, rfl⟩
  go_wp2_with fail
  refine (rNeed_any _ l k _ ((H.out.keep HB2.out).drewN _)).mono ?_
  rintro e w4 ⟨rfl, m4, rfl⟩
  go_wp2_with fail
  refine (awake_any _).mono ?_
  rintro e w5 ⟨rfl, hb⟩
  go_wp2_with fail
  go_ret
  exact law_of rfl (by first | exact below_drewN' HB2.out _ | exact below_drewN' (below_drewN' HB2.out _) _) hb

set_option maxRecDepth 100000 in
set_option maxHeartbeats 4000000 in
theorem greedy_law (v : Value) (l : List Int) (s k : Int) (w : World) (h : SI w v l) : Calls Try.prog 5 #[v, .int .i64 s, .int .i64 k] w (Law w) := by
  have H := Lib.hid h
  obtain ⟨a, cap, rfl, h1, h2, h3⟩ := h
  clear h3
  have hm : l.length ≤ 9223372036854775807 := by unfold maxLen at h2; omega
  go_enter Try.func5, Try.ntmps5
  go_wp2_with fail
  all_goals first
    | (refine (awake_any _).mono ?_
       rintro e w2 ⟨rfl, hb⟩
       go_wp2_with fail
       go_ret
       exact ⟨rfl, hb⟩)
    | (refine (Greedy_any _ l s k _ H.out).mono ?_
       rintro e w1 ⟨r1, rfl, hs, hb⟩
       have HB1 := Lib.hid hb
       have HS1 := Lib.hid hs
       clear hb hs
       go_wp2_with fail
       refine (rGreedy_any _ l s k _ (H.out.keep HB1.out)).mono ?_
       rintro e w2 ⟨r2, rfl, hs, hb⟩
       have HB2 := Lib.hid (ext_trans HB1.out hb)
       have HS2 := Lib.hid (HS1.out.keep hb)
       have HT2 := Lib.hid hs
       clear hb hs
       go_wp2_with fail
       refine (same25_any _ _ _ _ _ HS2.out HT2.out).mono ?_
       rintro e w3 ⟨rfl, m3, rfl⟩
       rw [decide_eq_true rfl]
       have e2 : (rightE l s k == rightE l s k) = true := by rw [beq_iff_eq]
       go_wp2_with fail
       refine (awake_any _).mono ?_
       rintro e w5 ⟨rfl, hb⟩
       go_wp2_with fail
       go_ret
       exact law_of rfl (below_drewN' HB2.out _) hb)

set_option maxRecDepth 100000 in
set_option maxHeartbeats 4000000 in
theorem best_law (v : Value) (l : List Int) (s k : Int) (w : World) (h : SI w v l) : Calls Try.prog 6 #[v, .int .i64 s, .int .i64 k] w (Law w) := by
  have H := Lib.hid h
  obtain ⟨a, cap, rfl, h1, h2, h3⟩ := h
  clear h3
  have hm : l.length ≤ 9223372036854775807 := by unfold maxLen at h2; omega
  go_enter Try.func6, Try.ntmps6
  go_wp2_with fail
  all_goals first
    | (refine (awake_any _).mono ?_
       rintro e w2 ⟨rfl, hb⟩
       go_wp2_with fail
       go_ret
       exact ⟨rfl, hb⟩)
    | (refine (Best_any _ l s k _ H.out).mono ?_
       rintro e w1 ⟨r1, rfl, hs, hb⟩
       have HB1 := Lib.hid hb
       have HS1 := Lib.hid hs
       clear hb hs
       go_wp2_with fail
       refine (rBest_any _ l s k _ (H.out.keep HB1.out)).mono ?_
       rintro e w2 ⟨r2, rfl, hs, hb⟩
       have HB2 := Lib.hid (ext_trans HB1.out hb)
       have HS2 := Lib.hid (HS1.out.keep hb)
       have HT2 := Lib.hid hs
       clear hb hs
       go_wp2_with fail
       refine (same25_any _ _ _ _ _ HS2.out HT2.out).mono ?_
       rintro e w3 ⟨rfl, m3, rfl⟩
       rw [decide_eq_true rfl]
       have e2 : (bestE l s k == bestE l s k) = true := by rw [beq_iff_eq]
       go_wp2_with fail
       refine (awake_any _).mono ?_
       rintro e w5 ⟨rfl, hb⟩
       go_wp2_with fail
       go_ret
       exact law_of rfl (below_drewN' HB2.out _) hb)
end Go.Proofs.Ytlgepggmgfnneaa
