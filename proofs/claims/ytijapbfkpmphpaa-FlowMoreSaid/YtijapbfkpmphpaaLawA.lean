/- The laws FlowTimes, FlowBounds, FlowBests. -/
import Derived.Test.YtijapbfkpmphpaaFlowU
namespace Go.Proofs.Ytijapbfkpmphpaa
open Go.RowKit

/-- The law holds at these arguments: it returns true and keeps what was there. -/
def Law (w : World) (e : Ending) (w' : World) : Prop := e = .returned (.bool true) ∧ Below w.heap.size w w'
theorem law_of {w w1 : World} {e : Ending} {w' : World} (h : e = .returned (.bool true)) (h1 : Below w.heap.size w w1) (h2 : Below w1.heap.size w1 w') : Law w e w' := ⟨h, ext_trans h1 h2⟩

set_option maxHeartbeats 1000000 in
theorem times_law (v u : Value) (p : List (List Int)) (l : List Int) (w : World) (h : SS w v p) (g : SI w u l) : Calls Try.prog 3 #[v, u] w (Law w) := by
  have H := Lib.hid h
  have G := Lib.hid g
  obtain ⟨a, cap, rfl, g1, g2, g3⟩ := g
  clear h g3
  go_enter Try.func3, Try.ntmps3
  go_wp2_with fail
  refine (light_any _ p 40 _ H.out).mono ?_
  rintro e w1 ⟨rfl, m1, rfl⟩
  cases lightB p 40
  · go_wp2_with fail
    refine (awake_any _).mono ?_
    rintro e w2 ⟨rfl, hb⟩
    go_wp2_with fail
    go_ret
    exact law_of rfl (below_drewN' (Below.refl _ _) _) hb
  by_cases hl : 60 < l.length
  · have hlb : decide ((60 : Int) < l.length) = true := by rw [decide_eq_true_eq]; omega
    go_wp2_with fail
    refine (awake_any _).mono ?_
    rintro e w2 ⟨rfl, hb⟩
    go_wp2_with fail
    go_ret
    exact law_of rfl (below_drewN' (Below.refl _ _) _) hb
  have hlb : decide ((60 : Int) < l.length) = false := by rw [decide_eq_false_iff_not]; omega
  go_wp2_with fail
  refine (Finish_any _ _ p l _ (H.out.drewN _) (G.out.drewN _)).mono ?_
  rintro e w2 ⟨r1, rfl, hs, hb⟩
  have HB2 := Lib.hid (ext_trans (below_drewN' (Below.refl w.heap.size w) m1) hb)
  have HS2 := Lib.hid hs
  clear hb hs
  go_wp2_with fail
  refine (rFinish_any _ _ p l _ (H.out.keep HB2.out) (G.out.keep HB2.out)).mono ?_
  rintro e w3 ⟨r2, rfl, hs, hb⟩
  have HB3 := Lib.hid (ext_trans HB2.out hb)
  have HS3 := Lib.hid (HS2.out.keep hb)
  have HT3 := Lib.hid hs
  clear hb hs
  go_wp2_with fail
  refine (Makespan_any _ _ p l _ (H.out.keep HB3.out) (G.out.keep HB3.out)).mono ?_
  rintro e w4 ⟨rfl, hb⟩
  have HB4 := Lib.hid (ext_trans HB3.out hb)
  have HS4 := Lib.hid (HS3.out.keep hb)
  have HT4 := Lib.hid (HT3.out.keep hb)
  clear hb
  go_wp2_with fail
  refine (rMakespan_any _ _ p l _ (H.out.keep HB4.out) (G.out.keep HB4.out)).mono ?_
  rintro e w5 ⟨rfl, hb⟩
  have HB5 := Lib.hid (ext_trans HB4.out hb)
  have HS5 := Lib.hid (HS4.out.keep hb)
  have HT5 := Lib.hid (HT4.out.keep hb)
  clear hb
  go_wp2_with fail
  refine (sameRows_any _ _ _ _ _ HS5.out HT5.out).mono ?_
  rintro e w6 ⟨rfl, m6, rfl⟩
  rw [decide_eq_true rfl]
  have e1 : (finishE p l == finishE p l) = true := by rw [beq_iff_eq]
  have e2 : (spanV p l == spanV p l) = true := by rw [beq_iff_eq]
  go_wp2_with fail
  refine (awake_any _).mono ?_
  rintro e w7 ⟨rfl, hb⟩
  go_wp2_with fail
  go_ret
  exact law_of rfl (below_drewN' HB5.out _) hb

set_option maxHeartbeats 1000000 in
theorem bounds_law (v u : Value) (p : List (List Int)) (l : List Int) (s : Int) (w : World) (h : SS w v p) (g : SI w u l) : Calls Try.prog 4 #[v, u, .int .i64 s] w (Law w) := by
  have H := Lib.hid h
  have G := Lib.hid g
  obtain ⟨a, cap, rfl, g1, g2, g3⟩ := g
  clear h g3
  go_enter Try.func4, Try.ntmps4
  go_wp2_with fail
  refine (light_any _ p 40 _ H.out).mono ?_
  rintro e w1 ⟨rfl, m1, rfl⟩
  cases lightB p 40
  · go_wp2_with fail
    refine (awake_any _).mono ?_
    rintro e w2 ⟨rfl, hb⟩
    go_wp2_with fail
    go_ret
    exact law_of rfl (below_drewN' (Below.refl _ _) _) hb
  by_cases hl : 60 < l.length
  · have hlb : decide ((60 : Int) < l.length) = true := by rw [decide_eq_true_eq]; omega
    go_wp2_with fail
    refine (awake_any _).mono ?_
    rintro e w2 ⟨rfl, hb⟩
    go_wp2_with fail
    go_ret
    exact law_of rfl (below_drewN' (Below.refl _ _) _) hb
  have hlb : decide ((60 : Int) < l.length) = false := by rw [decide_eq_false_iff_not]; omega
  go_wp2_with fail
  refine (Bound_any _ _ p l s _ (H.out.drewN _) (G.out.drewN _)).mono ?_
  rintro e w2 ⟨rfl, hb⟩
  have HB2 := Lib.hid (ext_trans (below_drewN' (Below.refl w.heap.size w) m1) hb)
  clear hb
  go_wp2_with fail
  refine (rBound_any _ _ p l s _ (H.out.keep HB2.out) (G.out.keep HB2.out)).mono ?_
  rintro e w3 ⟨rfl, hb⟩
  have HB3 := Lib.hid (ext_trans HB2.out hb)
  clear hb
  have e1 : (boundE p l s == boundE p l s) = true := by rw [beq_iff_eq]
  have e2 : (boundR p l s == boundR p l s) = true := by rw [beq_iff_eq]
  go_wp2_with fail
  refine (awake_any _).mono ?_
  rintro e w7 ⟨rfl, hb⟩
  go_wp2_with fail
  go_ret
  exact law_of rfl HB3.out hb
end Go.Proofs.Ytijapbfkpmphpaa
