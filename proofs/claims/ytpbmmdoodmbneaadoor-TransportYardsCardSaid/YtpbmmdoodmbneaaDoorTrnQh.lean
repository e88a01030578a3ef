/- Contract: the reference's Hours of transport. -/
import Derived.Test.YtpbmmdoodmbneaaDoorTrnX
namespace Go.Proofs.YtpbmmdoodmbneaaDoor
open Go.RowKit Go.Sort

set_option maxHeartbeats 4000000 in
set_option maxRecDepth 100000 in
theorem rHours_any (t : Trk) (v : Value) (d : List (List Int)) (f u : Int) (w : World) (h : SS w v d) :
    Calls Tryd.prog 14 #[.agg #[.string (bs t.name), .int .i64 t.load, .int .i64 t.hours], v, .int .i64 f, .int .i64 u] w (Ret w (.int .i64 (hoursV t d f u))) := by
  obtain ⟨a, cap, rfl, h1, h2, h3⟩ := h.open
  clear h
  have H3 := Lib.hid h3
  clear h3
  have HB : Hid (Below w.heap.size w (w.alloc (.cells #[.string (bs t.name), .int .i64 t.load, .int .i64 t.hours] 30))) := (Below.refl _ _).alloc (Nat.le_refl _) _
  cases z1 : decide (t.hours < 1)
  rotate_left
  · have HR : Hid (hoursV t d f u = 0) := by
      show _ = _; unfold hoursV; rw [if_pos]; simp at z1; omega
    go_enter Tryd.func14, Tryd.ntmps14
    go_wp2_with fail
    go_ret
    exact ⟨ret_int HR.out.symm, HB.out⟩
  cases z2 : decide (100 < t.hours)
  rotate_left
  · have HR : Hid (hoursV t d f u = 0) := by
      show _ = _; unfold hoursV; rw [if_pos]; simp at z2; omega
    go_enter Tryd.func14, Tryd.ntmps14
    go_wp2_with fail
    go_ret
    exact ⟨ret_int HR.out.symm, HB.out⟩
  cases z3 : decide (f < 0)
  rotate_left
  · have HR : Hid (hoursV t d f u = 0) := by
      show _ = _; unfold hoursV; rw [if_pos]; simp at z3; omega
    go_enter Tryd.func14, Tryd.ntmps14
    go_wp2_with fail
    go_ret
    exact ⟨ret_int HR.out.symm, HB.out⟩
  cases z4 : decide ((d.length : Int) ≤ f)
  rotate_left
  · have HR : Hid (hoursV t d f u = 0) := by
      show _ = _; unfold hoursV; rw [if_pos]; simp at z4; omega
    go_enter Tryd.func14, Tryd.ntmps14
    go_wp2_with fail
    go_ret
    exact ⟨ret_int HR.out.symm, HB.out⟩
  obtain ⟨p, rfl⟩ : ∃ p : Nat, f = p := ⟨f.toNat, by simp at z3; omega⟩
  have hp : p < d.length := by simp at z4; omega
  have i1 : (p : Int) < (d.length : Int) := by omega
  obtain ⟨b, off, ra, rc, rfl, hc, e1, e2, e3⟩ := H3.out p hp
  have c1 := cell_keep HB.out hc
  have E3 := Lib.hid e3
  clear e3 hc z3
  cases z5 : decide (u < 0)
  rotate_left
  · have HR : Hid (hoursV t d p u = 0) := by
      show _ = _; unfold hoursV; rw [if_pos]; simp at z5; omega
    generalize ri d p = row at *
    go_enter Tryd.func14, Tryd.ntmps14
    go_wp2_with fail
    go_ret
    exact ⟨ret_int HR.out.symm, HB.out⟩
  cases z6 : decide (((ri d p).length : Int) ≤ u)
  rotate_left
  · have HR : Hid (hoursV t d p u = 0) := by
      show _ = _; unfold hoursV; rw [if_pos]; simp only [Int.toNat_natCast]; simp only [decide_eq_true_eq] at z6; omega
    generalize ri d p = row at *
    go_enter Tryd.func14, Tryd.ntmps14
    go_wp2_with fail
    go_ret
    exact ⟨ret_int HR.out.symm, HB.out⟩
  obtain ⟨q, rfl⟩ : ∃ q : Nat, u = q := ⟨u.toNat, by simp at z5; omega⟩
  have hq : q < (ri d p).length := by simp at z6; omega
  have i2 : (q : Int) < ((ri d p).length : Int) := by omega
  obtain ⟨b2, off2, rfl, hc2⟩ := E3.out q hq
  have c2 := cell_keep HB.out hc2
  clear z5 hc2
  have HV : Hid (hoursV t d p q = if wideB (gi (ri d p) q) = true then 0 else max (t.hours * gi (ri d p) q) 1) := by
    show _ = _; unfold hoursV; rw [if_neg]; rfl
    simp only [decide_eq_false_iff_not, Int.toNat_natCast] at *; omega
  generalize gi (ri d p) q = x at *
  generalize ri d p = row at *
  have hh : 1 ≤ t.hours ∧ t.hours ≤ 100 := by simp only [decide_eq_false_iff_not] at *; omega
  cases y1 : decide (x < 0)
  rotate_left
  · have HR : Hid (hoursV t d p q = 0) := by show _ = _; rw [HV.out, if_pos]; unfold wideB; rw [y1]; rfl
    go_enter Tryd.func14, Tryd.ntmps14
    go_wp2_with fail
    go_ret
    exact ⟨ret_int HR.out.symm, HB.out⟩
  cases y2 : decide (10000 < x)
  rotate_left
  · have HR : Hid (hoursV t d p q = 0) := by show _ = _; rw [HV.out, if_pos]; unfold wideB; rw [y2, Bool.or_true]
    go_enter Tryd.func14, Tryd.ntmps14
    go_wp2_with fail
    go_ret
    exact ⟨ret_int HR.out.symm, HB.out⟩
  have HR : Hid (hoursV t d p q = max 1 (t.hours * x)) := by show _ = _; rw [HV.out, if_neg, Int.max_comm]; unfold wideB; rw [y1, y2]; decide
  have hx : 0 ≤ x ∧ x ≤ 10000 := by simp only [decide_eq_false_iff_not] at *; omega
  have hw : IntKind.i64.wrap (t.hours * x) = t.hours * x := IntWalk.i64_in _ (by
    have h1 : 0 ≤ t.hours * x := Int.mul_nonneg (by omega) hx.1
    have h2 : t.hours * x ≤ 100 * 10000 := Int.mul_le_mul hh.2 hx.2 hx.1 (by omega)
    omega)
  clear hh hx
  go_enter Tryd.func14, Tryd.ntmps14
  go_wp2_with fail
  go_ret
  exact ⟨ret_int HR.out.symm, HB.out⟩
end Go.Proofs.YtpbmmdoodmbneaaDoor
