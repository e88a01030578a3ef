/- The law CalendarHours. -/
import Derived.Test.YtbjnpiaooehmjaaGreatDoorCalMade
import Derived.Test.YtbjnpiaooehmjaaGreatDoorCalAwk
namespace Go.Proofs.YtbjnpiaooehmjaaGreatDoor
open Go.RowKit

/-- what a law calls, at a plan -/
structure LC (w : World) (p : Value) (sh : List Sp) (cl : List Int) : Prop where
  rt : ∀ W, Below w.heap.size w W → Calls Tryz.prog 9 #[p] W (Ret W (.bool (decide (newE sh cl = 0))))
  md : newE sh cl = 0 → ∀ W, Below w.heap.size w W → Calls Tryz.prog 11 #[p] W (PostM W sh cl)
  aw : ∀ W, Below w.heap.size w W → Calls Tryz.prog 10 #[] W (Ret W (.bool true))
theorem LC.of {w : World} {p : Value} {sh : List Sp} {cl : List Int} (h : CalR w p sh cl) (hV : VarsC w) : LC w p sh cl :=
  ⟨fun W hW => right_any p sh cl W (h.keep hW), fun hE W hW => made_yes p sh cl W (h.keep hW) hE, fun W hW => awake_any W (hV.keep hW)⟩

set_option maxHeartbeats 4000000 in
set_option maxRecDepth 100000 in
theorem Hours_any (p : Value) (sh : List Sp) (cl : List Int) (t : Int) (w : World) (h : CalR w p sh cl) (hV : VarsC w) : Calls Tryz.prog 3 #[p, .int .i64 t] w (Ret w (.bool true)) := by
  have HL := Lib.hid (LC.of h hV)
  obtain ⟨sv, cv, rfl, hsp, hsi⟩ := h
  obtain ⟨a, cap, rfl, _⟩ := hsp
  obtain ⟨a2, cap2, rfl, _⟩ := hsi
  clear hV
  have HB0 := Lib.hid (Box.start w (.slice a sh.length cap) (.slice a2 cl.length cap2) 25)
  have q0 := HB0.out.q0
  have q1 := HB0.out.q1
  go_enter Tryz.func3, Tryz.ntmps3
  go_wp2_with fail
  refine (HL.out.rt _ HB0.out.hb).mono ?_
  rintro e w1 ⟨rfl, hb⟩
  have HB1 := Lib.hid (HB0.out.keep hb)
  clear hb q0 q1
  by_cases hE : newE sh cl = 0
  rotate_left
  · rw [show decide (newE sh cl = 0) = false by rw [decide_eq_false_iff_not]; exact hE]
    go_wp2_with fail
    refine (HL.out.aw _ HB1.out.hb).mono ?_
    rintro e w2 ⟨rfl, hb⟩
    have HB2 := Lib.hid (HB1.out.keep hb)
    clear hb
    go_wp2_with fail
    go_ret
    exact ⟨rfl, HB2.out.hb⟩
  rw [show decide (newE sh cl = 0) = true by rw [decide_eq_true_eq]; exact hE]
  have HG := Lib.hid (good_of hE)
  have q0 := HB1.out.q0
  have q1 := HB1.out.q1
  have qs := HB1.out.qs
  have HM := Lib.hid (HL.out.md hE)
  clear hE
  go_wp2_with fail
  refine (HM.out _ HB1.out.hb).mono ?_
  rintro e w2 ⟨B, xa, xn, xc, ya, yn, yc, rfl, hP, hR, hb⟩
  have HB2 := Lib.hid (HB1.out.keep hb)
  have HP := Lib.hid hP
  have HR := Lib.hid hR
  clear hb hP hR HM q0 q1 qs
  have HN : Hid (∀ W, Below w2.heap.size w2 W → Calls Tryz.prog 12 #[.pointer (some ⟨B, 0, none⟩), .int .i64 t] W (RetNE W (nextV sh cl t) (nextE sh cl t))) := Lib.hid fun W hW => Next_any _ sh cl t W (HP.out.keep hW) HG.out
  have HRN : Hid (∀ W, Below w2.heap.size w2 W → Calls Tryz.prog 13 #[.agg #[.slice xa xn xc, .slice ya yn yc], .int .i64 t] W (RetNE W (nextV sh cl t) (nextE sh cl t))) := Lib.hid fun W hW => rNext_any _ sh cl t W (HR.out.keep hW)
  have HW : Hid (∀ W, Below w2.heap.size w2 W → Calls Tryz.prog 14 #[.pointer (some ⟨B, 0, none⟩), .int .i64 t] W (Ret W (.bool (workB sh cl t)))) := Lib.hid fun W hW => Works_any _ sh cl t W (HP.out.keep hW) HG.out
  have HRW : Hid (∀ W, Below w2.heap.size w2 W → Calls Tryz.prog 15 #[.agg #[.slice xa xn xc, .slice ya yn yc], .int .i64 t] W (Ret W (.bool (workB sh cl t)))) := Lib.hid fun W hW => rWorks_any _ sh cl t W (HR.out.keep hW)
  generalize nextV sh cl t = V at *
  generalize nextE sh cl t = E at *
  generalize workB sh cl t = b at *
  go_wp2_with fail
  have HD := Lib.hid (Box.start w2 (.slice xa xn xc) (.slice ya yn yc) 29)
  refine (HN.out _ HD.out.hb).mono ?_
  rintro e w3 ⟨rfl, hb⟩
  have HD3 := Lib.hid (HD.out.keep hb)
  have d0 := HD3.out.q0
  have d1 := HD3.out.q1
  have ds := HD3.out.qs
  clear hb
  go_wp2_with fail
  refine (HRN.out _ HD3.out.hb).mono ?_
  rintro e w4 ⟨rfl, hb⟩
  have HD4 := Lib.hid (HD3.out.keep hb)
  clear hb d0 d1 ds
  have d0 := HD4.out.q0
  have d1 := HD4.out.q1
  have ds := HD4.out.qs
  have z1 : (V == V) = true := by rw [beq_iff_eq]
  have z2 : (E == E) = true := by rw [beq_iff_eq]
  have z3 : (b == b) = true := by rw [beq_iff_eq]
  clear HN HRN
  have HW4 : Hid (∀ wz, Below w4.heap.size w4 wz → Calls Tryz.prog 14 #[.pointer (some ⟨B, 0, none⟩), .int .i64 t] wz fun e w' => e = .returned (.bool b) ∧ Below w4.heap.size w4 w') := fun wz hz => (HW.out wz (ext_trans HD4.out.hb hz)).mono fun e w' ⟨g1, g2⟩ => ⟨g1, ext_trans hz g2⟩
  have HRW4 : Hid (∀ wz, Below w4.heap.size w4 wz → Calls Tryz.prog 15 #[.agg #[.slice xa xn xc, .slice ya yn yc], .int .i64 t] wz fun e w' => e = .returned (.bool b) ∧ Below w4.heap.size w4 w') := fun wz hz => (HRW.out wz (ext_trans HD4.out.hb hz)).mono fun e w' ⟨g1, g2⟩ => ⟨g1, ext_trans hz g2⟩
  have HB4 := Lib.hid (HB2.out.keep HD4.out.hb)
  have HAW4 : Hid (∀ wz, Below w4.heap.size w4 wz → Calls Tryz.prog 10 #[] wz fun e w' => e = .returned (.bool true) ∧ Below w4.heap.size w4 w') := fun wz hz => (HL.out.aw wz (ext_trans HB4.out.hb hz)).mono fun e w' ⟨g1, g2⟩ => ⟨g1, ext_trans hz g2⟩
  clear HW HRW
  go_wp2_with fail
  go_region_held3 (fun w' => w'.cell? ⟨w2.heap.size, 0, none⟩ = some (.slice xa xn xc) ∧ w'.cell? ⟨w2.heap.size, 1, none⟩ = some (.slice ya yn yc))
    (first | exact ⟨d0, d1⟩ | exact ⟨cell_keep hbz d0, cell_keep hbz d1⟩ | exact ⟨cell_keep hby d0, cell_keep hby d1⟩ | exact ⟨cell_keep hbu d0, cell_keep hbu d1⟩)
    (first
      | (go_at_call 14; refine (HW4.out _ (by first | exact Below.refl _ _ | exact below_drewN' (Below.refl _ _) 1)).mono ?_; rintro e wy ⟨rfl, hby⟩)
      | (go_at_call 15; refine (HRW4.out _ (by first | exact hby | exact Below.refl _ _ | exact below_drewN' (Below.refl _ _) 1)).mono ?_; rintro e wz ⟨rfl, hbz⟩)
      | (go_at_call 10; refine (HAW4.out _ (by first | exact hbz | exact hby)).mono ?_; rintro e wu ⟨rfl, hbu⟩))
  all_goals (go_wp2_with fail)
  all_goals
    go_ret
    exact ⟨rfl, ext_trans HB4.out.hb hbu⟩
end Go.Proofs.YtbjnpiaooehmjaaGreatDoor
