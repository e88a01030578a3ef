/- The law CalendarDates. -/
import Derived.Test.YtbjnpiaooehmjaaGreatDoorCalAwk
import Derived.Test.YtbjnpiaooehmjaaGreatDoorCalX
namespace Go.Proofs.YtbjnpiaooehmjaaGreatDoor
open Go.RowKit

theorem ba_of (s : ByteArray) : (⟨s.data.toList.toArray⟩ : ByteArray) = s := by cases s; simp
set_option maxHeartbeats 4000000 in
set_option maxRecDepth 100000 in
theorem Dates_any (t : Int) (s : ByteArray) (w : World) (hV : VarsC w) (hsz : s.size ≤ maxLen) : Calls Tryz.prog 5 #[.int .i64 t, .string s] w (Ret w (.bool true)) := by
  have HV := Lib.hid hV
  clear hV
  unfold maxLen at hsz
  have HA : Hid (∀ W, Below w.heap.size w W → Calls Tryz.prog 10 #[] W (Ret W (.bool true))) := Lib.hid fun W hW => awake_any W (HV.out.keep hW)
  by_cases h2 : 200 < s.size
  · have b2 : decide ((200 : Int) < s.size) = true := by rw [decide_eq_true_eq]; omega
    go_enter Tryz.func5, Tryz.ntmps5
    go_wp2_with fail
    refine (HA.out _ (Below.refl _ _)).mono ?_
    rintro e w1 ⟨rfl, hb⟩
    have HB := Lib.hid hb
    clear hb
    go_wp2_with fail
    go_ret
    exact ⟨rfl, HB.out⟩
  have b2 : decide ((200 : Int) < s.size) = false := by rw [decide_eq_false_iff_not]; omega
  have HP : Hid (∀ W, Below w.heap.size w W → Calls Tryz.prog 20 #[.string s] W (RetNE W (parseV s.data.toList) (parseE s.data.toList))) := Lib.hid fun W hW => Parse_any s W (by omega) (HV.out.keep hW)
  have HRP : Hid (∀ W, Calls Tryz.prog 21 #[.string s] W fun e w' => e = .returned (.tuple #[.int .i64 (parseV s.data.toList), .int .i64 (parseE s.data.toList)]) ∧ ∃ m, w' = W.drewN m) := Lib.hid fun W => rParse_any s W (by omega)
  have HOK := Lib.hid (parse_ok (l := s.data.toList))
  obtain ⟨ds, hds⟩ : ∃ ds : ByteArray, ds = ⟨(dateV t).toArray⟩ := ⟨_, rfl⟩
  have HD : Hid (∀ W, Below w.heap.size w W → Calls Tryz.prog 22 #[.int .i64 t] W (Ret W (.string ds))) := Lib.hid fun W hW => by rw [hds]; exact Date_any t W (HV.out.keep hW)
  have HRD : Hid (∀ W, Calls Tryz.prog 23 #[.int .i64 t] W fun e w' => e = .returned (.string ds) ∧ w' = W) := Lib.hid fun W => by rw [hds]; exact rDate_any t W
  have hdl : ds.data.toList = dateV t := by rw [hds]
  have hdz : ds.size ≤ 100 := by rw [← dsz, hdl]; exact dateV_len t
  have HPD : Hid (∀ W, Below w.heap.size w W → Calls Tryz.prog 20 #[.string ds] W (RetNE W (parseV (dateV t)) (parseE (dateV t)))) := Lib.hid fun W hW => by rw [← hdl]; exact Parse_any ds W (by omega) (HV.out.keep hW)
  have HIN := Lib.hid (parse_dateV (t := t))
  have HOUT := Lib.hid (parse_dateN (t := t))
  have hdd : (ds.toList == ds.toList) = true := by rw [beq_iff_eq]
  have HDV : Hid (parseE s.data.toList = 0 → ∀ W, Below w.heap.size w W → Calls Tryz.prog 22 #[.int .i64 (parseV s.data.toList)] W (Ret W (.string s))) := Lib.hid fun hz W hW => by
    have := Date_any (parseV s.data.toList) W (HV.out.keep hW)
    rw [(HOK.out hz).1, ba_of] at this
    exact this
  clear hds hdl HOK
  generalize parseV s.data.toList = V at *
  generalize parseE s.data.toList = E at *
  generalize parseV (dateV t) = V2 at *
  generalize parseE (dateV t) = E2 at *
  have hss : (s.toList == s.toList) = true := by rw [beq_iff_eq]
  go_enter Tryz.func5, Tryz.ntmps5
  go_wp2_with fail
  refine (HP.out _ (Below.refl _ _)).mono ?_
  rintro e w1 ⟨rfl, hb1⟩
  have HB1 := Lib.hid hb1
  clear hb1
  go_wp2_with fail
  refine (HRP.out _).mono ?_
  rintro e w2 ⟨rfl, m, rfl⟩
  have HB2 := Lib.hid (below_drewN' HB1.out m)
  go_wp2_with fail
  refine (HD.out _ HB2.out).mono ?_
  rintro e w3 ⟨rfl, hb⟩
  have HB3 := Lib.hid (ext_trans HB2.out hb)
  clear hb
  go_wp2_with fail
  refine (HRD.out _).mono ?_
  rintro e w4 ⟨rfl, rfl⟩
  have z1 : (V != V) = false := by rw [bne_eq_false_iff_eq]
  have z2 : (E != E) = false := by rw [bne_eq_false_iff_eq]
  have HW : Hid (∀ Q : Prop, (E = 0 → Q) → ((E == 0) = false → (E != 0) = true → Q) → Q) := Lib.hid fun Q h1 h2 => by
    by_cases h : E = 0
    · exact h1 h
    · exact h2 (by rw [beq_eq_false_iff_ne]; exact h) (by rw [bne_iff_ne]; exact h)
  refine HW.out _ (fun hE => ?_) (fun q1 q2 => ?_)
  · subst hE
    go_wp2_with fail
    refine (HDV.out (by simp) _ HB3.out).mono ?_
    rintro e w5 ⟨rfl, hb⟩
    have HB5 := Lib.hid (ext_trans HB3.out hb)
    clear hb
    go_wp2_with fail
    refine (HD.out _ HB5.out).mono ?_
    rintro e w6 ⟨rfl, hb⟩
    have HB6 := Lib.hid (ext_trans HB5.out hb)
    clear hb
    go_wp2_with fail
    refine (HPD.out _ HB6.out).mono ?_
    rintro e w7 ⟨rfl, hb⟩
    have HB7 := Lib.hid (ext_trans HB6.out hb)
    clear hb
    by_cases hr : 0 ≤ t ∧ t ≤ 1048576
    · obtain ⟨rfl, rfl⟩ := HIN.out hr
      have y1 : decide (V2 < 0) = false := by rw [decide_eq_false_iff_not]; omega
      have y2 : decide (1048576 < V2) = false := by rw [decide_eq_false_iff_not]; omega
      go_wp2_with fail
      refine (HA.out _ HB7.out).mono ?_
      rintro e w8 ⟨rfl, hb⟩
      have HB8 := Lib.hid (ext_trans HB7.out hb)
      clear hb
      go_wp2_with fail
      go_ret
      exact ⟨rfl, HB8.out⟩
    · obtain ⟨rfl, rfl⟩ := HOUT.out hr
      by_cases hneg : t < 0
      · have y1 : decide (t < 0) = true := by rw [decide_eq_true_eq]; exact hneg
        go_wp2_with fail
        refine (HA.out _ HB7.out).mono ?_
        rintro e w8 ⟨rfl, hb⟩
        have HB8 := Lib.hid (ext_trans HB7.out hb)
        clear hb
        go_wp2_with fail
        go_ret
        exact ⟨rfl, HB8.out⟩
      · have y1 : decide (t < 0) = false := by rw [decide_eq_false_iff_not]; exact hneg
        have y2 : decide (1048576 < t) = true := by rw [decide_eq_true_eq]; omega
        go_wp2_with fail
        refine (HA.out _ HB7.out).mono ?_
        rintro e w8 ⟨rfl, hb⟩
        have HB8 := Lib.hid (ext_trans HB7.out hb)
        clear hb
        go_wp2_with fail
        go_ret
        exact ⟨rfl, HB8.out⟩
  · go_wp2_with fail
    refine (HD.out _ HB3.out).mono ?_
    rintro e w6 ⟨rfl, hb⟩
    have HB6 := Lib.hid (ext_trans HB3.out hb)
    clear hb
    go_wp2_with fail
    refine (HPD.out _ HB6.out).mono ?_
    rintro e w7 ⟨rfl, hb⟩
    have HB7 := Lib.hid (ext_trans HB6.out hb)
    clear hb
    by_cases hr : 0 ≤ t ∧ t ≤ 1048576
    · obtain ⟨rfl, rfl⟩ := HIN.out hr
      have y1 : decide (V2 < 0) = false := by rw [decide_eq_false_iff_not]; omega
      have y2 : decide (1048576 < V2) = false := by rw [decide_eq_false_iff_not]; omega
      go_wp2_with fail
      refine (HA.out _ HB7.out).mono ?_
      rintro e w8 ⟨rfl, hb⟩
      have HB8 := Lib.hid (ext_trans HB7.out hb)
      clear hb
      go_wp2_with fail
      go_ret
      exact ⟨rfl, HB8.out⟩
    · obtain ⟨rfl, rfl⟩ := HOUT.out hr
      by_cases hneg : t < 0
      · have y1 : decide (t < 0) = true := by rw [decide_eq_true_eq]; exact hneg
        go_wp2_with fail
        refine (HA.out _ HB7.out).mono ?_
        rintro e w8 ⟨rfl, hb⟩
        have HB8 := Lib.hid (ext_trans HB7.out hb)
        clear hb
        go_wp2_with fail
        go_ret
        exact ⟨rfl, HB8.out⟩
      · have y1 : decide (t < 0) = false := by rw [decide_eq_false_iff_not]; exact hneg
        have y2 : decide (1048576 < t) = true := by rw [decide_eq_true_eq]; omega
        go_wp2_with fail
        refine (HA.out _ HB7.out).mono ?_
        rintro e w8 ⟨rfl, hb⟩
        have HB8 := Lib.hid (ext_trans HB7.out hb)
        clear hb
        go_wp2_with fail
        go_ret
        exact ⟨rfl, HB8.out⟩
end Go.Proofs.YtbjnpiaooehmjaaGreatDoor
