/- The law CalendarNexts. -/
import Derived.Test.YtbjnpiaooehmjaaGreatDoorQCalHours
import Derived.Test.YtbjnpiaooehmjaaGreatDoorCalLaw
namespace Go.Proofs.YtbjnpiaooehmjaaGreatDoor
open Go.RowKit

set_option maxHeartbeats 4000000 in
set_option maxRecDepth 100000 in
theorem Nexts_any (p : Value) (sh : List Sp) (cl : List Int) (t : Int) (m : Nat) (w : World) (h : CalR w p sh cl) (hV : VarsC w) (hm : m < 65536) : Calls Tryz.prog 7 #[p, .int .i64 t, .int .u16 (m : Int)] w (Ret w (.bool true)) := by
  have HL := Lib.hid (LC.of h hV)
  obtain ⟨sv, cv, rfl, hsp, hsi⟩ := h
  obtain ⟨a, cap, rfl, _⟩ := hsp
  obtain ⟨a2, cap2, rfl, _⟩ := hsi
  clear hV
  have HB0 := Lib.hid (Box.start w (.slice a sh.length cap) (.slice a2 cl.length cap2) 25)
  have HTM := Lib.hid (Time_any t)
  have q0 := HB0.out.q0
  have q1 := HB0.out.q1
  go_enter Tryz.func7, Tryz.ntmps7
  go_wp2_with fail
  refine (HL.out.rt _ HB0.out.hb).mono ?_
  rintro e w1 ⟨rfl, hb⟩
  have HB1 := Lib.hid (HB0.out.keep hb)
  clear hb q0 q1
  by_cases hE : newE sh cl = 0
  rotate_left
  · rw [show decide (newE sh cl = 0) = false by rw [decide_eq_false_iff_not]; exact hE]
    go_wp2_with fail
    refine (HL.out.aw _ HB1.out.hb).mono ?_
    rintro e w2 ⟨rfl, hb⟩
    have HB2 := Lib.hid (HB1.out.keep hb)
    clear hb
    go_wp2_with fail
    go_ret
    exact ⟨rfl, HB2.out.hb⟩
  rw [show decide (newE sh cl = 0) = true by rw [decide_eq_true_eq]; exact hE]
  have HG := Lib.hid (good_of hE)
  have HM := Lib.hid (HL.out.md hE)
  clear hE
  go_wp2_with fail
  refine (HTM.out _).mono ?_
  rintro e w2 ⟨rfl, rfl⟩
  cases ht : timeB t
  · clear ht
    go_wp2_with fail
    refine (HL.out.aw _ HB1.out.hb).mono ?_
    rintro e w3 ⟨rfl, hb⟩
    have HB3 := Lib.hid (HB1.out.keep hb)
    clear hb
    go_wp2_with fail
    go_ret
    exact ⟨rfl, HB3.out.hb⟩
  obtain ⟨s, rfl, hs⟩ : ∃ s : Nat, t = s ∧ s ≤ 1048576 := ⟨t.toNat, by unfold timeB at ht; simp at ht; omega, by unfold timeB at ht; simp at ht; omega⟩
  clear ht HTM
  have q0 := HB1.out.q0
  have q1 := HB1.out.q1
  have qs := HB1.out.qs
  go_wp2_with fail
  refine (HM.out _ HB1.out.hb).mono ?_
  rintro e w3 ⟨B, xa, xn, xc, ya, yn, yc, rfl, hP, hR, hb⟩
  have HB3 := Lib.hid (HB1.out.keep hb)
  have HP := Lib.hid hP
  clear hb hP hR HM q0 q1 qs
  have HN : Hid (∀ W, Below w3.heap.size w3 W → Calls Tryz.prog 12 #[.pointer (some ⟨B, 0, none⟩), .int .i64 s] W (RetNE W (nextV sh cl s) (nextE sh cl s))) := Lib.hid fun W hW => Next_any _ sh cl s W (HP.out.keep hW) HG.out
  have HW : Hid (∀ x W, Below w3.heap.size w3 W → Calls Tryz.prog 14 #[.pointer (some ⟨B, 0, none⟩), .int .i64 x] W (Ret W (.bool (workB sh cl x)))) := Lib.hid fun x W hW => Works_any _ sh cl x W (HP.out.keep hW) HG.out
  have HBT : Hid (∀ f u W, Below w3.heap.size w3 W → Calls Tryz.prog 18 #[.pointer (some ⟨B, 0, none⟩), .int .i64 f, .int .i64 u] W (Ret W (.int .i64 (btw sh cl f u)))) := Lib.hid fun f u W hW => Between_any _ sh cl f u W (HP.out.keep hW) HG.out
  have v1 : IntKind.i64.wrap (m : Int) = m := IntWalk.i64_in _ (by omega)
  obtain ⟨x, hx⟩ : ∃ x : Nat, x = s + m := ⟨_, rfl⟩
  have hx2 : (s : Int) + m = x := by omega
  have hsx : s ≤ x := by omega
  have v2 : IntKind.i64.wrap (x : Int) = x := IntWalk.i64_in _ (by omega)
  have HD := Lib.hid (Box.start w3 (.slice xa xn xc) (.slice ya yn yc) 29)
  clear hx
  rcases next_err (sh := sh) (cl := cl) hs with ⟨hn, h1, h2⟩ | ⟨u, hn, h1, h2⟩
  · rw [h1, h2] at HN
    have HK := Lib.hid (next_no hs hsx hn)
    clear hn h1 h2
    have HW3 : Hid (∀ W, Below w3.heap.size w3 W → Calls Tryz.prog 14 #[.pointer (some ⟨B, 0, none⟩), .int .i64 (x : Int)] W (Ret W (.bool false))) := Lib.hid fun W hW => by have := HW.out x W hW; rw [HK.out.1] at this; exact this
    have HBT3 : Hid (∀ W, Below w3.heap.size w3 W → Calls Tryz.prog 18 #[.pointer (some ⟨B, 0, none⟩), .int .i64 (s : Int), .int .i64 1048577] W (Ret W (.int .i64 0))) := Lib.hid fun W hW => by have := HBT.out s 1048577 W hW; rw [HK.out.2] at this; exact this
    clear HW HBT HK
    go_wp2_with fail
    refine (HN.out _ HD.out.hb).mono ?_
    rintro e w4 ⟨rfl, hb⟩
    have HD4 := Lib.hid (HD.out.keep hb)
    have HB4 := Lib.hid (HB3.out.keep HD4.out.hb)
    clear hb HN HD
    have HW4 : Hid (∀ wz, Below w4.heap.size w4 wz → Calls Tryz.prog 14 #[.pointer (some ⟨B, 0, none⟩), .int .i64 (x : Int)] wz fun e w' => e = .returned (.bool false) ∧ Below w4.heap.size w4 w') := fun wz hz => (HW3.out wz (ext_trans HD4.out.hb hz)).mono fun e w' ⟨g1, g2⟩ => ⟨g1, ext_trans hz g2⟩
    have HBT4 : Hid (∀ wz, Below w4.heap.size w4 wz → Calls Tryz.prog 18 #[.pointer (some ⟨B, 0, none⟩), .int .i64 (s : Int), .int .i64 1048577] wz fun e w' => e = .returned (.int .i64 0) ∧ Below w4.heap.size w4 w') := fun wz hz => (HBT3.out wz (ext_trans HD4.out.hb hz)).mono fun e w' ⟨g1, g2⟩ => ⟨g1, ext_trans hz g2⟩
    have HAW4 : Hid (∀ wz, Below w4.heap.size w4 wz → Calls Tryz.prog 10 #[] wz fun e w' => e = .returned (.bool true) ∧ Below w4.heap.size w4 w') := fun wz hz => (HL.out.aw wz (ext_trans HB4.out.hb hz)).mono fun e w' ⟨g1, g2⟩ => ⟨g1, ext_trans hz g2⟩
    clear HW3 HBT3
    have HBX : Hid (Below w4.heap.size w4 w4) := Lib.hid (Below.refl _ _)
    go_wp2_with fail
    refine (HW4.out _ HBX.out).mono ?_
    rintro e w5 ⟨rfl, hb5⟩
    replace HBX : Hid (Below w4.heap.size w4 w5) := Lib.hid hb5
    clear hb5
    go_wp2_with fail
    refine (HBT4.out _ HBX.out).mono ?_
    rintro e w6 ⟨rfl, hb6⟩
    replace HBX : Hid (Below w4.heap.size w4 w6) := Lib.hid hb6
    clear hb6
    go_wp2_with fail
    refine (HAW4.out _ HBX.out).mono ?_
    rintro e w7 ⟨rfl, hb7⟩
    replace HBX : Hid (Below w4.heap.size w4 w7) := Lib.hid hb7
    clear hb7
    go_wp2_with fail
    go_ret
    exact ⟨rfl, ext_trans HB4.out.hb HBX.out⟩
  · rw [h1, h2] at HN
    obtain ⟨k1, k2, k3, k4, k5⟩ := next_yes hs hsx hn
    clear hn h1 h2
    have HWU : Hid (∀ W, Below w3.heap.size w3 W → Calls Tryz.prog 14 #[.pointer (some ⟨B, 0, none⟩), .int .i64 (u : Int)] W (Ret W (.bool true))) := Lib.hid fun W hW => by have := HW.out u W hW; rw [k3] at this; exact this
    have HBT3 : Hid (∀ W, Below w3.heap.size w3 W → Calls Tryz.prog 18 #[.pointer (some ⟨B, 0, none⟩), .int .i64 (s : Int), .int .i64 (u : Int)] W (Ret W (.int .i64 0))) := Lib.hid fun W hW => by have := HBT.out s u W hW; rw [k4] at this; exact this
    have HWX : Hid (x < u → ∀ W, Below w3.heap.size w3 W → Calls Tryz.prog 14 #[.pointer (some ⟨B, 0, none⟩), .int .i64 (x : Int)] W (Ret W (.bool false))) := Lib.hid fun hlt W hW => by have := HW.out x W hW; rw [k5 hlt] at this; exact this
    clear HW HBT k3 k4 k5
    go_wp2_with fail
    refine (HN.out _ HD.out.hb).mono ?_
    rintro e w4 ⟨rfl, hb⟩
    have HD4 := Lib.hid (HD.out.keep hb)
    have HB4 := Lib.hid (HB3.out.keep HD4.out.hb)
    clear hb HN HD
    have HW4 : Hid (∀ wz, Below w4.heap.size w4 wz → Calls Tryz.prog 14 #[.pointer (some ⟨B, 0, none⟩), .int .i64 (u : Int)] wz fun e w' => e = .returned (.bool true) ∧ Below w4.heap.size w4 w') := fun wz hz => (HWU.out wz (ext_trans HD4.out.hb hz)).mono fun e w' ⟨g1, g2⟩ => ⟨g1, ext_trans hz g2⟩
    have HBT4 : Hid (∀ wz, Below w4.heap.size w4 wz → Calls Tryz.prog 18 #[.pointer (some ⟨B, 0, none⟩), .int .i64 (s : Int), .int .i64 (u : Int)] wz fun e w' => e = .returned (.int .i64 0) ∧ Below w4.heap.size w4 w') := fun wz hz => (HBT3.out wz (ext_trans HD4.out.hb hz)).mono fun e w' ⟨g1, g2⟩ => ⟨g1, ext_trans hz g2⟩
    have HAW4 : Hid (∀ wz, Below w4.heap.size w4 wz → Calls Tryz.prog 10 #[] wz fun e w' => e = .returned (.bool true) ∧ Below w4.heap.size w4 w') := fun wz hz => (HL.out.aw wz (ext_trans HB4.out.hb hz)).mono fun e w' ⟨g1, g2⟩ => ⟨g1, ext_trans hz g2⟩
    have y1 : decide ((s : Int) ≤ (u : Int)) = true := by rw [decide_eq_true_eq]; omega
    by_cases hxu : x < u
    · have HX4 : Hid (∀ wz, Below w4.heap.size w4 wz → Calls Tryz.prog 14 #[.pointer (some ⟨B, 0, none⟩), .int .i64 (x : Int)] wz fun e w' => e = .returned (.bool false) ∧ Below w4.heap.size w4 w') := fun wz hz => (HWX.out hxu wz (ext_trans HD4.out.hb hz)).mono fun e w' ⟨g1, g2⟩ => ⟨g1, ext_trans hz g2⟩
      have y2 : decide ((u : Int) ≤ (x : Int)) = false := by rw [decide_eq_false_iff_not]; omega
      clear HWU HBT3 HWX
      have HBX : Hid (Below w4.heap.size w4 w4) := Lib.hid (Below.refl _ _)
      go_wp2_with fail
      refine (HW4.out _ HBX.out).mono ?_
      rintro e w5 ⟨rfl, hb5⟩
      replace HBX : Hid (Below w4.heap.size w4 w5) := Lib.hid hb5
      clear hb5
      go_wp2_with fail
      refine (HBT4.out _ HBX.out).mono ?_
      rintro e w6 ⟨rfl, hb6⟩
      replace HBX : Hid (Below w4.heap.size w4 w6) := Lib.hid hb6
      clear hb6
      go_wp2_with fail
      refine (HX4.out _ HBX.out).mono ?_
      rintro e w7 ⟨rfl, hb7⟩
      replace HBX : Hid (Below w4.heap.size w4 w7) := Lib.hid hb7
      clear hb7
      go_wp2_with fail
      refine (HAW4.out _ HBX.out).mono ?_
      rintro e w8 ⟨rfl, hb8⟩
      replace HBX : Hid (Below w4.heap.size w4 w8) := Lib.hid hb8
      clear hb8
      go_wp2_with fail
      go_ret
      exact ⟨rfl, ext_trans HB4.out.hb HBX.out⟩
    · have y2 : decide ((u : Int) ≤ (x : Int)) = true := by rw [decide_eq_true_eq]; omega
      clear HWU HBT3 HWX
      have HBX : Hid (Below w4.heap.size w4 w4) := Lib.hid (Below.refl _ _)
      go_wp2_with fail
      refine (HW4.out _ HBX.out).mono ?_
      rintro e w5 ⟨rfl, hb5⟩
      replace HBX : Hid (Below w4.heap.size w4 w5) := Lib.hid hb5
      clear hb5
      go_wp2_with fail
      refine (HBT4.out _ HBX.out).mono ?_
      rintro e w6 ⟨rfl, hb6⟩
      replace HBX : Hid (Below w4.heap.size w4 w6) := Lib.hid hb6
      clear hb6
      go_wp2_with fail
      refine (HAW4.out _ HBX.out).mono ?_
      rintro e w7 ⟨rfl, hb7⟩
      replace HBX : Hid (Below w4.heap.size w4 w7) := Lib.hid hb7
      clear hb7
      go_wp2_with fail
      go_ret
      exact ⟨rfl, ext_trans HB4.out.hb HBX.out⟩
end Go.Proofs.YtbjnpiaooehmjaaGreatDoor
