/- The law CalendarWeeks. -/
import Derived.Test.YtbjnpiaooehmjaaGreatDoorQCalHours
import Derived.Test.YtbjnpiaooehmjaaGreatDoorCalLaw
namespace Go.Proofs.YtbjnpiaooehmjaaGreatDoor
open Go.RowKit

theorem SI.elem {w : World} {a : Option Addr} {n cap : Nat} {xs : List Int} (h : SI w (.slice a n cap) xs) {k : Nat} (hk : k < xs.length) : ∃ b off, a = some ⟨b, off, none⟩ ∧ w.cell? ⟨b, off + k, none⟩ = some (.int .i64 (gi xs k)) := by
  obtain ⟨a', cap', e, _, _, h3⟩ := h
  simp only [Value.slice.injEq] at e
  obtain ⟨rfl, rfl, rfl⟩ := e
  exact h3 k hk
set_option maxHeartbeats 4000000 in
set_option maxRecDepth 100000 in
theorem Weeks_any (p : Value) (sh : List Sp) (cl : List Int) (t : Int) (m : Nat) (w : World) (h : CalR w p sh cl) (hV : VarsC w) (hm : m < 256) : Calls Tryz.prog 8 #[p, .int .i64 t, .int .u8 (m : Int)] w (Ret w (.bool true)) := by
  have HL := Lib.hid (LC.of h hV)
  obtain ⟨sv, cv, rfl, hsp, hsi⟩ := h
  have HSP := Lib.hid hsp
  have HSI := Lib.hid hsi
  obtain ⟨a, cap, rfl, _⟩ := hsp
  obtain ⟨a2, cap2, rfl, _⟩ := hsi
  clear hV
  have HB0 := Lib.hid (Box.start w (.slice a sh.length cap) (.slice a2 cl.length cap2) 25)
  have HTM := Lib.hid (Time_any t)
  have q0 := HB0.out.q0
  have q1 := HB0.out.q1
  go_enter Tryz.func8, Tryz.ntmps8
  go_wp2_with fail
  refine (HL.out.rt _ HB0.out.hb).mono ?_
  rintro e w1 ⟨rfl, hb⟩
  have HB1 := Lib.hid (HB0.out.keep hb)
  clear hb q0 q1
  by_cases hE : newE sh cl = 0
  rotate_left
  · rw [show decide (newE sh cl = 0) = false by rw [decide_eq_false_iff_not]; exact hE]
    go_wp2_with fail
    refine (HL.out.aw _ HB1.out.hb).mono ?_
    rintro e w2 ⟨rfl, hb⟩
    have HB2 := Lib.hid (HB1.out.keep hb)
    clear hb
    go_wp2_with fail
    go_ret
    exact ⟨rfl, HB2.out.hb⟩
  rw [show decide (newE sh cl = 0) = true by rw [decide_eq_true_eq]; exact hE]
  have HG := Lib.hid (good_of hE)
  have HE0 := Lib.hid (newE_open hE)
  have HM := Lib.hid (HL.out.md hE)
  clear hE
  go_wp2_with fail
  refine (HTM.out _).mono ?_
  rintro e w2 ⟨rfl, rfl⟩
  cases ht : timeB t
  · clear ht
    go_wp2_with fail
    refine (HL.out.aw _ HB1.out.hb).mono ?_
    rintro e w3 ⟨rfl, hb⟩
    have HB3 := Lib.hid (HB1.out.keep hb)
    clear hb
    go_wp2_with fail
    go_ret
    exact ⟨rfl, HB3.out.hb⟩
  obtain ⟨s, rfl, hs⟩ : ∃ s : Nat, t = s ∧ s ≤ 1048576 := ⟨t.toNat, by unfold timeB at ht; simp at ht; omega, by unfold timeB at ht; simp at ht; omega⟩
  clear ht HTM
  have q0 := HB1.out.q0
  have q1 := HB1.out.q1
  have qs := HB1.out.qs
  by_cases h0 : cl.length = 0
  · have y0 : ((cl.length : Int) == 0) = true := by rw [beq_iff_eq]; omega
    go_wp2_with fail
    refine (HL.out.aw _ HB1.out.hb).mono ?_
    rintro e w3 ⟨rfl, hb⟩
    have HB3 := Lib.hid (HB1.out.keep hb)
    clear hb
    go_wp2_with fail
    go_ret
    exact ⟨rfl, HB3.out.hb⟩
  have y0 : ((cl.length : Int) == 0) = false := by rw [beq_eq_false_iff_ne]; omega
  go_wp2_with fail
  refine (HM.out _ HB1.out.hb).mono ?_
  rintro e w3 ⟨B, xa, xn, xc, ya, yn, yc, rfl, hP, hR, hb⟩
  have HB3 := Lib.hid (HB1.out.keep hb)
  have HP := Lib.hid hP
  clear hb hP hR HM q0 q1 qs
  have q0 := HB3.out.q0
  have q1 := HB3.out.q1
  have qs := HB3.out.qs
  have HD := Lib.hid (Box.start w3 (.slice xa xn xc) (.slice ya yn yc) 29)
  have HB3D := Lib.hid (HB3.out.keep HD.out.hb)
  go_wp2_with fail
  refine (New_yes (HSP.out.keep HB3D.out.hb) (SI_nil _) HE0.out).mono ?_
  rintro e w4 ⟨B2, rfl, hC, hb⟩
  have HB4 := Lib.hid (HB3D.out.keep hb)
  have HC := Lib.hid hC
  have HPc := Lib.hid ((HP.out.keep HD.out.hb).keep hb)
  clear hb hC q0 q1 qs HP HD HB3D
  have q0 := HB4.out.q0
  have q1 := HB4.out.q1
  have qs := HB4.out.qs
  have HSI4 := Lib.hid (HSI.out.keep HB4.out.hb)
  have HG2 := Lib.hid (good_of HE0.out)
  obtain ⟨d, hd⟩ : ∃ d : Nat, d = s / 24 := ⟨_, rfl⟩
  have hd2 : (s : Int) / 24 = d := by omega
  have HDC := Lib.hid (day_clD cl d)
  have HWK := Lib.hid (wk_weeks (sh := sh) (cl := cl) (t := s) (k := m) hs)
  rw [← hd] at HWK
  have hml : cl.length ≤ 9223372036854775807 := by have := HG.out.n3; omega
  clear hd
  go_wp2_with fail
  go_loopw [12, 13] (fun c i wr => ∃ k : Nat, k ≤ cl.length ∧ c = .bool ((cl.take k).any fun z => z == (d : Int)) ∧ i = .int .i64 k ∧ ∃ n, wr = w4.drewN n) (fun _ i _ => cl.length - (intOf i).toNat)
  case atStart => exact ⟨0, Nat.zero_le _, by rfl, rfl, 0, rfl⟩
  case round =>
    obtain ⟨k, hk, rfl, rfl, n, rfl⟩ := hrel
    by_cases hlt : k < cl.length
    · obtain ⟨b, off, ha, hc⟩ := HSI4.out.elem hlt
      have HT : Hid (((cl.take (k + 1)).any fun z => z == (d : Int)) = (((cl.take k).any fun z => z == (d : Int)) || (gi cl k == (d : Int)))) := Lib.hid (by rw [take_succ_gi hlt, List.any_append]; simp)
      generalize ((cl.take k).any fun z => z == (d : Int)) = c at *
      subst ha
      generalize gi cl k = z at *
      cases c
      · go_wp2_with fail
        go_roundw
        case rel => exact ⟨k + 1, by omega, by rw [HT.out]; simp, by go_num, _, rfl⟩
        case measure => simp [intOf]; omega
      · go_wp2_with fail
        go_roundw
        case rel => exact ⟨k + 1, by omega, by rw [HT.out]; rfl, by go_num, _, rfl⟩
        case measure => simp [intOf]; omega
    · have e : cl.take k = cl := List.take_of_length_le (by omega)
      rw [e, HDC.out]
      have v1 : IntKind.i64.wrap (m : Int) = m := IntWalk.i64_in _ (by omega)
      have v2 : IntKind.i64.wrap (168 * (m : Int)) = 168 * m := IntWalk.i64_in _ (by omega)
      obtain ⟨x, hx⟩ : ∃ x : Nat, x = s + 168 * m := ⟨_, rfl⟩
      have hx2 : (s : Int) + 168 * (m : Int) = x := by omega
      have hx3 : x ≤ 2000000 := by omega
      have HBN : Hid (Below w.heap.size w (w4.drewN n)) := Lib.hid (below_drewN' HB4.out.hb n)
      have HW1 : Hid (∀ W, Below w4.heap.size w4 W → Calls Tryz.prog 14 #[.pointer (some ⟨B, 0, none⟩), .int .i64 s] W (Ret W (.bool (workB sh [] s && !clD cl d)))) := Lib.hid fun W hW => by rw [← HWK.out.1]; exact Works_any _ sh cl s W (HPc.out.keep hW) HG.out
      have HW2 : Hid (∀ W, Below w4.heap.size w4 W → Calls Tryz.prog 14 #[.pointer (some ⟨B2, 0, none⟩), .int .i64 s] W (Ret W (.bool (workB sh [] s)))) := Lib.hid fun W hW => Works_any _ sh [] s W (HC.out.keep hW) HG2.out
      have HW3 : Hid (x ≤ 1048576 → ∀ W, Below w4.heap.size w4 W → Calls Tryz.prog 14 #[.pointer (some ⟨B2, 0, none⟩), .int .i64 (x : Int)] W (Ret W (.bool (workB sh [] s)))) := Lib.hid fun hxm W hW => by
        have := HWK.out.2 (by omega)
        rw [← hx] at this
        rw [← this]; exact Works_any _ sh [] x W (HC.out.keep hW) HG2.out
      have HAW : Hid (∀ W, Below w4.heap.size w4 W → Calls Tryz.prog 10 #[] W (Ret W (.bool true))) := Lib.hid fun W hW => HL.out.aw W (ext_trans HB4.out.hb hW)
      have HX0 : Hid (Below w4.heap.size w4 (w4.drewN n)) := Lib.hid (below_drewN' (Below.refl _ _) n)
      have HFIN : Hid (∀ W, Below w4.heap.size w4 W → Below w.heap.size w W) := Lib.hid fun W hW => ext_trans HB4.out.hb hW
      clear HDC e hk HWK HPc HC HL hx
      generalize workB sh [] s = b1 at *
      generalize clD cl d = c1 at *
      by_cases hxm : x ≤ 1048576
      · have y1 : decide ((1048576 : Int) < (x : Int)) = false := by rw [decide_eq_false_iff_not]; omega
        have HW4 := Lib.hid (HW3.out hxm)
        clear HW3
        cases b1 <;> cases c1
        all_goals
          go_wp2_with fail
          refine (HW1.out _ HX0.out).mono ?_
          rintro e w5 ⟨rfl, hb⟩
          have HX1 := Lib.hid (ext_trans HX0.out hb)
          clear hb
          go_wp2_with fail
          refine (HW2.out _ HX1.out).mono ?_
          rintro e w6 ⟨rfl, hb⟩
          have HX2 := Lib.hid (ext_trans HX1.out hb)
          clear hb
          go_wp2_with fail
          refine (HW4.out _ HX2.out).mono ?_
          rintro e w7 ⟨rfl, hb⟩
          have HX3 := Lib.hid (ext_trans HX2.out hb)
          clear hb
          go_wp2_with fail
          refine (HW2.out _ HX3.out).mono ?_
          rintro e w8 ⟨rfl, hb⟩
          have HX4 := Lib.hid (ext_trans HX3.out hb)
          clear hb
          go_wp2_with fail
          refine (HAW.out _ HX4.out).mono ?_
          rintro e w9 ⟨rfl, hb⟩
          have HX5 := Lib.hid (ext_trans HX4.out hb)
          clear hb
          go_wp2_with fail
          go_ret
          exact ⟨rfl, HFIN.out _ HX5.out⟩
      · have y1 : decide ((1048576 : Int) < (x : Int)) = true := by rw [decide_eq_true_eq]; omega
        clear HW3
        cases b1 <;> cases c1
        all_goals
          go_wp2_with fail
          refine (HW1.out _ HX0.out).mono ?_
          rintro e w5 ⟨rfl, hb⟩
          have HX1 := Lib.hid (ext_trans HX0.out hb)
          clear hb
          go_wp2_with fail
          refine (HW2.out _ HX1.out).mono ?_
          rintro e w6 ⟨rfl, hb⟩
          have HX2 := Lib.hid (ext_trans HX1.out hb)
          clear hb
          go_wp2_with fail
          refine (HAW.out _ HX2.out).mono ?_
          rintro e w9 ⟨rfl, hb⟩
          have HX5 := Lib.hid (ext_trans HX2.out hb)
          clear hb
          go_wp2_with fail
          go_ret
          exact ⟨rfl, HFIN.out _ HX5.out⟩
end Go.Proofs.YtbjnpiaooehmjaaGreatDoor
