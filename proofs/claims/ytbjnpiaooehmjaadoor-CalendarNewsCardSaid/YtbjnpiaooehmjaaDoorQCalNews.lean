/- The law CalendarNews. -/
import Derived.Test.YtbjnpiaooehmjaaDoorCalLC
namespace Go.Proofs.YtbjnpiaooehmjaaDoor
open Go.RowKit

set_option maxHeartbeats 4000000 in
set_option maxRecDepth 100000 in
theorem News_any (p : Value) (sh : List Sp) (cl : List Int) (w : World) (h : CalR w p sh cl) (hV : VarsC w) : Calls Tryd.prog 3 #[p] w (Ret w (.bool true)) := by
  have HL := Lib.hid (LC.of h hV)
  obtain ⟨sv, cv, rfl, hsp, hsi⟩ := h
  have HN : Hid (∀ W, Below w.heap.size w W → Calls Tryd.prog 7 #[sv, cv] W fun e W' => ∃ a n c a2 n2 c2, e = .returned (.tuple #[.agg #[.slice a n c, .slice a2 n2 c2], .int .i64 (newE sh cl)]) ∧ Below W.heap.size W W') := fun W hW => (rNew_any sv cv sh cl W (hsp.keep hW) (hsi.keep hW)).mono fun e W' ⟨_, _, _, _, _, _, he, _, hb⟩ => ⟨_, _, _, _, _, _, he, hb⟩
  have HP : Hid (∀ W, Below w.heap.size w W → Calls Tryd.prog 6 #[sv, cv] W fun e W' => ((newE sh cl = 0 ∧ ∃ B, e = .returned (.tuple #[.pointer (some ⟨B, 0, none⟩), .int .i64 0])) ∨ (newE sh cl ≠ 0 ∧ e = .returned (.tuple #[.pointer none, .int .i64 (newE sh cl)]))) ∧ Below W.heap.size W W') := fun W hW => (New_any sv cv sh cl W (hsp.keep hW) (hsi.keep hW)).mono fun e W' ⟨v, he, h2, h3, hb⟩ => by
    refine ⟨?_, hb⟩
    by_cases hE : newE sh cl = 0
    · obtain ⟨B, sv', cv', rfl, r⟩ := h2 hE
      exact .inl ⟨hE, B, by rw [he, hE]⟩
    · refine .inr ⟨hE, ?_⟩
      rw [he, h3 hE]
  obtain ⟨a, cap, rfl, g1, g2, _⟩ := hsp
  obtain ⟨a2, cap2, rfl, g3, g4, _⟩ := hsi
  clear hV
  have hm1 : sh.length ≤ 9223372036854775807 := by unfold maxLen at g2; omega
  have hm2 : cl.length ≤ 9223372036854775807 := by unfold maxLen at g4; omega
  have HB0 := Lib.hid (Box.start w (.slice a sh.length cap) (.slice a2 cl.length cap2) 25)
  have q0 := HB0.out.q0
  have q1 := HB0.out.q1
  by_cases c1 : 30 < sh.length
  · have e1 : decide ((30 : Int) < sh.length) = true := by rw [decide_eq_true_eq]; omega
    go_enter Tryd.func3, Tryd.ntmps3
    go_wp2_with fail
    refine (HL.out.aw _ HB0.out.hb).mono ?_
    rintro e w2 ⟨rfl, hb⟩
    have HB2 := Lib.hid (HB0.out.keep hb)
    clear hb
    go_wp2_with fail
    go_ret
    exact ⟨rfl, HB2.out.hb⟩
  have e1 : decide ((30 : Int) < sh.length) = false := by rw [decide_eq_false_iff_not]; omega
  by_cases c2 : 410 < cl.length
  · have e2 : decide ((410 : Int) < cl.length) = true := by rw [decide_eq_true_eq]; omega
    go_enter Tryd.func3, Tryd.ntmps3
    go_wp2_with fail
    refine (HL.out.aw _ HB0.out.hb).mono ?_
    rintro e w2 ⟨rfl, hb⟩
    have HB2 := Lib.hid (HB0.out.keep hb)
    clear hb
    go_wp2_with fail
    go_ret
    exact ⟨rfl, HB2.out.hb⟩
  have e2 : decide ((410 : Int) < cl.length) = false := by rw [decide_eq_false_iff_not]; omega
  have HAW := Lib.hid HL.out.aw
  clear HL
  generalize newE sh cl = E at *
  have z1 : (E == E) = true := by rw [beq_iff_eq]
  go_enter Tryd.func3, Tryd.ntmps3
  go_wp2_with fail
  refine (HP.out _ HB0.out.hb).mono ?_
  rintro e w1 ⟨hr, hb⟩
  have HB1 := Lib.hid (HB0.out.keep hb)
  clear hb q0 q1
  have q0 := HB1.out.q0
  have q1 := HB1.out.q1
  have qs := HB1.out.qs
  rcases hr with ⟨rfl, B, rfl⟩ | ⟨hE, rfl⟩
  · go_wp2_with fail
    refine (HN.out _ HB1.out.hb).mono ?_
    rintro e w2 ⟨xa, xn, xc, ya, yn, yc, rfl, hb⟩
    have HB2 := Lib.hid (HB1.out.keep hb)
    clear hb
    go_wp2_with fail
    have HD := Lib.hid (HB2.out.alloc (.cells #[.slice xa xn xc, .slice ya yn yc] 31))
    refine (HAW.out _ (by first | exact HD.out.hb | exact HB2.out.hb)).mono ?_
    rintro e w3 ⟨rfl, hb⟩
    have HB3 : Hid (Below w.heap.size w w3) := Lib.hid (by first | exact ext_trans HD.out.hb hb | exact ext_trans HB2.out.hb hb)
    clear hb
    go_wp2_with fail
    go_ret
    exact ⟨rfl, HB3.out⟩
  · have z2 : (E == 0) = false := by rw [beq_eq_false_iff_ne]; exact hE
    have z3 : (E != 0) = true := by rw [bne_iff_ne]; exact hE
    clear hE
    go_wp2_with fail
    refine (HN.out _ HB1.out.hb).mono ?_
    rintro e w2 ⟨xa, xn, xc, ya, yn, yc, rfl, hb⟩
    have HB2 := Lib.hid (HB1.out.keep hb)
    clear hb
    go_wp2_with fail
    have HD := Lib.hid (HB2.out.alloc (.cells #[.slice xa xn xc, .slice ya yn yc] 31))
    refine (HAW.out _ (by first | exact HD.out.hb | exact HB2.out.hb)).mono ?_
    rintro e w3 ⟨rfl, hb⟩
    have HB3 : Hid (Below w.heap.size w w3) := Lib.hid (by first | exact ext_trans HD.out.hb hb | exact ext_trans HB2.out.hb hb)
    clear hb
    go_wp2_with fail
    go_ret
    exact ⟨rfl, HB3.out⟩
end Go.Proofs.YtbjnpiaooehmjaaDoor
