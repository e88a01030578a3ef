/- The law CalendarAdds. -/
import Derived.Test.YtbjnpiaooehmjaaGreatDoorQCalHours
import Derived.Test.YtbjnpiaooehmjaaGreatDoorCalLaw
namespace Go.Proofs.YtbjnpiaooehmjaaGreatDoor
open Go.RowKit

set_option maxHeartbeats 4000000 in
set_option maxRecDepth 100000 in
theorem Adds_any (p : Value) (sh : List Sp) (cl : List Int) (t : Int) (x y : Nat) (w : World) (h : CalR w p sh cl) (hV : VarsC w) (hx : x < 65536) (hy : y < 65536) : Calls Tryz.prog 6 #[p, .int .i64 t, .agg #[.int .u16 (x : Int), .int .u16 (y : Int)]] w (Ret w (.bool true)) := by
  have HL := Lib.hid (LC.of h hV)
  obtain ⟨sv, cv, rfl, hsp, hsi⟩ := h
  obtain ⟨a, cap, rfl, _⟩ := hsp
  obtain ⟨a2, cap2, rfl, _⟩ := hsi
  clear hV
  have hz : ∀ o : Obj, (w.alloc o).heap.size = w.heap.size + 1 := fun o => by simp
  have HB0 := Lib.hid ((Box.start w (.slice a sh.length cap) (.slice a2 cl.length cap2) 25).alloc (.cells #[.int .u16 (x : Int), .int .u16 (y : Int)] 44))
  have HX0 : Hid (Box (w.alloc (.cells #[.slice a sh.length cap, .slice a2 cl.length cap2] 25)) (.int .u16 (x : Int)) (.int .u16 (y : Int)) ((w.alloc (.cells #[.slice a sh.length cap, .slice a2 cl.length cap2] 25)).alloc (.cells #[.int .u16 (x : Int), .int .u16 (y : Int)] 44))) := Lib.hid (Box.start _ _ _ 44)
  have HTM := Lib.hid (Time_any t)
  have q0 := HB0.out.q0
  have q1 := HB0.out.q1
  go_enter Tryz.func6, Tryz.ntmps6
  go_wp2_with fail
  refine (HL.out.rt _ HB0.out.hb).mono ?_
  rintro e w1 ⟨rfl, hb⟩
  have HB1 := Lib.hid (HB0.out.keep hb)
  have HX1 := Lib.hid (HX0.out.keep hb)
  clear hb q0 q1 HX0
  by_cases hE : newE sh cl = 0
  rotate_left
  · rw [show decide (newE sh cl = 0) = false by rw [decide_eq_false_iff_not]; exact hE]
    go_wp2_with fail
    refine (HL.out.aw _ HB1.out.hb).mono ?_
    rintro e w2 ⟨rfl, hb⟩
    have HB2 := Lib.hid (HB1.out.keep hb)
    clear hb
    go_wp2_with fail
    go_ret
    exact ⟨rfl, HB2.out.hb⟩
  rw [show decide (newE sh cl = 0) = true by rw [decide_eq_true_eq]; exact hE]
  have HG := Lib.hid (good_of hE)
  have HM := Lib.hid (HL.out.md hE)
  clear hE
  go_wp2_with fail
  refine (HTM.out _).mono ?_
  rintro e w2 ⟨rfl, rfl⟩
  cases ht : timeB t
  · clear ht
    go_wp2_with fail
    refine (HL.out.aw _ HB1.out.hb).mono ?_
    rintro e w3 ⟨rfl, hb⟩
    have HB3 := Lib.hid (HB1.out.keep hb)
    clear hb
    go_wp2_with fail
    go_ret
    exact ⟨rfl, HB3.out.hb⟩
  obtain ⟨s, rfl, hs⟩ : ∃ s : Nat, t = s ∧ s ≤ 1048576 := ⟨t.toNat, by unfold timeB at ht; simp at ht; omega, by unfold timeB at ht; simp at ht; omega⟩
  clear ht HTM
  have q0 := HB1.out.q0
  have q1 := HB1.out.q1
  have qs := HB1.out.qs
  go_wp2_with fail
  refine (HM.out _ HB1.out.hb).mono ?_
  rintro e w3 ⟨B, xa, xn, xc, ya, yn, yc, rfl, hP, hR, hb⟩
  have HB3 := Lib.hid (HB1.out.keep hb)
  have hx3 := HX1.out.keep hb
  have n0 : w3.cell? ⟨w.heap.size + 1, 0, none⟩ = some (.int .u16 (x : Int)) := by have := hx3.q0; rw [hz] at this; exact this
  have n1 : w3.cell? ⟨w.heap.size + 1, 1, none⟩ = some (.int .u16 (y : Int)) := by have := hx3.q1; rw [hz] at this; exact this
  have ns : w.heap.size + 1 < w3.heap.size := by have := hx3.qs; rw [hz] at this; exact this
  clear hx3 HX1 hz
  have HP := Lib.hid hP
  clear hb hP hR HM q0 q1 qs
  have v1 : IntKind.i64.wrap (x : Int) = x := IntWalk.i64_in _ (by omega)
  have v2 : IntKind.i64.wrap (y : Int) = y := IntWalk.i64_in _ (by omega)
  have v3 : IntKind.i64.wrap ((x : Int) + y) = x + y := IntWalk.i64_in _ (by omega)
  have HA : Hid (∀ z h W, Below w3.heap.size w3 W → Calls Tryz.prog 16 #[.pointer (some ⟨B, 0, none⟩), .int .i64 z, .int .i64 h] W (RetNE W (addCV sh cl z h) (addCE sh cl z h))) := Lib.hid fun z h W hW => Add_any _ sh cl z h W (HP.out.keep hW) HG.out
  have HN : Hid (∀ W, Below w3.heap.size w3 W → Calls Tryz.prog 12 #[.pointer (some ⟨B, 0, none⟩), .int .i64 s] W (RetNE W (nextV sh cl s) (nextE sh cl s))) := Lib.hid fun W hW => Next_any _ sh cl s W (HP.out.keep hW) HG.out
  have HW : Hid (∀ x W, Below w3.heap.size w3 W → Calls Tryz.prog 14 #[.pointer (some ⟨B, 0, none⟩), .int .i64 x] W (Ret W (.bool (workB sh cl x)))) := Lib.hid fun x W hW => Works_any _ sh cl x W (HP.out.keep hW) HG.out
  have HBT : Hid (∀ f u W, Below w3.heap.size w3 W → Calls Tryz.prog 18 #[.pointer (some ⟨B, 0, none⟩), .int .i64 f, .int .i64 u] W (Ret W (.int .i64 (btw sh cl f u)))) := Lib.hid fun f u W hW => Between_any _ sh cl f u W (HP.out.keep hW) HG.out
  have HD := Lib.hid (Box.start w3 (.slice xa xn xc) (.slice ya yn yc) 29)
  go_wp2_with fail
  go_region
  go_wp2_with fail
  have HD1 := Lib.hid (below_drewN' HD.out.hb 1)
  have HFIN : Hid (∀ W, Below w3.heap.size w3 W → Below w.heap.size w W) := Lib.hid fun W hW => ext_trans HB3.out.hb hW
  have HAW : Hid (∀ W, Below w3.heap.size w3 W → Calls Tryz.prog 10 #[] W (Ret W (.bool true))) := Lib.hid fun W hW => HL.out.aw W (HFIN.out W hW)
  clear n0 n1 ns HD HL
  rcases add_err (sh := sh) (cl := cl) (h := (x : Int)) hs (by omega) with ⟨hn, h1, h2⟩ | ⟨u, hn, h1, h2⟩
  · have HA1 := Lib.hid (HA.out s x)
    have HA2 := Lib.hid (HA.out s (x + y))
    have hb1 := (addO_none hs).1 hn
    have hn2 : addO sh cl s ((x : Int) + y) = none := (addO_none hs).2 (by omega)
    rw [h1, h2] at HA1
    rcases add_err (sh := sh) (cl := cl) (h := (x : Int) + y) hs (by omega) with ⟨_, g1, g2⟩ | ⟨u, hn3, _⟩
    rotate_left
    · rw [hn2] at hn3; cases hn3
    rw [g1, g2] at HA2
    have HB4 := Lib.hid (HBT.out s 1048576)
    generalize btw sh cl s 1048576 = r at HB4 hb1
    have y1 : decide (r < (x : Int)) = true := by rw [decide_eq_true_eq]; exact hb1
    clear HA HN HW HBT hn hn2 g1 g2 h1 h2
    refine (HA1.out _ HD1.out).mono ?_
    rintro e w4 ⟨rfl, hb⟩
    have HB5 := Lib.hid (ext_trans HD1.out hb)
    clear hb
    go_wp2_with fail
    refine (HA2.out _ HB5.out).mono ?_
    rintro e w5 ⟨rfl, hb⟩
    have HB6 := Lib.hid (ext_trans HB5.out hb)
    clear hb
    go_wp2_with fail
    refine (HB4.out _ HB6.out).mono ?_
    rintro e w6 ⟨rfl, hb⟩
    have HB7 := Lib.hid (ext_trans HB6.out hb)
    clear hb
    go_wp2_with fail
    refine (HAW.out _ HB7.out).mono ?_
    rintro e w7 ⟨rfl, hb⟩
    have HB8 := Lib.hid (ext_trans HB7.out hb)
    clear hb
    go_wp2_with fail
    go_ret
    exact ⟨rfl, HFIN.out _ HB8.out⟩
  · have HA1 := Lib.hid (HA.out s x)
    have HA2 := Lib.hid (HA.out s (x + y))
    have HA3 := Lib.hid (HA.out u y)
    rw [h1, h2] at HA1
    obtain ⟨k1, k2, k3, k4⟩ := addO_some (by omega) hn
    have htw := addO_twice (b := (y : Int)) (by omega) (by omega) hn
    have hV : addCV sh cl u y = addCV sh cl s ((x : Int) + y) := by unfold addCV; rw [if_neg (by omega), if_neg (by omega), Int.toNat_natCast, Int.toNat_natCast, htw]
    have hE2 : addCE sh cl u y = addCE sh cl s ((x : Int) + y) := by unfold addCE; rw [if_neg (by omega), if_neg (by omega), Int.toNat_natCast, Int.toNat_natCast, htw]
    rw [hV, hE2] at HA3
    generalize addCV sh cl s ((x : Int) + y) = V at *
    generalize addCE sh cl s ((x : Int) + y) = E at *
    have hbt : btw sh cl s u = x := by rw [btw_at k1 (by omega)]; exact k3
    have HB4 := Lib.hid (HBT.out s u)
    rw [hbt] at HB4
    have HW4 : Hid (0 < x → ∀ W, Below w3.heap.size w3 W → Calls Tryz.prog 14 #[.pointer (some ⟨B, 0, none⟩), .int .i64 ((u : Int) - 1)] W (Ret W (.bool true))) := Lib.hid fun hp W hW => by
      obtain ⟨j1, j2⟩ := k4 (by omega)
      have := HW.out ((u : Int) - 1) W hW
      rw [show (u : Int) - 1 = ((u - 1 : Nat) : Int) by omega] at this ⊢
      rw [workB_at (by omega), j2] at this
      exact this
    have HA5 := Lib.hid (HA.out s 1)
    have y1 : decide (u < s) = false := by rw [decide_eq_false_iff_not]; omega
    have z1 : (V != V) = false := by rw [bne_eq_false_iff_eq]
    have z2 : (E != E) = false := by rw [bne_eq_false_iff_eq]
    have z3 : ((x : Int) != (x : Int)) = false := by rw [bne_eq_false_iff_eq]
    have HNA : Hid (∀ n, nextO sh cl s = some n → (n = 1048576 → addO sh cl s 1 = none) ∧ (n < 1048576 → addO sh cl s 1 = some (n + 1)) ∧ n ≤ 1048576) := Lib.hid fun n hn => ⟨(next_add hs hn).1, (next_add hs hn).2, by have := (firstN_some hn).2.1; omega⟩
    have HE1 := Lib.hid (add_err (sh := sh) (cl := cl) (h := 1) hs (by omega))
    have HE2 := Lib.hid (next_err (sh := sh) (cl := cl) hs)
    have HWC : Hid (∀ Q : Prop, (0 < x → decide ((0 : Int) < (x : Int)) = true → Q) → (x = 0 → Q) → Q) := Lib.hid fun Q h1 h2 => by
      by_cases hp : 0 < x
      · exact h1 hp (by rw [decide_eq_true_eq]; omega)
      · exact h2 (by omega)
    have v9 : IntKind.i64.wrap ((u : Int) - 1) = u - 1 := IntWalk.i64_in _ (by omega)
    clear HA HW HBT hn h1 h2 k2 k3 k4 htw hV hE2 hbt
    generalize addCV sh cl s 1 = V5 at *
    generalize addCE sh cl s 1 = E5 at *
    generalize nextV sh cl s = NV at *
    generalize nextE sh cl s = NE at *
    refine (HA1.out _ HD1.out).mono ?_
    rintro e w4 ⟨rfl, hb⟩
    have HB5 := Lib.hid (ext_trans HD1.out hb)
    clear hb
    go_wp2_with fail
    refine (HA2.out _ HB5.out).mono ?_
    rintro e w5 ⟨rfl, hb⟩
    have HB6 := Lib.hid (ext_trans HB5.out hb)
    clear hb
    go_wp2_with fail
    refine (HA3.out _ HB6.out).mono ?_
    rintro e w6 ⟨rfl, hb⟩
    have HB7 := Lib.hid (ext_trans HB6.out hb)
    clear hb
    go_wp2_with fail
    refine (HB4.out _ HB7.out).mono ?_
    rintro e w7 ⟨rfl, hb⟩
    have HB8 := Lib.hid (ext_trans HB7.out hb)
    clear hb HA1 HA2 HA3 HB4 HB5 HB6 HB7 HD1
    refine HWC.out _ (fun hp p1 => ?_) (fun p1 => ?_)
    · have HW5 := Lib.hid (HW4.out hp)
      clear HW4 HWC
      go_wp2_with fail
      refine (HW5.out _ HB8.out).mono ?_
      rintro e w8 ⟨rfl, hb⟩
      have HB9 := Lib.hid (ext_trans HB8.out hb)
      clear hb
      go_wp2_with fail
      refine (HN.out _ HB9.out).mono ?_
      rintro e w9 ⟨rfl, hb⟩
      have HB10 := Lib.hid (ext_trans HB9.out hb)
      clear hb
      go_wp2_with fail
      refine (HA5.out _ HB10.out).mono ?_
      rintro e w10 ⟨rfl, hb⟩
      have HB11 := Lib.hid (ext_trans HB10.out hb)
      clear hb
      rcases HE2.out with ⟨hn, h1, h2⟩ | ⟨n, hn, h1, h2⟩
      · subst h1 h2
        clear hn
        go_wp2_with fail
        refine (HAW.out _ HB11.out).mono ?_
        rintro e w11 ⟨rfl, hb⟩
        have HB12 := Lib.hid (ext_trans HB11.out hb)
        clear hb
        go_wp2_with fail
        go_ret
        exact ⟨rfl, HFIN.out _ HB12.out⟩
      · subst h1 h2
        obtain ⟨m1, m2, m3⟩ := HNA.out n hn
        by_cases hmx : n = 1048576
        · subst hmx
          rcases HE1.out with ⟨_, g1, g2⟩ | ⟨v, g0, _⟩
          rotate_left
          · rw [m1 rfl] at g0; cases g0
          subst g1 g2
          clear hn m1 m2 m3
          go_wp2_with fail
          refine (HAW.out _ HB11.out).mono ?_
          rintro e w11 ⟨rfl, hb⟩
          have HB12 := Lib.hid (ext_trans HB11.out hb)
          clear hb
          go_wp2_with fail
          go_ret
          exact ⟨rfl, HFIN.out _ HB12.out⟩
        · rcases HE1.out with ⟨g0, _⟩ | ⟨v, g0, g1, g2⟩
          · rw [m2 (by omega)] at g0; cases g0
          rw [m2 (by omega)] at g0
          have hv := Option.some.inj g0
          subst hv
          subst g1 g2
          have y5 : ((n : Int) == 1048576) = false := by rw [beq_eq_false_iff_ne]; omega
          have y6 : IntKind.i64.wrap ((n : Int) + 1) = n + 1 := IntWalk.i64_in _ (by omega)
          have y7 : (((n + 1 : Nat) : Int) == (n : Int) + 1) = true := by rw [beq_iff_eq]; omega
          clear hn g0 m1 m2
          go_wp2_with fail
          refine (HAW.out _ HB11.out).mono ?_
          rintro e w11 ⟨rfl, hb⟩
          have HB12 := Lib.hid (ext_trans HB11.out hb)
          clear hb
          go_wp2_with fail
          go_ret
          exact ⟨rfl, HFIN.out _ HB12.out⟩
    · subst p1
      clear HW4 HWC
      have HB9 := HB8
      go_wp2_with fail
      refine (HN.out _ HB9.out).mono ?_
      rintro e w9 ⟨rfl, hb⟩
      have HB10 := Lib.hid (ext_trans HB9.out hb)
      clear hb
      go_wp2_with fail
      refine (HA5.out _ HB10.out).mono ?_
      rintro e w10 ⟨rfl, hb⟩
      have HB11 := Lib.hid (ext_trans HB10.out hb)
      clear hb
      rcases HE2.out with ⟨hn, h1, h2⟩ | ⟨n, hn, h1, h2⟩
      · subst h1 h2
        clear hn
        go_wp2_with fail
        refine (HAW.out _ HB11.out).mono ?_
        rintro e w11 ⟨rfl, hb⟩
        have HB12 := Lib.hid (ext_trans HB11.out hb)
        clear hb
        go_wp2_with fail
        go_ret
        exact ⟨rfl, HFIN.out _ HB12.out⟩
      · subst h1 h2
        obtain ⟨m1, m2, m3⟩ := HNA.out n hn
        by_cases hmx : n = 1048576
        · subst hmx
          rcases HE1.out with ⟨_, g1, g2⟩ | ⟨v, g0, _⟩
          rotate_left
          · rw [m1 rfl] at g0; cases g0
          subst g1 g2
          clear hn m1 m2 m3
          go_wp2_with fail
          refine (HAW.out _ HB11.out).mono ?_
          rintro e w11 ⟨rfl, hb⟩
          have HB12 := Lib.hid (ext_trans HB11.out hb)
          clear hb
          go_wp2_with fail
          go_ret
          exact ⟨rfl, HFIN.out _ HB12.out⟩
        · rcases HE1.out with ⟨g0, _⟩ | ⟨v, g0, g1, g2⟩
          · rw [m2 (by omega)] at g0; cases g0
          rw [m2 (by omega)] at g0
          have hv := Option.some.inj g0
          subst hv
          subst g1 g2
          have y5 : ((n : Int) == 1048576) = false := by rw [beq_eq_false_iff_ne]; omega
          have y6 : IntKind.i64.wrap ((n : Int) + 1) = n + 1 := IntWalk.i64_in _ (by omega)
          have y7 : (((n + 1 : Nat) : Int) == (n : Int) + 1) = true := by rw [beq_iff_eq]; omega
          clear hn g0 m1 m2
          go_wp2_with fail
          refine (HAW.out _ HB11.out).mono ?_
          rintro e w11 ⟨rfl, hb⟩
          have HB12 := Lib.hid (ext_trans HB11.out hb)
          clear hb
          go_wp2_with fail
          go_ret
          exact ⟨rfl, HFIN.out _ HB12.out⟩
end Go.Proofs.YtbjnpiaooehmjaaGreatDoor
