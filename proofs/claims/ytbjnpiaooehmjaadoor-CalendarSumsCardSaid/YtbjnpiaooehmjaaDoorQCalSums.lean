/- The law CalendarSums. -/
import Derived.Test.YtbjnpiaooehmjaaDoorCalLC
import Derived.Test.YtbjnpiaooehmjaaDoorCalLaw
namespace Go.Proofs.YtbjnpiaooehmjaaDoor
open Go.RowKit

set_option maxHeartbeats 4000000 in
set_option maxRecDepth 100000 in
theorem Sums_any (p : Value) (sh : List Sp) (cl : List Int) (t : Int) (x y : Nat) (w : World) (h : CalR w p sh cl) (hV : VarsC w) (hx : x < 256) (hy : y < 256) : Calls Tryd.prog 4 #[p, .int .i64 t, .agg #[.int .u8 (x : Int), .int .u8 (y : Int)]] w (Ret w (.bool true)) := by
  have HL := Lib.hid (LC.of h hV)
  obtain ⟨sv, cv, rfl, hsp, hsi⟩ := h
  obtain ⟨a, cap, rfl, _⟩ := hsp
  obtain ⟨a2, cap2, rfl, _⟩ := hsi
  clear hV
  have hz : ∀ o : Obj, (w.alloc o).heap.size = w.heap.size + 1 := fun o => by simp
  have HB0 := Lib.hid ((Box.start w (.slice a sh.length cap) (.slice a2 cl.length cap2) 25).alloc (.cells #[.int .u8 (x : Int), .int .u8 (y : Int)] 35))
  have HX0 : Hid (Box (w.alloc (.cells #[.slice a sh.length cap, .slice a2 cl.length cap2] 25)) (.int .u8 (x : Int)) (.int .u8 (y : Int)) ((w.alloc (.cells #[.slice a sh.length cap, .slice a2 cl.length cap2] 25)).alloc (.cells #[.int .u8 (x : Int), .int .u8 (y : Int)] 35))) := Lib.hid (Box.start _ _ _ 35)
  have q0 := HB0.out.q0
  have q1 := HB0.out.q1
  go_enter Tryd.func4, Tryd.ntmps4
  go_wp2_with fail
  refine (HL.out.rt _ HB0.out.hb).mono ?_
  rintro e w1 ⟨rfl, hb⟩
  have HB1 := Lib.hid (HB0.out.keep hb)
  have HX1 := Lib.hid (HX0.out.keep hb)
  clear hb q0 q1 HX0
  by_cases hE : newE sh cl = 0
  rotate_left
  · rw [show decide (newE sh cl = 0) = false by rw [decide_eq_false_iff_not]; exact hE]
    go_wp2_with fail
    refine (HL.out.aw _ HB1.out.hb).mono ?_
    rintro e w2 ⟨rfl, hb⟩
    have HB2 := Lib.hid (HB1.out.keep hb)
    clear hb
    go_wp2_with fail
    go_ret
    exact ⟨rfl, HB2.out.hb⟩
  rw [show decide (newE sh cl = 0) = true by rw [decide_eq_true_eq]; exact hE]
  have HG := Lib.hid (good_of hE)
  have HM := Lib.hid (HL.out.md hE)
  clear hE
  by_cases t1 : t < -1000
  · have y1 : decide (t < -1000) = true := by rw [decide_eq_true_eq]; exact t1
    go_wp2_with fail
    refine (HL.out.aw _ HB1.out.hb).mono ?_
    rintro e w3 ⟨rfl, hb⟩
    have HB3 := Lib.hid (HB1.out.keep hb)
    clear hb
    go_wp2_with fail
    go_ret
    exact ⟨rfl, HB3.out.hb⟩
  have y1 : decide (t < -1000) = false := by rw [decide_eq_false_iff_not]; exact t1
  by_cases t2 : 1049576 < t
  · have y2 : decide (1049576 < t) = true := by rw [decide_eq_true_eq]; exact t2
    go_wp2_with fail
    refine (HL.out.aw _ HB1.out.hb).mono ?_
    rintro e w3 ⟨rfl, hb⟩
    have HB3 := Lib.hid (HB1.out.keep hb)
    clear hb
    go_wp2_with fail
    go_ret
    exact ⟨rfl, HB3.out.hb⟩
  have y2 : decide (1049576 < t) = false := by rw [decide_eq_false_iff_not]; exact t2
  have q0 := HB1.out.q0
  have q1 := HB1.out.q1
  have qs := HB1.out.qs
  go_wp2_with fail
  refine (HM.out _ HB1.out.hb).mono ?_
  rintro e w3 ⟨B, xa, xn, xc, ya, yn, yc, rfl, hP, hR, hb⟩
  have HB3 := Lib.hid (HB1.out.keep hb)
  have hx3 := HX1.out.keep hb
  have n0 : w3.cell? ⟨w.heap.size + 1, 0, none⟩ = some (.int .u8 (x : Int)) := by have := hx3.q0; rw [hz] at this; exact this
  have n1 : w3.cell? ⟨w.heap.size + 1, 1, none⟩ = some (.int .u8 (y : Int)) := by have := hx3.q1; rw [hz] at this; exact this
  have ns : w.heap.size + 1 < w3.heap.size := by have := hx3.qs; rw [hz] at this; exact this
  clear hx3 HX1 hz
  have HP := Lib.hid hP
  clear hb hP hR HM q0 q1 qs
  have HW : Hid (∀ x W, Below w3.heap.size w3 W → Calls Tryd.prog 10 #[.pointer (some ⟨B, 0, none⟩), .int .i64 x] W (Ret W (.bool (workB sh cl x)))) := Lib.hid fun x W hW => Works_any _ sh cl x W (HP.out.keep hW) HG.out
  have HBT : Hid (∀ f u W, Below w3.heap.size w3 W → Calls Tryd.prog 11 #[.pointer (some ⟨B, 0, none⟩), .int .i64 f, .int .i64 u] W (Ret W (.int .i64 (btw sh cl f u)))) := Lib.hid fun f u W hW => Between_any _ sh cl f u W (HP.out.keep hW) HG.out
  have HD := Lib.hid (Box.start w3 (.slice xa xn xc) (.slice ya yn yc) 31)
  have v1 : IntKind.i64.wrap (x : Int) = x := IntWalk.i64_in _ (by omega)
  have v2 : IntKind.i64.wrap (y : Int) = y := IntWalk.i64_in _ (by omega)
  obtain ⟨xm, hxm⟩ : ∃ xm : Nat, xm = x % 200 := ⟨_, rfl⟩
  obtain ⟨ym, hym⟩ : ∃ ym : Nat, ym = y % 200 := ⟨_, rfl⟩
  have r1 : (x : Int) % 200 = xm := by omega
  have r2 : (y : Int) % 200 = ym := by omega
  have r3 : Int.tmod (x : Int) 200 = xm := by rw [Int.tmod_eq_emod_of_nonneg (by omega)]; omega
  have r4 : Int.tmod (y : Int) 200 = ym := by rw [Int.tmod_eq_emod_of_nonneg (by omega)]; omega
  have hx9 : xm < 200 := by omega
  have hy9 : ym < 200 := by omega
  obtain ⟨M, hM⟩ : ∃ M : Int, t + xm = M := ⟨_, rfl⟩
  obtain ⟨N, hN⟩ : ∃ N : Int, M + ym = N := ⟨_, rfl⟩
  have v3 : IntKind.i64.wrap M = M := IntWalk.i64_in _ (by omega)
  have v4 : IntKind.i64.wrap N = N := IntWalk.i64_in _ (by omega)
  have hMN : t ≤ M ∧ M ≤ N ∧ N ≤ t + 400 := by omega
  clear hxm hym
  have HFIN : Hid (∀ W, Below w3.heap.size w3 W → Below w.heap.size w W) := Lib.hid fun W hW => ext_trans HB3.out.hb hW
  have HAW : Hid (∀ W, Below w3.heap.size w3 W → Calls Tryd.prog 5 #[] W (Ret W (.bool true))) := Lib.hid fun W hW => HL.out.aw W (HFIN.out W hW)
  have HSUC : Hid (∀ j : Nat, btw sh cl t (t + j + 1) = btw sh cl t (t + j) + if workB sh cl (t + j) = true then 1 else 0) := Lib.hid fun j => btw_succ (by omega)
  have H00 : Hid (btw sh cl t t = 0) := Lib.hid (btw_back (Int.le_refl _))
  have HPL := Lib.hid (btw_plus (sh := sh) (cl := cl) hMN.1 hMN.2.1)
  have HBK : Hid (btw sh cl N t = 0) := Lib.hid (btw_back (by omega))
  have HBD := Lib.hid fun f u => btw_bound (sh := sh) (cl := cl) (f := f) (u := u)
  clear HL
  go_wp2_with fail
  go_loopw [12, 13] (fun k i wr => ∃ j : Nat, t + j ≤ N ∧ k = .int .i64 (btw sh cl t (t + j)) ∧ i = .int .i64 (t + j) ∧ Hid (Below w3.heap.size w3 wr)) (fun _ i _ => (N - intOf i).toNat)
  case atStart => exact ⟨0, by omega, by rw [show t + ((0 : Nat) : Int) = t by omega, H00.out], by rw [show t + ((0 : Nat) : Int) = t by omega], HD.out.hb⟩
  case round =>
    obtain ⟨j, hj, rfl, rfl, HX⟩ := hrel
    obtain ⟨z, hzz⟩ : ∃ z : Int, t + j = z := ⟨_, rfl⟩
    have HS := Lib.hid (HSUC.out j)
    have hb9 := HBD.out t z
    rw [hzz] at HS hj ⊢
    by_cases hlt : z < N
    · have HWZ := Lib.hid (HW.out z)
      have v5 : IntKind.i64.wrap (z + 1) = z + 1 := IntWalk.i64_in _ (by omega)
      have HJ : Hid (t + ((j + 1 : Nat) : Int) = z + 1) := Lib.hid (by omega)
      cases hwb : workB sh cl z
      · rw [hwb] at HWZ HS
        have HS2 : Hid (btw sh cl t (z + 1) = btw sh cl t z) := Lib.hid (by rw [HS.out]; simp)
        clear HS
        generalize btw sh cl t z = K at *
        clear hwb HW HBT HSUC hb9
        go_wp2_with fail
        refine (HWZ.out _ HX.out).mono ?_
        rintro e w5 ⟨rfl, hb⟩
        have HX5 := Lib.hid (ext_trans HX.out hb)
        clear hb
        go_wp2_with fail
        go_roundw
        case rel => exact ⟨j + 1, by rw [HJ.out]; omega, by rw [HJ.out, HS2.out], by rw [HJ.out], HX5.out⟩
        case measure => simp [intOf]; omega
      · rw [hwb] at HWZ HS
        have HS2 : Hid (btw sh cl t (z + 1) = btw sh cl t z + 1) := Lib.hid (by rw [HS.out]; simp)
        clear HS
        generalize btw sh cl t z = K at *
        have v6 : IntKind.i64.wrap (K + 1) = K + 1 := IntWalk.i64_in _ (by omega)
        clear hwb HW HBT HSUC
        go_wp2_with fail
        refine (HWZ.out _ HX.out).mono ?_
        rintro e w5 ⟨rfl, hb⟩
        have HX5 := Lib.hid (ext_trans HX.out hb)
        clear hb
        go_wp2_with fail
        go_roundw
        case rel => exact ⟨j + 1, by rw [HJ.out]; omega, by rw [HJ.out, HS2.out], by rw [HJ.out], HX5.out⟩
        case measure => simp [intOf]; omega
    · have hzN : z = N := by omega
      have HB1 := Lib.hid (HBT.out t N)
      have HB2 := Lib.hid (HBT.out t M)
      have HB3 := Lib.hid (HBT.out M N)
      have HB4 := Lib.hid (HBT.out N t)
      have b1 := HBD.out t M
      have b2 := HBD.out M N
      rw [HBK.out] at HB4
      subst hzN
      have HE := HPL.out
      clear HS HBD HW HBT HSUC HBK HPL hb9
      generalize btw sh cl t z = K at *
      generalize btw sh cl t M = A at *
      generalize btw sh cl M z = C at *
      have v7 : IntKind.i64.wrap (A + C) = K := by rw [HE]; exact IntWalk.i64_in _ (by omega)
      have v8 : A + C = K := HE
      have v9 : IntKind.i64.wrap K = K := IntWalk.i64_in _ (by omega)
      have z1 : (K == K) = true := by rw [beq_iff_eq]
      clear HE b1 b2
      go_wp2_with fail
      refine (HB1.out _ HX.out).mono ?_
      rintro e w5 ⟨rfl, hb⟩
      have HX5 := Lib.hid (ext_trans HX.out hb)
      clear hb
      go_wp2_with fail
      refine (HB2.out _ HX5.out).mono ?_
      rintro e w6 ⟨rfl, hb⟩
      have HX6 := Lib.hid (ext_trans HX5.out hb)
      clear hb
      go_wp2_with fail
      refine (HB3.out _ HX6.out).mono ?_
      rintro e w7 ⟨rfl, hb⟩
      have HX7 := Lib.hid (ext_trans HX6.out hb)
      clear hb
      go_wp2_with fail
      refine (HB4.out _ HX7.out).mono ?_
      rintro e w8 ⟨rfl, hb⟩
      have HX8 := Lib.hid (ext_trans HX7.out hb)
      clear hb
      go_wp2_with fail
      refine (HAW.out _ HX8.out).mono ?_
      rintro e w9 ⟨rfl, hb⟩
      have HX9 := Lib.hid (ext_trans HX8.out hb)
      clear hb
      go_wp2_with fail
      go_ret
      exact ⟨rfl, HFIN.out _ HX9.out⟩
end Go.Proofs.YtbjnpiaooehmjaaDoor
