/- Contracts of the reference: reach, Next, Add. -/
import Derived.Test.YtbjnpiaooehmjaaGreatDoorCalJ
namespace Go.Proofs.YtbjnpiaooehmjaaGreatDoor
open Go.RowKit

def rchV : Option Nat → Int
  | some t => (t : Int) + 1
  | none => -1
set_option maxHeartbeats 2000000 in
theorem reach_any (v : Value) (sh : List Sp) (cl : List Int) (s : Nat) (h : Int) (w : World) (hc : CalR w v sh cl) (hs : s ≤ 1048576) (hh : 1 ≤ h) (hh2 : h ≤ 1048576) :
    Calls Tryz.prog 29 #[v, .int .i64 s, .int .i64 h] w (Ret w (.int .i64 (rchV (reachO sh cl s h)))) := by
  have HC := Lib.hid hc
  obtain ⟨sv, cv, rfl, hsp, hsi⟩ := hc
  obtain ⟨a, cap, rfl, _⟩ := hsp
  obtain ⟨a2, cap2, rfl, _⟩ := hsi
  have HB : Hid (Below w.heap.size w (w.alloc (.cells #[.slice a sh.length cap, .slice a2 cl.length cap2] 29))) := Lib.hid ((Below.refl _ _).alloc (Nat.le_refl _) _)
  have c0 : (w.alloc (.cells #[.slice a sh.length cap, .slice a2 cl.length cap2] 29)).cell? ⟨w.heap.size, 0, none⟩ = some (.slice a sh.length cap) := by
    rw [cell_of_row _ w.heap.size 0 _ _ _ (MapKept.heap_alloc w _).1]; rfl
  have c1 : (w.alloc (.cells #[.slice a sh.length cap, .slice a2 cl.length cap2] 29)).cell? ⟨w.heap.size, 1, none⟩ = some (.slice a2 cl.length cap2) := by
    rw [cell_of_row _ w.heap.size 1 _ _ _ (MapKept.heap_alloc w _).1]; rfl
  have HHR : ∀ (d : Nat) w2, d ≤ 43690 → Below w.heap.size w w2 → Hid (Calls Tryz.prog 38 #[.agg #[.slice a sh.length cap, .slice a2 cl.length cap2], .int .i64 d, .int .i64 (max ((s : Int) - 24 * d) 0), .int .i64 24] w2 (Ret w2 (.int .i64 (hoursN sh cl d (s - 24 * d) 24)))) := fun d w2 hd hb => by
    have := rhours_any _ sh cl d (s - 24 * d) 24 w2 (HC.out.keep hb) hd (by omega) (by omega)
    rw [show ((s - 24 * d : Nat) : Int) = max ((s : Int) - 24 * d) 0 by omega] at this
    exact Lib.hid this
  have HWK : ∀ (t : Nat) w2, t ≤ 1048576 → Below w.heap.size w w2 → Hid (Calls Tryz.prog 15 #[.agg #[.slice a sh.length cap, .slice a2 cl.length cap2], .int .i64 t] w2 (Ret w2 (.bool (wk sh cl t)))) := fun t w2 ht hb => by
    rw [← workB_nat ht]; exact Lib.hid (rWorks_any _ sh cl t w2 (HC.out.keep hb))
  generalize hr : rchV (reachO sh cl s h) = r
  have HR := Lib.hid hr
  clear hr
  go_enter Tryz.func29, Tryz.ntmps29
  go_wp2_with fail
  generalize w.alloc (.cells #[.slice a sh.length cap, .slice a2 cl.length cap2] 29) = W at *
  go_loopw [7, 8] (fun n d wr => ∃ (dd : Nat) (nn : Nat), s / 24 ≤ dd ∧ dd ≤ 43691 ∧ d = .int .i64 dd ∧ n = .int .i64 nn ∧ Hid ((nn : Int) = befN sh cl (max s (24 * dd)) - befN sh cl s) ∧ (nn : Int) < h ∧ Hid (Below W.heap.size W wr)) (fun _ d _ => 43692 - (intOf d).toNat)
  case atStart => exact ⟨s / 24, 0, Nat.le_refl _, by omega, by go_num, rfl, Lib.hid (by rw [show max s (24 * (s / 24)) = s by omega]; omega), by omega, Lib.hid (Below.refl _ _)⟩
  case round =>
    obtain ⟨d, n, h1, h2, rfl, rfl, hn, hlt, hb⟩ := hrel
    have d0 := cell_keep hb.out c0
    have d1 := cell_keep hb.out c1
    have hbl : w.heap.size < _ := World.block_lt_of_cell? _ _ d0
    by_cases hd : d ≤ 43690
    · have HX := HHR d _ hd (HB.out.trans (hb.out.mono HB.out.size))
      have HST : Hid (befN sh cl (max s (24 * (d + 1))) = befN sh cl (max s (24 * d)) + hoursN sh cl d (s - 24 * d) 24) := Lib.hid (by
        have := hoursN_wk (sh := sh) (cl := cl) (d := d) (f := s - 24 * d) (u := 24) (by omega) (Nat.le_refl _)
        rw [show max s (24 * (d + 1)) = 24 * d + 24 by omega, show max s (24 * d) = 24 * d + (s - 24 * d) by omega]
        exact this)
      have hle := hoursN_le (sh := sh) (cl := cl) (d := d) (f := s - 24 * d) (u := 24)
      generalize hoursN sh cl d (s - 24 * d) 24 = k at HX HST hle
      have hk : k ≤ 24 := by omega
      clear hle
      by_cases hge : h ≤ (n : Int) + k
      · clear HST
        go_wp2_with fail
        refine HX.out.mono ?_
        rintro e w2 ⟨rfl, hb2⟩
        have HB2 := Lib.hid (ext_trans hb.out hb2)
        have f0 := cell_keep hb2 d0
        have f1 := cell_keep hb2 d1
        clear hb2 d0 d1 c0 c1 HX HHR
        go_wp2_with fail
        go_loopw [7, 10] (fun n i wr => ∃ (t : Nat) (nn : Nat), s ≤ t ∧ t ≤ 1048577 ∧ i = .int .i64 t ∧ n = .int .i64 nn ∧ Hid ((nn : Int) = befN sh cl t - befN sh cl s) ∧ (nn : Int) < h ∧ Hid (∀ j, s ≤ j → j < t → decide ((befN sh cl (j + 1) : Int) - befN sh cl s = h) = false) ∧ Hid (Below w2.heap.size w2 wr)) (fun _ i _ => 1048577 - (intOf i).toNat)
        case atStart =>
          refine ⟨max s (24 * d), n, by omega, by omega, by go_num, rfl, hn, hlt, Lib.hid fun j g1 g2 => ?_, Lib.hid (Below.refl _ _)⟩
          rw [decide_eq_false_iff_not]
          have := cnt_mono (wk sh cl) (show j + 1 ≤ max s (24 * d) by omega)
          have := hn.out
          unfold befN at *
          omega
        case round =>
          obtain ⟨t, n, g1, g2, rfl, rfl, hn, hlt, hj, hbw⟩ := hrel
          have e0 := cell_keep hbw.out f0
          have e1 := cell_keep hbw.out f1
          have hbl : w.heap.size < _ := World.block_lt_of_cell? _ _ e0
          have HBW := Lib.hid (HB.out.trans ((ext_trans HB2.out hbw.out).mono HB.out.size))
          by_cases ht : t ≤ 1048576
          · have HX := HWK t _ ht HBW.out
            have HN := Lib.hid (bef_succ sh cl t)
            have HSM : Hid (decide ((befN sh cl (t + 1) : Int) - befN sh cl s = h) = false → ∀ j, s ≤ j → j < t + 1 → decide ((befN sh cl (j + 1) : Int) - befN sh cl s = h) = false) := Lib.hid fun hf j q1 q2 => by
              by_cases e : j = t
              · subst e; exact hf
              · exact hj.out j q1 (by omega)
            have HYES : Hid (decide ((befN sh cl (t + 1) : Int) - befN sh cl s = h) = true → r = (t : Int) + 1) := Lib.hid fun hy => by
              have e : reachO sh cl s h = some t := firstN_at g1 (by omega) hy hj.out
              rw [← HR.out, e]; rfl
            clear HR
            cases hx : wk sh cl t with
            | true =>
              rw [hx] at HX HN
              have HN1 : Hid (((n + 1 : Nat) : Int) = befN sh cl (t + 1) - befN sh cl s) := Lib.hid (by rw [HN.out, if_pos rfl]; have := hn.out; omega)
              clear HN hx HWK
              by_cases hy : (n : Int) + 1 = h
              · have HV := Lib.hid (HYES.out (by rw [decide_eq_true_eq]; have := HN1.out; omega))
                have hb : ((n : Int) + 1 == h) = true := by simpa using hy
                clear HYES HSM
                go_wp2_with fail
                refine HX.out.mono ?_
                rintro e w3 ⟨rfl, hb3⟩
                have HB3 := Lib.hid (HBW.out.trans (hb3.mono HBW.out.size))
                clear hb3
                go_wp2_with fail
                go_ret
                exact ⟨ret_int HV.out.symm, HB3.out⟩
              · have hb : ((n : Int) + 1 == h) = false := by simpa using hy
                have HS2 := Lib.hid (HSM.out (by rw [decide_eq_false_iff_not]; have := HN1.out; omega))
                clear HYES HSM
                go_wp2_with fail
                refine HX.out.mono ?_
                rintro e w3 ⟨rfl, hb3⟩
                have HB3 := Lib.hid (ext_trans hbw.out hb3)
                clear hb3
                go_wp2_with fail
                go_roundw
                case rel => exact ⟨t + 1, n + 1, by omega, by omega, by go_num, by go_num, HN1, by omega, HS2, HB3⟩
                case measure => simp [intOf]; omega
            | false =>
              rw [hx] at HX HN
              have HN1 : Hid ((n : Int) = befN sh cl (t + 1) - befN sh cl s) := Lib.hid (by rw [HN.out, if_neg (by simp)]; have := hn.out; omega)
              clear HN hx HWK
              have hb : ((n : Int) == h) = false := by simp; omega
              have HS2 := Lib.hid (HSM.out (by rw [decide_eq_false_iff_not]; have := HN1.out; omega))
              clear HYES HSM
              go_wp2_with fail
              refine HX.out.mono ?_
              rintro e w3 ⟨rfl, hb3⟩
              have HB3 := Lib.hid (ext_trans hbw.out hb3)
              clear hb3
              go_wp2_with fail
              go_roundw
              case rel => exact ⟨t + 1, n, by omega, by omega, by go_num, by go_num, HN1, by omega, HS2, HB3⟩
              case measure => simp [intOf]; omega
          · have e : reachO sh cl s h = none := firstN_no fun j q1 q2 => hj.out j q1 (by omega)
            have HV : Hid (r = -1) := Lib.hid (by rw [← HR.out, e]; rfl)
            clear HR e
            go_wp2_with fail
            go_ret
            exact ⟨ret_int HV.out.symm, HBW.out⟩
      · go_wp2_with fail
        refine HX.out.mono ?_
        rintro e w2 ⟨rfl, hb2⟩
        have HB2 := Lib.hid (ext_trans hb.out hb2)
        clear hb2
        go_wp2_with fail
        go_roundw
        case rel => exact ⟨d + 1, n + k, by omega, by omega, by go_num, by go_num, Lib.hid (by rw [HST.out]; have := hn.out; omega), by omega, HB2⟩
        case measure => simp [intOf]; omega
    · have e : reachO sh cl s h = none := firstN_no fun j q1 q2 => by
        rw [decide_eq_false_iff_not]
        have := cnt_mono (wk sh cl) (show j + 1 ≤ max s (24 * d) by omega)
        have := hn.out
        unfold befN at *
        omega
      have HV : Hid (r = -1) := Lib.hid (by rw [← HR.out, e]; rfl)
      have HBX := Lib.hid (HB.out.trans (hb.out.mono HB.out.size))
      obtain rfl : d = 43691 := by omega
      clear HR e
      go_wp2_with fail
      go_loopw [7, 10] (fun n i wr2 => i = .int .i64 1048584 ∧ wr2 = wr) (fun _ i _ => 1048577 - (intOf i).toNat)
      case atStart => exact ⟨by go_num, rfl⟩
      case round =>
        obtain ⟨rfl, rfl⟩ := hrel
        go_wp2_with fail
        go_ret
        exact ⟨ret_int HV.out.symm, HBX.out⟩
end Go.Proofs.YtbjnpiaooehmjaaGreatDoor
