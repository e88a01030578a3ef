/- The laws CertifyCovers and CertifyChecks. -/
import Derived.Test.YtehbnckdllbmgaaGreatDoorCerT
import Derived.Test.YtehbnckdllbmgaaGreatDoorCerLP
import Derived.Test.YtehbnckdllbmgaaGreatDoorCerW
set_option linter.unusedSimpArgs false
set_option linter.unusedVariables false
namespace Go.Proofs.YtehbnckdllbmgaaGreatDoor
open Go.RowKit

set_option maxHeartbeats 2000000 in
set_option maxRecDepth 100000 in
theorem LCovers_any (n : Int) (v : Value) (L : List (List Int)) (w : World) (h : SS w v L) (hn : v = .slice none 0 0 ∨ ∃ a n c, v = .slice (some a) n c) (hV : VarsC w) :
    Calls Tryz.prog 3 #[.int .i64 n, v] w (Ret w (.bool true)) := by
  have HV := Lib.hid hV; have H := Lib.hid h; have HN := Lib.hid hn
  have HA : Hid (∀ W, Below w.heap.size w W → Calls Tryz.prog 14 #[] W (Ret W (.bool true))) := Lib.hid fun W hW => awake_any W (HV.out.keep hW)
  obtain ⟨vs, ⟨pa, pc, rfl, p1, p2, p3⟩, p4⟩ := h
  have P3 := Lib.hid p3; have P4 := Lib.hid p4
  clear hV p3 p4 hn
  have hLm : L.length ≤ 9223372036854775807 := by unfold maxLen at p2; omega
  by_cases h2 : 300 < L.length
  · have hd2 : decide ((300 : Int) < L.length) = true := by rw [decide_eq_true_eq]; omega
    go_enter Tryz.func3, Tryz.ntmps3
    go_wp2_with fail
    refine (HA.out _ (Below.refl _ _)).mono ?_
    rintro e w1 ⟨rfl, hb⟩
    have HB := Lib.hid hb
    clear hb
    go_wp2_with fail
    go_ret
    exact ⟨rfl, HB.out⟩
  have hd2 : decide ((300 : Int) < L.length) = false := by rw [decide_eq_false_iff_not]; omega
  go_enter Tryz.func3, Tryz.ntmps3
  go_wp2_with fail
  clear hd2
  go_loop [5] (fun i => ∃ k : Nat, k ≤ L.length ∧ i = .int .i64 k) (fun i => L.length - (intOf i).toNat)
  case atStart => exact ⟨0, Nat.zero_le _, rfl⟩
  case round =>
    obtain ⟨k, hk, rfl⟩ := hrel
    by_cases hlt : k < L.length
    · obtain ⟨b, off, rfl, hc⟩ := P3.out k hlt
      obtain ⟨ra, rc, hr, r1, r2⟩ := (P4.out k hlt).sl
      rw [hr] at hc
      clear hr
      have i0 : (0 : Int) ≤ k := by omega
      have i1 : (k : Int) < L.length := by omega
      have i2 : (k : Int) < pc := by omega
      by_cases h40 : 40 < (ri L k).length
      · have hd4 : decide ((40 : Int) < (ri L k).length) = true := by rw [decide_eq_true_eq]; omega
        go_wp2_with fail
        refine (HA.out _ (Below.refl _ _)).mono ?_
        rintro e w1 ⟨rfl, hb⟩
        have HB := Lib.hid hb
        clear hb
        go_wp2_with fail
        go_ret
        exact ⟨rfl, HB.out⟩
      · have hd4 : decide ((40 : Int) < (ri L k).length) = false := by rw [decide_eq_false_iff_not]; omega
        go_wp2_with fail
        go_round
        case rel => exact ⟨k + 1, by omega, by go_num⟩
        case measure => simp [intOf]; omega
    · obtain rfl : k = L.length := by omega
      have HLL := Lib.hid (show L.length ≤ 300 by omega)
      go_wp2_with fail
      refine (Covers_any n _ L _ H.out HN.out (by have := HLL.out; omega)).mono ?_
      rintro e w1 ⟨rfl, hb⟩
      have HB1 := Lib.hid hb
      clear hb
      go_wp2_with fail
      refine (Covers38_any n _ L w1 (H.out.keep HB1.out) (by have := HLL.out; omega)).mono ?_
      rintro e w2 ⟨rfl, hb⟩
      have HB2 := Lib.hid (ext_trans HB1.out hb)
      clear hb
      have hq : (coversV n L == coversV n L) = true := by simp
      generalize coversV n L = y at hq ⊢
      go_wp2_with fail
      refine (HA.out _ HB2.out).mono ?_
      rintro e w3 ⟨rfl, hb⟩
      have HB3 := Lib.hid (ext_trans HB2.out hb)
      clear hb
      go_wp2_with fail
      go_ret
      exact ⟨rfl, HB3.out⟩

set_option maxHeartbeats 2000000 in
set_option maxRecDepth 100000 in
theorem LChecks_any (v u : Value) (p : List (List Int)) (L : List Cut) (span : Int) (w : World) (h : SS w v p) (hl : SC w u L) (hV : VarsC w) :
    Calls Tryz.prog 4 #[v, .int .i64 span, u] w (Ret w (.bool true)) := by
  have HV := Lib.hid hV; have H := Lib.hid h; have HL := Lib.hid hl
  have HA : Hid (∀ W, Below w.heap.size w W → Calls Tryz.prog 14 #[] W (Ret W (.bool true))) := Lib.hid fun W hW => awake_any W (HV.out.keep hW)
  obtain ⟨pa, pc, rfl, p1, p2⟩ : ∃ a c, v = .slice a p.length c ∧ p.length ≤ c ∧ c ≤ maxLen := by obtain ⟨vs, ⟨a, c, h1, h2, h3, _⟩, _⟩ := h; exact ⟨a, c, h1, h2, h3⟩
  obtain ⟨la, lc, rfl, l1, l2, _⟩ := hl
  clear hV h
  go_enter Tryz.func4, Tryz.ntmps4
  go_wp2_with fail
  refine (Small_any _ p w H.out).mono ?_
  rintro e w1 ⟨rfl, m1, rfl⟩
  have HX1 := Lib.hid (below_drewN' (Below.refl w.heap.size w) m1)
  cases hs : smallB p
  · go_wp2_with fail
    refine (HA.out _ HX1.out).mono ?_
    rintro e w2 ⟨rfl, hb⟩
    have HX2 := Lib.hid (ext_trans HX1.out hb)
    clear hb
    go_wp2_with fail
    go_ret
    exact ⟨rfl, HX2.out⟩
  have HS := Lib.hid (smallB_len hs)
  clear hs
  go_wp2_with fail
  refine (Few_any _ L _ (HL.out.keep HX1.out)).mono ?_
  rintro e w2 ⟨rfl, m2, rfl⟩
  have HX2 := Lib.hid (below_drewN' (Below.refl w.heap.size w) (m1 + m2))
  simp only [World.drewN_drewN] at HX2 ⊢
  cases hf : fewB L
  · go_wp2_with fail
    refine (HA.out _ HX2.out).mono ?_
    rintro e w2 ⟨rfl, hb⟩
    have HX3 := Lib.hid (ext_trans HX2.out hb)
    clear hb
    go_wp2_with fail
    go_ret
    exact ⟨rfl, HX3.out⟩
  clear hf
  go_wp2_with fail
  refine (Check_any _ _ p span L _ (H.out.keep HX2.out) (HL.out.keep HX2.out) (by have := HS.out; omega)).mono ?_
  rintro e w3 ⟨rfl, hb⟩
  have HX3 := Lib.hid (ext_trans HX2.out hb)
  clear hb
  go_wp2_with fail
  refine (Check38_any _ _ p span L w3 (H.out.keep HX3.out) (HL.out.keep HX3.out) (by have := HS.out; omega)).mono ?_
  rintro e w4 ⟨rfl, hb⟩
  have HX4 := Lib.hid (ext_trans HX3.out hb)
  clear hb
  have hq : (checkV p span L == checkV p span L) = true := by simp
  generalize checkV p span L = y at hq ⊢
  go_wp2_with fail
  refine (HA.out _ HX4.out).mono ?_
  rintro e w5 ⟨rfl, hb⟩
  have HX5 := Lib.hid (ext_trans HX4.out hb)
  clear hb
  go_wp2_with fail
  go_ret
  exact ⟨rfl, HX5.out⟩
end Go.Proofs.YtehbnckdllbmgaaGreatDoor
