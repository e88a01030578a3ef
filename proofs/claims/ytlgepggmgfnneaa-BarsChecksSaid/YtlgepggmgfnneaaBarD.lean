/- Contracts: Bound, of the program and of the reference. -/
import Derived.Test.YtlgepggmgfnneaaBarC
namespace Go.Proofs.Ytlgepggmgfnneaa
open Go.RowKit

theorem boundR_good {l : List Int} {s k : Int} (h : rightE l s k = 0) : boundR l s k = boundV l s k := if_pos h
theorem boundR_bad {l : List Int} {s k : Int} (h : rightE l s k ≠ 0) : boundR l s k = 0 := if_neg h
theorem good_all {l : List Int} {s k : Int} (h : GoodB l s k) : allB l = true := allB_iff.2 fun x hx => ⟨(h.side x hx).1, (h.side x hx).2.1⟩
theorem good_nums {l : List Int} {s k : Int} (h : GoodB l s k) : (0 ≤ l.sum ∧ l.sum ≤ 9830400) ∧ (0 ≤ (l.length : Int) * k ∧ (l.length : Int) * k ≤ 30000) ∧ 1 ≤ s + k ∧ s + k ≤ 32868 := by
  have a := sum_small (by have := h.len; omega) (good_all h)
  have b := mul_small (a := (l.length : Int)) (by omega) (by have := h.len; omega) (sawnB_iff.2 h.kerf)
  have := h.stock
  have := h.kerf
  omega

set_option maxHeartbeats 1000000 in
theorem Bound_any (v : Value) (l : List Int) (s k : Int) (w : World) (h : SI w v l) :
    Calls Try.prog 16 #[v, .int .i64 s, .int .i64 k] w (RetNE w (boundR l s k) (rightE l s k)) := by
  have H := Lib.hid h
  obtain ⟨a, cap, rfl, h1, h2, h3⟩ := h
  clear h3
  have hm : l.length ≤ 9223372036854775807 := by unfold maxLen at h2; omega
  go_enter Try.func16, Try.ntmps16
  go_wp2_with fail
  refine (right_any _ l s k _ H.out).mono ?_
  rintro e w1 ⟨rfl, hb⟩
  have HB := Lib.hid hb
  clear hb
  by_cases hr : rightE l s k = 0
  · have HG := Lib.hid (rightE_zero.1 hr)
    have HR := Lib.hid hr
    have hb : (rightE l s k != 0) = false := by rw [hr]; rfl
    have h256 := HG.out.len
    have hn := good_nums HG.out
    have HV : Hid (boundR l s k = (l.sum + (l.length : Int) * k + (s + k) - 1) / (s + k)) := boundR_good hr
    rw [hr]
    clear hr
    go_wp2_with fail
    refine (sum_any _ l _ (H.out.keep HB.out) (by omega) (good_all HG.out)).mono ?_
    rintro e w1 ⟨rfl, m, rfl⟩
    go_wp2_with fail
    go_ret2
    exact retNE rfl HR.out.symm HV.out.symm (below_drewN' HB.out _)
  · have hb : (rightE l s k != 0) = true := by simpa using hr
    have HR := Lib.hid (boundR_bad hr)
    clear hr
    go_wp2_with fail
    go_ret2
    exact retNE rfl rfl HR.out.symm HB.out

theorem bound_is {l : List Int} {s k : Int} {n : Nat} (hw : 1 ≤ s + k) (h1 : l.sum + (l.length : Int) * k ≤ n * (s + k)) (h2 : n * (s + k) < l.sum + (l.length : Int) * k + (s + k)) : boundV l s k = n := by
  unfold boundV
  have := (Int.ediv_emod_unique (a := l.sum + (l.length : Int) * k + (s + k) - 1) (b := s + k) (q := n) (r := l.sum + (l.length : Int) * k + (s + k) - 1 - n * (s + k)) (by omega)).2 ⟨by rw [Int.mul_comm (s + k) n]; omega, by omega, by omega⟩
  exact this.1

set_option maxHeartbeats 1000000 in
theorem rBound_any (v : Value) (l : List Int) (s k : Int) (w : World) (h : SI w v l) :
    Calls Try.prog 17 #[v, .int .i64 s, .int .i64 k] w (RetNE w (boundR l s k) (rightE l s k)) := by
  have H := Lib.hid h
  obtain ⟨a, cap, rfl, h1, h2, h3⟩ := h
  clear h3
  have hm : l.length ≤ 9223372036854775807 := by unfold maxLen at h2; omega
  go_enter Try.func17, Try.ntmps17
  go_wp2_with fail
  refine (input_any _ l s k _ H.out).mono ?_
  rintro e w1 ⟨rfl, m, rfl⟩
  by_cases hr : rightE l s k = 0
  · have HG := Lib.hid (rightE_zero.1 hr)
    have HR := Lib.hid hr
    have hb : (rightE l s k != 0) = false := by rw [hr]; rfl
    have h256 := HG.out.len
    have hn := good_nums HG.out
    have hst := HG.out.stock
    have hkf := HG.out.kerf
    have HV : Hid (boundR l s k = boundV l s k) := boundR_good hr
    rw [hr]
    clear hr
    go_wp2_with fail
    go_loopw [9] (fun i wr => ∃ n : Nat, n ≤ 10000000 ∧ i = .int .i64 n ∧ (n : Int) * (s + k) < l.sum + (l.length : Int) * k + (s + k) ∧ Hid (∃ nq, wr = w.drewN nq)) (fun i _ => 10000000 - (intOf i).toNat)
    case atStart => exact ⟨0, by omega, rfl, by simp; omega, ⟨m, rfl⟩⟩
    case round =>
      obtain ⟨n, hn1, rfl, hn2, hw⟩ := hrel
      obtain ⟨nq, rfl⟩ := hw.out
      clear hw
      have hn0 : 0 ≤ (n : Int) * (s + k) := Int.mul_nonneg (by omega) (by omega)
      by_cases hlt : (n : Int) * (s + k) < l.sum + (l.length : Int) * k
      · have hlb : decide ((n : Int) * (s + k) < l.sum + (l.length : Int) * k) = true := by rw [decide_eq_true_eq]; exact hlt
        have hnn : (n : Int) ≤ (n : Int) * (s + k) := by
          have := Int.mul_le_mul_of_nonneg_left (show (1 : Int) ≤ s + k by omega) (show (0 : Int) ≤ n by omega)
          omega
        have HN : Hid (((n + 1 : Nat) : Int) * (s + k) < l.sum + (l.length : Int) * k + (s + k)) := by
          show _ < _
          rw [Int.natCast_add, Int.add_mul]; simp; omega
        go_wp2_with fail
        refine (rsum_any _ l _ (H.out.drewN _) (by omega) (good_all HG.out)).mono ?_
        rintro e w1 ⟨rfl, m1, rfl⟩
        go_wp2_with fail
        go_roundw
        case rel => exact ⟨n + 1, by omega, by go_num, HN.out, by first | exact ⟨_, rfl⟩ | exact dn2 _ _ _⟩
        case measure => simp [intOf]; omega
      · have hlb : decide ((n : Int) * (s + k) < l.sum + (l.length : Int) * k) = false := by rw [decide_eq_false_iff_not]; exact hlt
        have HE := Lib.hid (bound_is (by omega) (by omega) hn2)
        go_wp2_with fail
        refine (rsum_any _ l _ (H.out.drewN _) (by omega) (good_all HG.out)).mono ?_
        rintro e w1 ⟨rfl, m1, rfl⟩
        go_wp2_with fail
        go_ret2
        exact retNE rfl HR.out.symm (by rw [HV.out, HE.out]) (by first | exact below_drewN' (Below.refl _ _) _ | exact below_drewN' (below_drewN' (Below.refl _ _) _) _)
  · have hb : (rightE l s k != 0) = true := by simpa using hr
    have HR := Lib.hid (boundR_bad hr)
    clear hr
    go_wp2_with fail
    go_ret2
    exact retNE rfl rfl HR.out.symm (below_drewN' (Below.refl _ _) _)
end Go.Proofs.Ytlgepggmgfnneaa
