/- The law on detecting, every input. -/
import Derived.Test.YtgfefnfnpplhlaaDoorQIdDetects
namespace Go.Proofs.YtgfefnfnpplhlaaDoor
open Go.RowKit

set_option maxHeartbeats 1000000 in
theorem Detects_out (s : ByteArray) (x n : Int) (w : World) (hm : MLen w) (h : 1000 < s.size ∨ x < 0 ∨ (s.size : Int) ≤ x) : Calls Tryd.prog 10 #[.string s, .int .i64 x, .int .u8 n] w (Ret w (.bool true)) := by
  have HM := Lib.hid hm
  clear hm
  have hb : decide ((1000 : Int) < s.size) = true ∨ (decide ((1000 : Int) < s.size) = false ∧ decide (x < 0) = true) ∨ (decide ((1000 : Int) < s.size) = false ∧ decide (x < 0) = false ∧ decide ((s.size : Int) ≤ x) = true) := by
    by_cases ha : 1000 < s.size
    · left; rw [decide_eq_true_eq]; omega
    · right
      by_cases hx : x < 0
      · left; exact ⟨by rw [decide_eq_false_iff_not]; omega, by rw [decide_eq_true_eq]; omega⟩
      · right; exact ⟨by rw [decide_eq_false_iff_not]; omega, by rw [decide_eq_false_iff_not]; omega, by rw [decide_eq_true_eq]; omega⟩
  clear h
  go_enter Tryd.func10, Tryd.ntmps10
  rcases hb with hb | ⟨hb, hb2⟩ | ⟨hb, hb2, hb3⟩
  all_goals
    go_wp2_with fail
    refine (alive_any _ HM.out).mono ?_
    rintro e w1 ⟨rfl, hb1⟩
    go_wp2_with fail
    go_ret
    exact ret_true hb1
set_option maxHeartbeats 1000000 in
theorem Detects_no (s : ByteArray) (k : Nat) (n : Int) (w : World) (hm : MLen w) (hl : s.size ≤ 1000) (hk : k < s.size) (hi : idB s.data.toList = false) : Calls Tryd.prog 10 #[.string s, .int .i64 k, .int .u8 n] w (Ret w (.bool true)) := by
  have HM := Lib.hid hm
  have HI := Lib.hid hi
  have b1 : decide ((1000 : Int) < s.size) = false := by rw [decide_eq_false_iff_not]; omega
  have b2 : decide ((k : Int) < 0) = false := by rw [decide_eq_false_iff_not]; omega
  have b3 : decide ((s.size : Int) ≤ k) = false := by rw [decide_eq_false_iff_not]; omega
  have hsm : s.size ≤ maxLen := by unfold maxLen; omega
  have HSM := Lib.hid hsm
  clear hm hi hsm
  go_enter Tryd.func10, Tryd.ntmps10
  go_wp2_with fail
  refine (Seal_is HSM.out HM.out (sealV_no HI.out) (six HI.out)).mono ?_
  rintro e w1 ⟨rfl, hb1⟩
  have HB := Lib.hid hb1
  clear hb1
  go_wp2_with fail
  refine (alive_any _ (HM.out.keep HB.out)).mono ?_
  rintro e w5 ⟨rfl, hb5⟩
  have HB5 := Lib.hid (ext_trans HB.out hb5)
  clear hb5
  go_wp2_with fail
  go_ret
  exact ret_true HB5.out
theorem Detects_any (s : ByteArray) (x n : Int) (w : World) (hm : MLen w) (hn : (Lit.int .u8 n).wf = true) : Calls Tryd.prog 10 #[.string s, .int .i64 x, .int .u8 n] w (Ret w (.bool true)) := by
  by_cases h : 1000 < s.size ∨ x < 0 ∨ (s.size : Int) ≤ x
  · exact Detects_out s x n w hm h
  · obtain ⟨k, rfl⟩ : ∃ k : Nat, x = k := ⟨x.toNat, by omega⟩
    cases hi : idB s.data.toList
    · exact Detects_no s k n w hm (by omega) (by omega) hi
    · have hr : 0 ≤ n ∧ n ≤ 255 := by
        have e : (Lit.int .u8 n).wf = (decide ((0 : Int) ≤ n) && decide (n ≤ 255)) := rfl
        rw [e] at hn
        simpa using hn
      obtain ⟨d, rfl⟩ : ∃ d : UInt8, n = d.toNat := ⟨UInt8.ofNat n.toNat, by rw [UInt8.toNat_ofNat']; omega⟩
      exact Detects_in s k d w hm (by omega) (by omega) hi
end Go.Proofs.YtgfefnfnpplhlaaDoor
