/- The laws on names and on comparing. -/
import Derived.Test.YtgfefnfnpplhlaaDoorIdO
namespace Go.Proofs.YtgfefnfnpplhlaaDoor
open Go.RowKit

theorem ret_true {w w' : World} (h : Below w.heap.size w w') : Ret w (.bool true) (.returned (.bool true)) w' := ⟨rfl, h⟩

set_option maxHeartbeats 1000000 in
theorem Names_any (s : ByteArray) (w : World) (hm : MLen w) : Calls Tryd.prog 3 #[.string s] w (Ret w (.bool true)) := by
  have HM := Lib.hid hm
  clear hm
  by_cases h : 1000 < s.size
  · have hb : decide ((1000 : Int) < s.size) = true := by rw [decide_eq_true_eq]; omega
    go_enter Tryd.func3, Tryd.ntmps3
    go_wp2_with fail
    refine (alive_any _ HM.out).mono ?_
    rintro e w1 ⟨rfl, hb1⟩
    go_wp2_with fail
    go_ret
    exact ret_true hb1
  have hb : decide ((1000 : Int) < s.size) = false := by rw [decide_eq_false_iff_not]; omega
  have HL : Hid (s.size ≤ 1000) := by show _ ≤ _; omega
  have hs : s.size ≤ maxLen := by unfold maxLen; omega
  have HS := Lib.hid hs
  clear hs h
  go_enter Tryd.func3, Tryd.ntmps3
  go_wp2_with fail
  refine (IsName_any s _ HS.out).mono ?_
  rintro e w1 ⟨rfl, hb1⟩
  have HB := Lib.hid hb1
  clear hb1
  go_wp2_with fail
  refine (rIsName_any s _ HS.out).mono ?_
  rintro e w2 ⟨rfl, m2, rfl⟩
  replace HB : Hid (Below w.heap.size w (w1.drewN m2)) := below_drewN' HB.out _
  go_wp2_with fail
  refine (IsId_any s _ HS.out (HM.out.keep HB.out)).mono ?_
  rintro e w3 ⟨rfl, hb⟩
  replace HB := Lib.hid (ext_trans HB.out hb)
  clear hb
  go_wp2_with fail
  refine (rIsId_any s _ (Nat.le_trans HL.out (by decide))).mono ?_
  rintro e w4 ⟨rfl, hb⟩
  replace HB := Lib.hid (ext_trans HB.out hb)
  clear hb
  go_wp2_with fail
  refine (alive_any _ (HM.out.keep HB.out)).mono ?_
  rintro e w5 ⟨rfl, hb⟩
  replace HB := Lib.hid (ext_trans HB.out hb)
  clear hb
  go_wp2_with fail
  go_ret
  exact ret_true HB.out

set_option maxHeartbeats 1000000 in
theorem Compares_any (a b : ByteArray) (w : World) (hm : MLen w) : Calls Tryd.prog 6 #[.string a, .string b] w (Ret w (.bool true)) := by
  have HM := Lib.hid hm
  clear hm
  by_cases h : 300 < a.size ∨ 300 < b.size
  · have hb : decide ((300 : Int) < a.size) = true ∨ decide ((300 : Int) < a.size) = false ∧ decide ((300 : Int) < b.size) = true := by
      by_cases ha : 300 < a.size
      · left; rw [decide_eq_true_eq]; omega
      · right; exact ⟨by rw [decide_eq_false_iff_not]; omega, by rw [decide_eq_true_eq]; omega⟩
    clear h
    go_enter Tryd.func6, Tryd.ntmps6
    rcases hb with hb | ⟨hb, hb2⟩
    all_goals
      go_wp2_with fail
      refine (alive_any _ HM.out).mono ?_
      rintro e w1 ⟨rfl, hb1⟩
      go_wp2_with fail
      go_ret
      exact ret_true hb1
  have hb : decide ((300 : Int) < a.size) = false := by rw [decide_eq_false_iff_not]; omega
  have hb2 : decide ((300 : Int) < b.size) = false := by rw [decide_eq_false_iff_not]; omega
  have hs : a.size ≤ maxLen := by unfold maxLen; omega
  have hs2 : b.size ≤ maxLen := by unfold maxLen; omega
  have HS := Lib.hid hs
  have HS2 := Lib.hid hs2
  clear hs hs2 h
  go_enter Tryd.func6, Tryd.ntmps6
  go_wp2_with fail
  refine (Compare_any a b _ HS.out HS2.out).mono ?_
  rintro e w1 ⟨rfl, m1, rfl⟩
  go_wp2_with fail
  refine (rCompare_any a b _ HS.out HS2.out).mono ?_
  rintro e w2 ⟨rfl, m2, rfl⟩
  have HB : Hid (∀ m, Below w.heap.size w (w.drewN m)) := fun m => below_drewN' (Below.refl _ _) _
  go_wp2_with fail
  refine (alive_any _ (HM.out.keep (HB.out _))).mono ?_
  rintro e w5 ⟨rfl, hb⟩
  have HB2 := Lib.hid (ext_trans (HB.out _) hb)
  clear hb
  go_wp2_with fail
  go_ret
  exact ret_true HB2.out
end Go.Proofs.YtgfefnfnpplhlaaDoor
