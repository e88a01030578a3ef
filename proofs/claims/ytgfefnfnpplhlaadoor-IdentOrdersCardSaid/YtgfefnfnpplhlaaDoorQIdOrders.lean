/- The law on the order. -/
import Derived.Test.YtgfefnfnpplhlaaDoorQIdNames
namespace Go.Proofs.YtgfefnfnpplhlaaDoor
open Go.RowKit

set_option maxHeartbeats 2000000 in
theorem Orders_any (a b c : ByteArray) (w : World) (hm : MLen w) : Calls Tryd.prog 7 #[.string a, .string b, .string c] w (Ret w (.bool true)) := by
  have HM := Lib.hid hm
  clear hm
  by_cases h : 300 < a.size ∨ 300 < b.size ∨ 300 < c.size
  · have hb : decide ((300 : Int) < a.size) = true ∨ (decide ((300 : Int) < a.size) = false ∧ decide ((300 : Int) < b.size) = true) ∨ (decide ((300 : Int) < a.size) = false ∧ decide ((300 : Int) < b.size) = false ∧ decide ((300 : Int) < c.size) = true) := by
      by_cases ha : 300 < a.size
      · left; rw [decide_eq_true_eq]; omega
      · right
        by_cases hb : 300 < b.size
        · left; exact ⟨by rw [decide_eq_false_iff_not]; omega, by rw [decide_eq_true_eq]; omega⟩
        · right; exact ⟨by rw [decide_eq_false_iff_not]; omega, by rw [decide_eq_false_iff_not]; omega, by rw [decide_eq_true_eq]; omega⟩
    clear h
    go_enter Tryd.func7, Tryd.ntmps7
    rcases hb with hb | ⟨hb, hb2⟩ | ⟨hb, hb2, hb3⟩
    all_goals
      go_wp2_with fail
      refine (alive_any _ HM.out).mono ?_
      rintro e w1 ⟨rfl, hb1⟩
      go_wp2_with fail
      go_ret
      exact ret_true hb1
  have q1 : decide ((300 : Int) < a.size) = false := by rw [decide_eq_false_iff_not]; omega
  have q2 : decide ((300 : Int) < b.size) = false := by rw [decide_eq_false_iff_not]; omega
  have q3 : decide ((300 : Int) < c.size) = false := by rw [decide_eq_false_iff_not]; omega
  have hs : a.size ≤ maxLen := by unfold maxLen; omega
  have hs2 : b.size ≤ maxLen := by unfold maxLen; omega
  have hs3 : c.size ≤ maxLen := by unfold maxLen; omega
  have O := natC_ok
  have cba := O.anti a.data.toList b.data.toList
  have ccb := O.anti b.data.toList c.data.toList
  have cca := O.anti a.data.toList c.data.toList
  have r1 := O.rng a.data.toList b.data.toList
  have r2 := O.rng b.data.toList c.data.toList
  have r3 := O.rng a.data.toList c.data.toList
  have t1 := O.tr a.data.toList b.data.toList c.data.toList
  have t2 := O.tr c.data.toList b.data.toList a.data.toList
  have hself := O.refl a.data.toList
  have hzero := natC_zero (a := a.data.toList) (b := b.data.toList)
  rw [cba, ccb, cca] at t2
  have HAB := Lib.hid (fun w => Compare_any a b w hs hs2)
  have HBC := Lib.hid (fun w => Compare_any b c w hs2 hs3)
  have HAC := Lib.hid (fun w => Compare_any a c w hs hs3)
  have HBA := Lib.hid (fun w => Compare_any b a w hs2 hs)
  have HAA := Lib.hid (fun w => Compare_any a a w hs hs)
  rw [hself] at HAA
  rw [cba] at HBA
  obtain ⟨x, hx⟩ : ∃ x, natC a.data.toList b.data.toList = x := ⟨_, rfl⟩
  obtain ⟨y, hy⟩ : ∃ y, natC b.data.toList c.data.toList = y := ⟨_, rfl⟩
  obtain ⟨z, hz⟩ : ∃ z, natC a.data.toList c.data.toList = z := ⟨_, rfl⟩
  rw [hx] at r1 HAB HBA
  rw [hy] at r2 HBC
  rw [hz] at r3 HAC
  rw [hx, hy, hz] at t1 t2
  rw [hx] at hzero
  have heq : (a.toList == b.toList) = decide (x = 0) := by
    rw [toList_data, toList_data, Bool.eq_iff_iff, beq_iff_eq, decide_eq_true_eq]; exact hzero.symm
  have T1 := Lib.hid t1
  have T2 := Lib.hid t2
  have R2 := Lib.hid r2
  have R3 := Lib.hid r3
  have HB : Hid (∀ m, Below w.heap.size w (w.drewN m)) := fun m => below_drewN' (Below.refl _ _) _
  clear O cba ccb cca t1 t2 hself hzero hx hy hz hs hs2 hs3 h r2 r3
  rcases r1 with rfl | rfl | rfl
  all_goals
    first
      | (replace heq : (a.toList == b.toList) = true := heq)
      | (replace heq : (a.toList == b.toList) = false := heq)
    try simp only [Int.neg_neg, Int.neg_zero] at HBA
    go_enter Tryd.func7, Tryd.ntmps7
    go_wp2_with fail
    refine (HAB.out _).mono ?_
    rintro e w1 ⟨rfl, m1, rfl⟩
    go_wp2_with fail
    refine (HBC.out _).mono ?_
    rintro e w2 ⟨rfl, m2, rfl⟩
    go_wp2_with fail
    refine (HAC.out _).mono ?_
    rintro e w3 ⟨rfl, m3, rfl⟩
    go_wp2_with fail
    refine (HBA.out _).mono ?_
    rintro e w4 ⟨rfl, m4, rfl⟩
    go_wp2_with fail
    refine (HAA.out _).mono ?_
    rintro e w5 ⟨rfl, m5, rfl⟩
    rcases R2.out with rfl | rfl | rfl <;> rcases R3.out with rfl | rfl | rfl <;> first
      | (exfalso; have := T1.out; have := T2.out; omega)
      | (go_wp2_with fail
         refine (alive_any _ (HM.out.keep (HB.out _))).mono ?_
         rintro e w6 ⟨rfl, hb⟩
         have HB2 := Lib.hid (ext_trans (HB.out _) hb)
         clear hb
         go_wp2_with fail
         go_ret
         exact ret_true HB2.out)
end Go.Proofs.YtgfefnfnpplhlaaDoor
