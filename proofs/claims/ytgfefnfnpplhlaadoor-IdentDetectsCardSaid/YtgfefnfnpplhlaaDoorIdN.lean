/- Contracts: Open of the reference of ident. -/
import Derived.Test.YtgfefnfnpplhlaaDoorIdM
import Derived.Deep.RegionHeld3
namespace Go.Proofs.YtgfefnfnpplhlaaDoor
open Go.RowKit

set_option maxHeartbeats 1000000 in
theorem rOpen_any (s : ByteArray) (w : World) (hs : s.size ≤ 1000000) : Calls Tryd.prog 26 #[.string s] w (OpenR w s.data.toList) := by
  by_cases h4 : s.size < 4
  · have b1 : decide ((s.size : Int) < 4) = true := by rw [decide_eq_true_eq]; omega
    have HN := Lib.hid (short_is h4)
    go_enter Tryd.func26, Tryd.ntmps26
    go_wp2_with fail
    go_ret2
    exact openR_no HN.out (by decide) rfl (Below.refl _ _)
  have b1 : decide ((s.size : Int) < 4) = false := by rw [decide_eq_false_iff_not]; omega
  obtain ⟨n, hn⟩ : ∃ n, s.size = n + 3 := ⟨s.size - 3, by omega⟩
  have hn1 : 1 ≤ n := by omega
  have HP := Lib.hid (parts_of hn hn1)
  have n1 : (n : Int) + 3 - 3 = n := by omega
  have n2 : (n : Int) + 3 - 2 = n + 1 := by omega
  have n3 : (n : Int) + 3 - 1 = n + 2 := by omega
  have hnm : n ≤ 1000000 := by omega
  have g1 : (0 : Int) ≤ n := by omega
  have g2 : (0 : Int) ≤ (n : Int) + 1 := by omega
  have g3 : (n : Int) + 1 ≤ (n : Int) + 3 := by omega
  have g4 : (n : Int) ≤ (n : Int) + 3 := by omega
  have w1 : IntKind.i64.wrap (n : Int) = n := IntWalk.i64_in _ (by omega)
  have w2 : IntKind.i64.wrap ((n : Int) + 1) = n + 1 := IntWalk.i64_in _ (by omega)
  have w3 : IntKind.i64.wrap ((n : Int) + 2) = n + 2 := IntWalk.i64_in _ (by omega)
  have HNM := Lib.hid hnm
  obtain ⟨d, hd, hdz⟩ : ∃ d : ByteArray, s.extract (n + 1) (n + 3) = d ∧ d.size = 2 := ⟨_, rfl, by simp; omega⟩
  obtain ⟨i, hi, hiz⟩ : ∃ i : ByteArray, s.extract 0 n = i ∧ i.size = n := ⟨_, rfl, by simp; omega⟩
  rw [hd, hi] at HP
  obtain ⟨c0, hc0⟩ : ∃ c0, s[n]'(by omega) = c0 := ⟨_, rfl⟩
  obtain ⟨c1, hc1⟩ : ∃ c1, s[n + 1]'(by omega) = c1 := ⟨_, rfl⟩
  obtain ⟨c2, hc2⟩ : ∃ c2, s[n + 2]'(by omega) = c2 := ⟨_, rfl⟩
  rw [hc0, hc1, hc2] at HP
  have HIZ : Hid (i.size ≤ 1000000) := by show _ ≤ _; rw [hiz]; exact HNM.out
  have HB1 : Hid (Below w.heap.size w w) := Below.refl _ _
  clear h4
  go_enter Tryd.func26, Tryd.ntmps26
  by_cases h47 : (c0.toNat : Int) = 47
  rotate_left
  · have q1 : ((c0.toNat : Int) != 47) = true := by rw [bne_iff_ne]; exact h47
    have q2 : ((c0.toNat : Int) == 47) = false := by rw [beq_eq_false_iff_ne]; exact h47
    have HN := Lib.hid (HP.out.five (.inr (.inl (fun h => h47 (slash.1 h)))))
    clear h47
    go_wp2_with fail
    go_ret2
    exact openR_no HN.out (by decide) rfl HB1.out
  have q1 : ((c0.toNat : Int) != 47) = false := by rw [bne_eq_false_iff_eq]; exact h47
  have q2 : ((c0.toNat : Int) == 47) = true := by rw [beq_iff_eq]; exact h47
  have H47 := Lib.hid (slash.2 h47)
  clear h47
  go_wp2_with fail
  refine (digit_any c1 _).mono ?_
  rintro e w2 ⟨rfl, m2, rfl⟩
  cases hd1 : digC c1
  · have HN := Lib.hid (HP.out.five (.inr (.inr (.inl hd1))))
    clear hd1
    go_wp2_with fail
    go_ret2
    exact openR_no HN.out (by decide) rfl (below_drewN' HB1.out _)
  have HC1 := Lib.hid hd1
  clear hd1
  go_wp2_with fail
  refine (digit_any c2 _).mono ?_
  rintro e w3 ⟨rfl, m3, rfl⟩
  cases hd2 : digC c2
  · have HN := Lib.hid (HP.out.five (.inr (.inr (.inr hd2))))
    clear hd2
    go_wp2_with fail
    go_ret2
    exact openR_no HN.out (by decide) rfl (below_drewN' HB1.out _)
  have HC2 := Lib.hid hd2
  clear hd2
  go_wp2_with fail
  refine (rIsId_any i _ HIZ.out).mono ?_
  rintro e w4 ⟨rfl, hb⟩
  replace HB1 : Hid (Below w.heap.size w w4) := ext_trans (below_drewN' HB1.out _) hb
  clear hb
  cases hid : idB i.data.toList
  · have HN := Lib.hid (HP.out.five (.inl hid))
    clear hid
    go_wp2_with fail
    go_ret2
    exact openR_no HN.out (by decide) rfl HB1.out
  have HI := Lib.hid hid
  clear hid
  have hHZ : i.size ≤ maxLen := by have := HIZ.out; unfold maxLen; omega
  have HCK := Lib.hid (fun w => Digits_any i w hHZ)
  clear hHZ
  have HSB := Lib.hid (same_bytes (a := d) (l := chkL i.data.toList))
  obtain ⟨ck, hck⟩ : ∃ ck : ByteArray, ck = ⟨(chkL i.data.toList).toArray⟩ := ⟨_, rfl⟩
  rw [← hck] at HSB HCK
  clear hck
  by_cases hs4 : d.data.toList = chkL i.data.toList
  · have HN := Lib.hid (HP.out.zero HI.out H47.out HC1.out HC2.out hs4)
    have hb : (d.toList == ck.toList) = true := by rw [HSB.out, hs4]; simp
    clear hs4
    go_wp2_with fail
    go_region_with (go_at_call 40; refine (HCK.out _).mono ?_; rintro e wy ⟨rfl, hby⟩)
    all_goals
      have HBY := Lib.hid hby
      clear hby
      go_wp2_with fail
      go_ret2
      exact openR_yes HN.out HP.out.i rfl (by first | exact ext_trans HB1.out HBY.out | exact ext_trans HB1.out (HBY.out.drew) | exact ext_trans (below_drewN' HB1.out 1) HBY.out)
  · have HN := Lib.hid (HP.out.sum HI.out H47.out HC1.out HC2.out hs4)
    have hb : (d.toList == ck.toList) = false := by rw [HSB.out]; simpa using hs4
    clear hs4
    go_wp2_with fail
    go_region_with (go_at_call 40; refine (HCK.out _).mono ?_; rintro e wy ⟨rfl, hby⟩)
    all_goals
      have HBY := Lib.hid hby
      clear hby
      go_wp2_with fail
      go_ret2
      exact openR_no HN.out (by decide) rfl (by first | exact ext_trans HB1.out HBY.out | exact ext_trans HB1.out (HBY.out.drew) | exact ext_trans (below_drewN' HB1.out 1) HBY.out)
end Go.Proofs.YtgfefnfnpplhlaaDoor
