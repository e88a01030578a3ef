/- The law on splitting. -/
import Derived.Test.YtgfefnfnpplhlaaDoorQIdNames
namespace Go.Proofs.YtgfefnfnpplhlaaDoor
open Go.RowKit

theorem join_split {l : List UInt8} (h : idB l = true) : joinV (cutL l) = l ∧ namesB (cutL l) = true := by
  have hn : namesB (cutL l) = true := by rw [← idB_names]; exact h
  exact ⟨by unfold joinV; rw [if_pos hn, join_cut], hn⟩
theorem Join_of {v : Value} {ss : List ByteArray} {s : ByteArray} {w : World} (h : SZ w v ss) (hb : bl ss = cutL s.data.toList) (hi : idB s.data.toList = true) : Calls Tryd.prog 19 #[v] w fun e w' => e = .returned (.tuple #[.string s, .int .i64 0]) ∧ Below w.heap.size w w' := by
  have hp := idB_pos hi
  have hl : ss.length ≤ 1000 := by
    have := congrArg List.length hb
    rw [bl_length, cutL_length] at this
    have h2 := List.count_le_length (a := (46 : UInt8)) (l := s.data.toList)
    omega
  have hz : ∀ x ∈ ss, x.size ≤ maxLen := fun x hx => by
    have := pieces_le hb x hx
    unfold maxLen; omega
  have hj := join_split hi
  refine Join_yes h hl hz ?_ (by rw [hb]; exact hj.2)
  rw [hb, hj.1]
  exact congrArg Value.string (bytes_of s).symm

set_option maxHeartbeats 1000000 in
theorem Splits_any (s : ByteArray) (w : World) (hm : MLen w) : Calls Tryd.prog 4 #[.string s] w (Ret w (.bool true)) := by
  have HM := Lib.hid hm
  clear hm
  by_cases h : 1000 < s.size
  · have hb : decide ((1000 : Int) < s.size) = true := by rw [decide_eq_true_eq]; omega
    go_enter Tryd.func4, Tryd.ntmps4
    go_wp2_with fail
    refine (alive_any _ HM.out).mono ?_
    rintro e w1 ⟨rfl, hb1⟩
    go_wp2_with fail
    go_ret
    exact ret_true hb1
  have hb : decide ((1000 : Int) < s.size) = false := by rw [decide_eq_false_iff_not]; omega
  have HL : Hid (s.size ≤ 1000000) := by show _ ≤ _; omega
  have hs : s.size ≤ maxLen := by unfold maxLen; omega
  have HS := Lib.hid hs
  clear hs h
  go_enter Tryd.func4, Tryd.ntmps4
  go_wp2_with fail
  refine (Split_any s _ HS.out (by exact HM.out)).mono ?_
  rintro e w1 ⟨v1, s1, he1, hz1, hl1, hb1⟩
  have HZ1 := Lib.hid hz1
  have HL1 := Lib.hid hl1
  have HB := Lib.hid hb1
  clear hz1 hl1 hb1
  cases hi : idB s.data.toList
  · have HI := Lib.hid hi
    rw [if_neg (by rw [hi]; simp)] at he1
    subst he1
    have E1 : Hid (bl s1 = []) := by show _ = _; rw [HL1.out, if_neg (by rw [hi]; simp)]
    clear hi
    go_wp2_with fail
    refine (rSplit_any s _ HL.out).mono ?_
    rintro e w2 ⟨v2, s2, he2, hz2, hl2, hb2⟩
    rw [if_neg (by rw [HI.out]; simp)] at he2
    subst he2
    have HZ2 := Lib.hid hz2
    have E2 : Hid (bl s2 = []) := by show _ = _; rw [hl2, if_neg (by rw [HI.out]; simp)]
    replace HZ1 := Lib.hid (HZ1.out.keep hb2)
    replace HB := Lib.hid (ext_trans HB.out hb2)
    clear hz2 hl2 hb2
    go_wp2_with fail
    refine (rSame_is HZ1.out HZ2.out (E1.out.trans E2.out.symm)).mono ?_
    rintro e w3 ⟨rfl, m, rfl⟩
    replace HB : Hid (Below w.heap.size w (w2.drewN m)) := below_drewN' HB.out _
    replace HZ1 := Lib.hid (HZ1.out.keep (below_drewN' (Below.refl _ _) m))
    have hl0 : s1.length = 0 := by have := congrArg List.length E1.out; rw [bl_length] at this; exact this
    have HNIL : Hid (s1 = []) := List.eq_nil_of_length_eq_zero hl0
    clear hl0
    go_wp2_with fail
    refine (Join_no (r := ⟨#[]⟩) (by exact HZ1.out) (by rw [HNIL.out]; decide) (by rw [HNIL.out]; simp) (by rw [HNIL.out]; rfl) (by rw [HNIL.out]; rfl)).mono ?_
    rintro e w4 ⟨rfl, hb4⟩
    replace HB := Lib.hid (ext_trans HB.out hb4)
    clear hb4
    go_wp2_with fail
    refine (alive_any _ (HM.out.keep HB.out)).mono ?_
    rintro e w5 ⟨rfl, hb⟩
    replace HB := Lib.hid (ext_trans HB.out hb)
    clear hb
    go_wp2_with fail
    go_ret
    exact ret_true HB.out
  · have HI := Lib.hid hi
    rw [if_pos hi] at he1
    subst he1
    have E1 : Hid (bl s1 = cutL s.data.toList) := by show _ = _; rw [HL1.out, if_pos hi]
    clear hi
    go_wp2_with fail
    refine (rSplit_any s _ HL.out).mono ?_
    rintro e w2 ⟨v2, s2, he2, hz2, hl2, hb2⟩
    rw [if_pos HI.out] at he2
    subst he2
    have HZ2 := Lib.hid hz2
    have E2 : Hid (bl s2 = cutL s.data.toList) := by show _ = _; rw [hl2, if_pos HI.out]
    replace HZ1 := Lib.hid (HZ1.out.keep hb2)
    replace HB := Lib.hid (ext_trans HB.out hb2)
    clear hz2 hl2 hb2
    go_wp2_with fail
    refine (rSame_is HZ1.out HZ2.out (E1.out.trans E2.out.symm)).mono ?_
    rintro e w3 ⟨rfl, m, rfl⟩
    replace HB : Hid (Below w.heap.size w (w2.drewN m)) := below_drewN' HB.out _
    replace HZ1 := Lib.hid (HZ1.out.keep (below_drewN' (Below.refl _ _) m))
    go_wp2_with fail
    refine (Join_of (by exact HZ1.out) E1.out HI.out).mono ?_
    rintro e w4 ⟨rfl, hb4⟩
    replace HB := Lib.hid (ext_trans HB.out hb4)
    clear hb4
    go_wp2_with fail
    refine (alive_any _ (HM.out.keep HB.out)).mono ?_
    rintro e w5 ⟨rfl, hb⟩
    replace HB := Lib.hid (ext_trans HB.out hb)
    clear hb
    go_wp2_with fail
    go_ret
    exact ret_true HB.out
end Go.Proofs.YtgfefnfnpplhlaaDoor
