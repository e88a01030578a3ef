/- Contracts: compareElements of ident; pair of its reference. -/
import Derived.Test.YtgfefnfnpplhlaaDoorIdH
namespace Go.Proofs.YtgfefnfnpplhlaaDoor
open Go.RowKit

theorem digH_is {s : ByteArray} (h : 0 < s.size) : digH s.data.toList = digC (s[0]'h) := by
  unfold digH
  rw [List.headD_eq_head?_getD, List.head?_eq_getElem?, ← List.getD_eq_getElem?_getD, getD_byte s h]
theorem cmpE_first {a b : List UInt8} (h : digH a = false ∨ digH b = false) : cmpE a b = bytesC (a.take 1) (b.take 1) := by unfold cmpE; rw [if_pos h]
theorem cmpE_rest {a b : List UInt8} (h : digH a = true) (g : digH b = true) : cmpE a b = if (stripZ a).length < (stripZ b).length then -1 else if (stripZ b).length < (stripZ a).length then 1 else bytesC (stripZ a) (stripZ b) := by
  unfold cmpE; rw [if_neg (by rw [h, g]; simp)]
theorem strip_le (l : List UInt8) : (stripZ l).length ≤ l.length := by
  unfold stripZ
  induction l with
  | nil => exact Nat.le_refl _
  | cons c l ih =>
    rw [List.dropWhile_cons]
    split
    · simp only [List.length_cons]; omega
    · exact Nat.le_refl _
theorem first_list {s : ByteArray} : (s.extract 0 1).data.toList = s.data.toList.take 1 := by rw [extract_list, List.drop_zero]
theorem trim_is (l : List UInt8) : Lib.trimLeftB l 48 = stripZ l := rfl
theorem qt {a b c : World} (h : ∃ m, b = a.drewN m) (g : ∃ m, c = b.drewN m) : ∃ m, c = a.drewN m := by
  obtain ⟨m, rfl⟩ := h
  obtain ⟨n, rfl⟩ := g
  exact ⟨m + n, by rw [World.drewN_drewN]⟩
theorem ret_i64 {a b : Int} (h : a = b) : Ending.returned (.int .i64 a) = Ending.returned (.int .i64 b) := by rw [h]

set_option maxHeartbeats 1000000 in
theorem cmpE_any (a b : ByteArray) (w : World) (ha : a.size ≤ maxLen) (hb : b.size ≤ maxLen) (a0 : 0 < a.size) (b0 : 0 < b.size) : Calls Tryd.prog 34 #[.string a, .string b] w fun e w' => e = .returned (.int .i64 (cmpE a.data.toList b.data.toList)) ∧ ∃ m, w' = w.drewN m := by
  unfold maxLen at ha hb
  have HDA := Lib.hid (digH_is a0)
  have HDB := Lib.hid (digH_is b0)
  have HC := Lib.hid (cmpE_first (a := a.data.toList) (b := b.data.toList))
  have HR := Lib.hid (cmpE_rest (a := a.data.toList) (b := b.data.toList))
  have a1 : (1 : Int) ≤ a.size := by omega
  have b1 : (1 : Int) ≤ b.size := by omega
  obtain ⟨c, hc⟩ : ∃ c, a[0]'a0 = c := ⟨_, rfl⟩
  obtain ⟨d, hd⟩ : ∃ d, b[0]'b0 = d := ⟨_, rfl⟩
  rw [hc] at HDA
  rw [hd] at HDB
  have HFST : Hid (digH a.data.toList = false ∨ digH b.data.toList = false → Lib.compareBytes (a.extract 0 1).data.toList (b.extract 0 1).data.toList = cmpE a.data.toList b.data.toList) := fun h => by
    rw [HC.out h, compare_is, first_list, first_list]
  go_enter Tryd.func34, Tryd.ntmps34
  go_wp2_with fail
  refine (isDigit_any c _).mono ?_
  rintro e w1 ⟨rfl, hw1⟩
  have HW := Lib.hid hw1
  clear hw1
  cases hdc : digC c
  · have HF := Lib.hid (HFST.out (.inl (by rw [HDA.out]; exact hdc)))
    clear hdc
    go_wp2_with fail
    go_quiet ((go_at_call 35; exact Calls.quiet_of_same (Tryd.strings_Compare _ _ _)))
    go_wp2_with fail
    go_ret
    exact ⟨ret_i64 HF.out, (by first | exact HW.out | exact qt HW.out ⟨_, rfl⟩)⟩
  · have HX := Lib.hid (show digH a.data.toList = true by rw [HDA.out]; exact hdc)
    clear hdc
    go_wp2_with fail
    refine (isDigit_any d _).mono ?_
    rintro e w2 ⟨rfl, hw2⟩
    replace HW := Lib.hid (qt HW.out hw2)
    clear hw2
    cases hdd : digC d
    · have HF := Lib.hid (HFST.out (.inr (by rw [HDB.out]; exact hdd)))
      clear hdd
      go_wp2_with fail
      go_quiet ((go_at_call 35; exact Calls.quiet_of_same (Tryd.strings_Compare _ _ _)))
      go_wp2_with fail
      go_ret
      exact ⟨ret_i64 HF.out, (by first | exact HW.out | exact qt HW.out ⟨_, rfl⟩)⟩
    · have HE := Lib.hid (HR.out HX.out (show digH b.data.toList = true by rw [HDB.out]; exact hdd))
      clear hdd hc hd
      have hla := strip_le a.data.toList
      have hlb := strip_le b.data.toList
      rw [size_data] at hla hlb
      have HTA := Lib.hid (fun w => Tryd.strings_TrimLeft_one a 48 (by decide) w)
      have HTB := Lib.hid (fun w => Tryd.strings_TrimLeft_one b 48 (by decide) w)
      unfold Lib.trimLeftB at HTA HTB
      change Hid (∀ w, Calls Tryd.prog 46 _ w fun e w' => e = .returned (.string ⟨(stripZ a.data.toList).toArray⟩) ∧ _) at HTA
      change Hid (∀ w, Calls Tryd.prog 46 _ w fun e w' => e = .returned (.string ⟨(stripZ b.data.toList).toArray⟩) ∧ _) at HTB
      obtain ⟨x, hx⟩ : ∃ x, stripZ a.data.toList = x := ⟨_, rfl⟩
      obtain ⟨y, hy⟩ : ∃ y, stripZ b.data.toList = y := ⟨_, rfl⟩
      rw [hx] at hla HE HTA
      rw [hy] at hlb HE HTB
      clear hx hy
      have hsx : (⟨x.toArray⟩ : ByteArray).size = x.length := by simp [ByteArray.size]
      have hsy : (⟨y.toArray⟩ : ByteArray).size = y.length := by simp [ByteArray.size]
      go_wp2_with fail
      refine (HTA.out _).mono ?_
      rintro e w3 ⟨rfl, rfl⟩
      go_wp2_with fail
      refine (HTB.out _).mono ?_
      rintro e w4 ⟨rfl, rfl⟩
      by_cases h1 : x.length < y.length
      · have HF : Hid (cmpE a.data.toList b.data.toList = -1) := by show _ = _; rw [HE.out, if_pos h1]
        have q1 : decide ((x.length : Int) < y.length) = true := by rw [decide_eq_true_eq]; omega
        go_wp2_with fail
        go_ret
        exact ⟨ret_i64 HF.out.symm, (by first | exact HW.out | exact qt HW.out ⟨_, rfl⟩)⟩
      · have q1 : decide ((x.length : Int) < y.length) = false := by rw [decide_eq_false_iff_not]; omega
        by_cases h2 : y.length < x.length
        · have HF : Hid (cmpE a.data.toList b.data.toList = 1) := by show _ = _; rw [HE.out, if_neg h1, if_pos h2]
          have q2 : decide ((y.length : Int) < x.length) = true := by rw [decide_eq_true_eq]; omega
          go_wp2_with fail
          go_ret
          exact ⟨ret_i64 HF.out.symm, (by first | exact HW.out | exact qt HW.out ⟨_, rfl⟩)⟩
        · have HF : Hid (cmpE a.data.toList b.data.toList = Lib.compareBytes (⟨x.toArray⟩ : ByteArray).data.toList (⟨y.toArray⟩ : ByteArray).data.toList) := by show _ = _; rw [HE.out, if_neg h1, if_neg h2, compare_is]
          have q2 : decide ((y.length : Int) < x.length) = false := by rw [decide_eq_false_iff_not]; omega
          go_wp2_with fail
          refine (Tryd.strings_Compare _ _ _).mono ?_
          rintro e w5 ⟨rfl, rfl⟩
          rw [← HF.out]
          go_wp2_with fail
          go_ret
          exact ⟨rfl, (by first | exact HW.out | exact qt HW.out ⟨_, rfl⟩)⟩

set_option maxHeartbeats 1000000 in
theorem pair_any (a b : ByteArray) (w : World) (ha : a.size ≤ maxLen) (hb : b.size ≤ maxLen) (a0 : 0 < a.size) (b0 : 0 < b.size) : Calls Tryd.prog 37 #[.string a, .string b] w fun e w' => e = .returned (.int .i64 (cmpE a.data.toList b.data.toList)) ∧ ∃ m, w' = w.drewN m := by
  have HLA := Lib.hid ha
  have HLB := Lib.hid hb
  unfold maxLen at ha hb
  have HDA := Lib.hid (digH_is a0)
  have HDB := Lib.hid (digH_is b0)
  have HC := Lib.hid (cmpE_first (a := a.data.toList) (b := b.data.toList))
  have HR := Lib.hid (cmpE_rest (a := a.data.toList) (b := b.data.toList))
  have a1 : (1 : Int) ≤ a.size := by omega
  have b1 : (1 : Int) ≤ b.size := by omega
  obtain ⟨c, hc⟩ : ∃ c, a[0]'a0 = c := ⟨_, rfl⟩
  obtain ⟨d, hd⟩ : ∃ d, b[0]'b0 = d := ⟨_, rfl⟩
  rw [hc] at HDA
  rw [hd] at HDB
  have HFST : Hid (digH a.data.toList = false ∨ digH b.data.toList = false → bytesC (a.extract 0 1).data.toList (b.extract 0 1).data.toList = cmpE a.data.toList b.data.toList) := fun h => by
    rw [HC.out h, first_list, first_list]
  go_enter Tryd.func37, Tryd.ntmps37
  go_wp2_with fail
  refine (digit_any c _).mono ?_
  rintro e w1 ⟨rfl, hw1⟩
  have HW := Lib.hid hw1
  clear hw1
  cases hdc : digC c
  · have HF := Lib.hid (HFST.out (.inl (by rw [HDA.out]; exact hdc)))
    clear hdc
    go_wp2_with fail
    go_quiet ((go_at_call 38; exact Calls.quiet_of (bytes_any _ _ _)))
    go_wp2_with fail
    go_ret
    exact ⟨ret_i64 HF.out, (by first | exact HW.out | exact qt HW.out ⟨_, rfl⟩)⟩
  · have HX := Lib.hid (show digH a.data.toList = true by rw [HDA.out]; exact hdc)
    clear hdc
    go_wp2_with fail
    refine (digit_any d _).mono ?_
    rintro e w2 ⟨rfl, hw2⟩
    replace HW := Lib.hid (qt HW.out hw2)
    clear hw2
    cases hdd : digC d
    · have HF := Lib.hid (HFST.out (.inr (by rw [HDB.out]; exact hdd)))
      clear hdd
      go_wp2_with fail
      go_quiet ((go_at_call 38; exact Calls.quiet_of (bytes_any _ _ _)))
      go_wp2_with fail
      go_ret
      exact ⟨ret_i64 HF.out, (by first | exact HW.out | exact qt HW.out ⟨_, rfl⟩)⟩
    · have HE := Lib.hid (HR.out HX.out (show digH b.data.toList = true by rw [HDB.out]; exact hdd))
      clear hdd hc hd
      have hla := strip_le a.data.toList
      have hlb := strip_le b.data.toList
      rw [size_data] at hla hlb
      have HTA := Lib.hid (fun w => plain_any a w HLA.out)
      have HTB := Lib.hid (fun w => plain_any b w HLB.out)
      obtain ⟨x, hx⟩ : ∃ x, stripZ a.data.toList = x := ⟨_, rfl⟩
      obtain ⟨y, hy⟩ : ∃ y, stripZ b.data.toList = y := ⟨_, rfl⟩
      rw [hx] at hla HE HTA
      rw [hy] at hlb HE HTB
      clear hx hy
      have hsx : (⟨x.toArray⟩ : ByteArray).size = x.length := by simp [ByteArray.size]
      have hsy : (⟨y.toArray⟩ : ByteArray).size = y.length := by simp [ByteArray.size]
      go_wp2_with fail
      refine (HTA.out _).mono ?_
      rintro e w3 ⟨rfl, hw⟩
      replace HW := Lib.hid (qt HW.out hw)
      clear hw
      go_wp2_with fail
      refine (HTB.out _).mono ?_
      rintro e w4 ⟨rfl, hw⟩
      replace HW := Lib.hid (qt HW.out hw)
      clear hw
      by_cases h1 : x.length < y.length
      · have HF : Hid (cmpE a.data.toList b.data.toList = -1) := by show _ = _; rw [HE.out, if_pos h1]
        have q0 : ((x.length : Int) != y.length) = true := by rw [bne_iff_ne]; omega
        have q1 : decide ((x.length : Int) < y.length) = true := by rw [decide_eq_true_eq]; omega
        go_wp2_with fail
        go_ret
        exact ⟨ret_i64 HF.out.symm, (by first | exact HW.out | exact qt HW.out ⟨_, rfl⟩)⟩
      · have q1 : decide ((x.length : Int) < y.length) = false := by rw [decide_eq_false_iff_not]; omega
        by_cases h2 : y.length < x.length
        · have HF : Hid (cmpE a.data.toList b.data.toList = 1) := by show _ = _; rw [HE.out, if_neg h1, if_pos h2]
          have q0 : ((x.length : Int) != y.length) = true := by rw [bne_iff_ne]; omega
          go_wp2_with fail
          go_ret
          exact ⟨ret_i64 HF.out.symm, (by first | exact HW.out | exact qt HW.out ⟨_, rfl⟩)⟩
        · have HF : Hid (cmpE a.data.toList b.data.toList = bytesC (⟨x.toArray⟩ : ByteArray).data.toList (⟨y.toArray⟩ : ByteArray).data.toList) := by show _ = _; rw [HE.out, if_neg h1, if_neg h2]
          have q0 : ((x.length : Int) != y.length) = false := by rw [bne_eq_false_iff_eq]; omega
          go_wp2_with fail
          refine (bytes_any _ _ _).mono ?_
          rintro e w5 ⟨rfl, hw⟩
          replace HW := Lib.hid (qt HW.out hw)
          clear hw
          rw [← HF.out]
          go_wp2_with fail
          go_ret
          exact ⟨rfl, (by first | exact HW.out | exact qt HW.out ⟨_, rfl⟩)⟩
end Go.Proofs.YtgfefnfnpplhlaaDoor
