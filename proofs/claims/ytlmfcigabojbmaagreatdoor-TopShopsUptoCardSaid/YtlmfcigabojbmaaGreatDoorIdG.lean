/- Contracts: IsId, Split, Join, Same of the reference of ident. -/
import Derived.Test.YtlmfcigabojbmaaGreatDoorIdF
set_option linter.unusedSimpArgs false
set_option linter.unusedVariables false
namespace Go.Proofs.YtlmfcigabojbmaaGreatDoor
open Go.RowKit

theorem idB_parts {l : List UInt8} {ss : List ByteArray} (h : bl ss = cutL l) (h64 : l.length ≤ 64) (h8 : ss.length ≤ 8) (ha : ∀ j, j < ss.length → nameB (zi ss j).data.toList = true) : idB l = true := by
  unfold idB
  rw [← h, all_names ha, bl_length]
  simp; omega
theorem idB_many {l : List UInt8} {ss : List ByteArray} (h : bl ss = cutL l) (h8 : 8 < ss.length) : idB l = false := by
  unfold idB
  rw [← h, bl_length]
  have : decide (ss.length ≤ 8) = false := by rw [decide_eq_false_iff_not]; omega
  rw [this]; simp
theorem idB_bad {l : List UInt8} {ss : List ByteArray} (h : bl ss = cutL l) {j : Nat} (hj : j < ss.length) (hn : nameB (zi ss j).data.toList = false) : idB l = false := by
  rw [idB_names, ← h]; exact namesB_no hj hn

set_option maxHeartbeats 1000000 in
theorem rIsId_any (s : ByteArray) (w : World) (hs : s.size ≤ 1100000) : Calls Tryz.prog 39 #[.string s] w (Ret w (.bool (idB s.data.toList))) := by
  have hls := size_data s
  have HLS := Lib.hid hls
  clear hls
  go_enter Tryz.func39, Tryz.ntmps39
  go_wp2_with fail
  refine (rparts_any s _ hs).mono ?_
  rintro e w1 ⟨v, ss, rfl, hbl, hz, hsl, hb⟩
  have HB1 := Lib.hid hb
  have HZ1 := Lib.hid hz
  have HBL := Lib.hid hbl
  have HPL := Lib.hid (pieces_le hbl)
  obtain ⟨a, cap, e1, h1, h2, h3⟩ := hz
  subst e1
  have H3 := Lib.hid h3
  clear hb hbl h3
  by_cases h64 : 64 < s.size
  · have b1 : decide ((64 : Int) < s.size) = true := by rw [decide_eq_true_eq]; omega
    have HN := Lib.hid (idB_long h64)
    go_wp2_with fail
    go_ret
    exact ⟨ret_bool HN.out.symm, HB1.out⟩
  have b1 : decide ((64 : Int) < s.size) = false := by rw [decide_eq_false_iff_not]; omega
  by_cases h8 : 8 < ss.length
  · have b2 : decide ((8 : Int) < ss.length) = true := by rw [decide_eq_true_eq]; omega
    have HN := Lib.hid (idB_many HBL.out h8)
    go_wp2_with fail
    go_ret
    exact ⟨ret_bool HN.out.symm, HB1.out⟩
  have b2 : decide ((8 : Int) < ss.length) = false := by rw [decide_eq_false_iff_not]; omega
  go_wp2_with fail
  go_loopw [4] (fun i wr => ∃ k : Nat, k ≤ ss.length ∧ i = .int .i64 k ∧ (∃ m, wr = w1.drewN m) ∧ Hid (∀ j, j < k → nameB (zi ss j).data.toList = true)) (fun i _ => ss.length - (intOf i).toNat)
  case atStart => exact ⟨0, Nat.zero_le _, rfl, ⟨0, rfl⟩, fun j hj => by omega⟩
  case round =>
    obtain ⟨k, hk, rfl, ⟨m, rfl⟩, hj⟩ := hrel
    by_cases hlt : k < ss.length
    · obtain ⟨b, off, ha, hc⟩ := H3.out k hlt
      try dsimp only at hc
      subst ha
      have HYES : Hid (nameB (zi ss k).data.toList = true → ∀ j, j < k + 1 → nameB (zi ss j).data.toList = true) := fun h => upto hj.out h
      have HNO : Hid (nameB (zi ss k).data.toList = false → idB s.data.toList = false) := fun h => idB_bad HBL.out hlt h
      have hsz := HPL.out _ (zi_mem hlt)
      rw [HLS.out] at hsz
      obtain ⟨y, hy⟩ : ∃ y, zi ss k = y := ⟨_, rfl⟩
      rw [hy] at hc HYES HNO hsz
      clear hy hj
      go_wp2_with fail
      refine (rIsName_any y _ (by unfold maxLen; omega)).mono ?_
      rintro e w2 ⟨rfl, m2, rfl⟩
      cases hn : nameB y.data.toList
      · have HR := Lib.hid (HNO.out hn)
        clear hn
        go_wp2_with fail
        go_ret
        exact ⟨ret_bool HR.out.symm, below_drewN' HB1.out _⟩
      · have HR := Lib.hid (HYES.out hn)
        clear hn
        go_wp2_with fail
        go_roundw
        case rel => exact ⟨k + 1, by omega, by go_num, ⟨_, rfl⟩, HR.out⟩
        case measure => simp [intOf]; omega
    · have HN := Lib.hid (idB_parts HBL.out (by rw [HLS.out]; omega) (by omega) (fun j h => hj.out j (by omega)))
      go_wp2_with fail
      go_ret
      exact ⟨ret_bool HN.out.symm, below_drewN' HB1.out _⟩

/-! Join: from the left -/
def jPre (ss : List ByteArray) (k : Nat) : List UInt8 := if k = 0 then (zi ss 0).data.toList else joinL ((bl ss).take k)
theorem joinL_snoc {xs : List (List UInt8)} (h : xs ≠ []) (y : List UInt8) : joinL (xs ++ [y]) = joinL xs ++ 46 :: y := by
  induction xs with
  | nil => exact absurd rfl h
  | cons x xs ih =>
    cases xs with
    | nil => rfl
    | cons z zs =>
      have e1 := joinL_cons (x := x) (xs := z :: zs ++ [y]) (by simp)
      have e2 := joinL_cons (x := x) (xs := z :: zs) (by simp)
      rw [List.cons_append, e1, ih (by simp), e2]; simp
theorem jPre_succ {ss : List ByteArray} {k : Nat} (h : k < ss.length) : jPre ss (k + 1) = if k = 0 then jPre ss 0 else jPre ss k ++ 46 :: (zi ss k).data.toList := by
  unfold jPre
  have hk : k < (bl ss).length := by rw [bl_length]; exact h
  have e : (bl ss)[k] = (zi ss k).data.toList := by simp [bl, zi_lt h]
  rw [if_neg (by omega), List.take_succ_eq_append_getElem hk, e]
  by_cases h0 : k = 0
  · subst h0; rw [if_pos rfl, if_pos rfl]; rfl
  · rw [if_neg h0, if_neg h0, joinL_snoc]
    intro e2
    have := congrArg List.length e2
    simp only [List.length_take, bl_length, List.length_nil] at this
    omega
theorem jPre_all {ss : List ByteArray} (h : 0 < ss.length) : jPre ss ss.length = joinL (bl ss) := by
  unfold jPre; rw [if_neg (by omega), List.take_of_length_le (by rw [bl_length]; exact Nat.le_refl _)]
theorem jPre_len {ss : List ByteArray} (hn : ∀ x ∈ ss, x.size ≤ 1000) {k : Nat} (hk : k ≤ ss.length) (h0 : 0 < ss.length) : (jPre ss k).length ≤ 1000 + k * 1001 := by
  induction k with
  | zero =>
    have := hn _ (zi_mem h0)
    unfold jPre; rw [if_pos rfl, size_data]; omega
  | succ k ih =>
    have h1 := ih (by omega)
    have h2 := hn _ (zi_mem (show k < ss.length by omega))
    rw [jPre_succ (by omega)]
    split
    · have h3 := hn _ (zi_mem h0)
      unfold jPre; rw [if_pos rfl, size_data]; omega
    · rw [List.length_append, List.length_cons, size_data]; omega
theorem namesB_final {ss : List ByteArray} (h1 : 1 ≤ ss.length) (h8 : ss.length ≤ 8) (ha : ∀ j, j < ss.length → nameB (zi ss j).data.toList = true) : namesB (bl ss) = decide ((joinL (bl ss)).length ≤ 64) := by
  unfold namesB
  rw [all_names ha, bl_length]
  have e1 : decide (1 ≤ ss.length) = true := by rw [decide_eq_true_eq]; exact h1
  have e2 : decide (ss.length ≤ 8) = true := by rw [decide_eq_true_eq]; exact h8
  rw [e1, e2]; rfl
theorem namesB_count {ss : List ByteArray} (h : ss.length < 1 ∨ 8 < ss.length) : namesB (bl ss) = false := by
  unfold namesB
  rw [bl_length]
  rcases h with h | h
  · have : decide (1 ≤ ss.length) = false := by rw [decide_eq_false_iff_not]; omega
    rw [this]; simp
  · have : decide (ss.length ≤ 8) = false := by rw [decide_eq_false_iff_not]; omega
    rw [this]; simp
theorem bytes_of (s : ByteArray) : s = ⟨s.data.toList.toArray⟩ := by cases s; simp

end Go.Proofs.YtlmfcigabojbmaaGreatDoor
