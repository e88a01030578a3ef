/- Contracts: names, IsId, Split, Join of ident. -/
import Derived.Test.YtlmfcigabojbmaaGreatDoorIdC
set_option linter.unusedSimpArgs false
set_option linter.unusedVariables false
namespace Go.Proofs.YtlmfcigabojbmaaGreatDoor
open Go.RowKit

theorem bl_length (ss : List ByteArray) : (bl ss).length = ss.length := by simp [bl]
theorem bl_take (ss : List ByteArray) (k : Nat) : bl (ss.take k) = (bl ss).take k := by simp [bl, List.map_take]
def sumZ (ss : List ByteArray) (k : Nat) : Nat := ((ss.take k).map ByteArray.size).sum
theorem sumZ_succ {ss : List ByteArray} {k : Nat} (h : k < ss.length) : sumZ ss (k + 1) = sumZ ss k + (zi ss k).size := by
  unfold sumZ; rw [take_succ_zi h]; simp
theorem sumZ_le {ss : List ByteArray} {k : Nat} (h : ∀ j, j < k → nameB (zi ss j).data.toList = true) (hk : k ≤ ss.length) : sumZ ss k ≤ k * 16 := by
  induction k with
  | zero => simp [sumZ]
  | succ k ih =>
    rw [sumZ_succ (by omega)]
    have := ih (fun j hj => h j (by omega)) (by omega)
    have h2 := nameB_len (h k (by omega))
    rw [size_data] at h2
    omega
theorem sumZ_join {ss : List ByteArray} (h : 0 < ss.length) : (joinL (bl ss)).length + 1 = sumZ ss ss.length + ss.length := by
  have hne : bl ss ≠ [] := by intro e; have := congrArg List.length e; rw [bl_length] at this; simp only [List.length_nil] at this; omega
  rw [joinL_length hne, bl_length]
  unfold sumZ bl
  rw [List.take_length, List.map_map]
  have e : ss.map (List.length ∘ fun s : ByteArray => s.data.toList) = ss.map ByteArray.size := List.map_congr_left fun s _ => size_data s
  rw [e]
theorem all_names {ss : List ByteArray} (h : ∀ j, j < ss.length → nameB (zi ss j).data.toList = true) : (bl ss).all nameB = true := by
  rw [List.all_eq_true]
  intro x hx
  simp only [bl, List.mem_map] at hx
  obtain ⟨s, hs, rfl⟩ := hx
  obtain ⟨k, hk, rfl⟩ := mem_zi hs
  exact h k hk
theorem namesB_no {ss : List ByteArray} {j : Nat} (hj : j < ss.length) (h : nameB (zi ss j).data.toList = false) : namesB (bl ss) = false := by
  have : (bl ss).all nameB = false := by
    rw [List.all_eq_false]
    exact ⟨_, List.mem_map_of_mem (zi_mem hj), by rw [h]; simp⟩
  unfold namesB
  rw [this]; simp
theorem namesB_yes {ss : List ByteArray} (h : ∀ j, j < ss.length → nameB (zi ss j).data.toList = true) : namesB (bl ss) = (decide ((1 : Int) ≤ ss.length) && decide ((ss.length : Int) ≤ 8) && decide ((ss.length : Int) - 1 + sumZ ss ss.length ≤ 64)) := by
  unfold namesB
  rw [all_names h, bl_length]
  rw [Bool.eq_iff_iff]
  simp only [Bool.and_eq_true, decide_eq_true_eq, Bool.and_true]
  by_cases h0 : 0 < ss.length
  · have := sumZ_join h0; omega
  · omega

set_option maxHeartbeats 1000000 in
theorem names_any (v : Value) (ss : List ByteArray) (w : World) (h : SZ w v ss) (hl : ss.length ≤ 1000) (hz : ∀ x ∈ ss, x.size ≤ maxLen) : Calls Tryz.prog 57 #[v] w (Ret w (.bool (namesB (bl ss)))) := by
  obtain ⟨a, cap, rfl, h1, h2, h3⟩ := h
  have H3 := Lib.hid h3
  have HZ := Lib.hid hz
  clear h3 hz
  go_enter Tryz.func57, Tryz.ntmps57
  go_wp2_with fail
  go_loopg [3, 11] ss.length (fun g b i wr => ∃ k : Nat, k ≤ ss.length ∧ i = .int .i64 k ∧ g = ss.length - k ∧ b = .int .i64 ((ss.length : Int) - 1 + sumZ ss k) ∧ Hid (Below w.heap.size w wr) ∧ Hid (∀ j, j < k → nameB (zi ss j).data.toList = true))
  case atStart => exact ⟨0, Nat.zero_le _, rfl, by omega, by simp [sumZ], Below.refl _ _, fun j hj => by omega⟩
  case round =>
    obtain ⟨k, hk, rfl, rfl, rfl, hbw, hj⟩ := hrel
    by_cases hlt : k < ss.length
    · obtain ⟨b, off, ha, hc⟩ := H3.out k hlt
      have hc := cell_keep hbw.out hc
      try dsimp only at hc
      subst ha
      have HYES : Hid (nameB (zi ss k).data.toList = true → ∀ j, j < k + 1 → nameB (zi ss j).data.toList = true) := fun h => upto hj.out h
      have HNO : Hid (nameB (zi ss k).data.toList = false → namesB (bl ss) = false) := fun h => namesB_no hlt h
      have HS := Lib.hid (sumZ_succ hlt)
      have hsl := sumZ_le hj.out hk
      have hzk := HZ.out _ (zi_mem hlt)
      obtain ⟨y, hy⟩ : ∃ y, zi ss k = y := ⟨_, rfl⟩
      rw [hy] at hc HYES HNO HS hzk
      obtain ⟨z, hzz⟩ : ∃ z, sumZ ss k = z := ⟨_, rfl⟩
      rw [hzz] at hsl HS ⊢
      clear hy hzz hj
      go_wp2_with fail
      refine (IsName_any y _ hzk).mono ?_
      rintro e w1 ⟨rfl, hb⟩
      have HB1 := Lib.hid (ext_trans hbw.out hb)
      clear hb
      cases hn : nameB y.data.toList
      · have HR := Lib.hid (HNO.out hn)
        clear hn
        go_wp2_with fail
        go_ret
        exact ⟨ret_bool HR.out.symm, HB1.out⟩
      · have HR := Lib.hid (HYES.out hn)
        have hyl := nameB_len hn
        rw [size_data] at hyl
        have e1 : IntKind.i64.wrap ((ss.length : Int) - 1 + z + y.size) = (ss.length : Int) - 1 + z + y.size := IntWalk.i64_in _ (by omega)
        clear hn
        go_wp2_with fail
        go_roundg (ss.length - (k + 1))
        case measure => omega
        case rel => exact ⟨k + 1, by omega, by go_num, rfl, by rw [HS.out]; congr 1; omega, HB1.out, HR.out⟩
    · obtain rfl : k = ss.length := by omega
      have HN := Lib.hid (namesB_yes hj.out)
      have hsl := sumZ_le hj.out (Nat.le_refl _)
      obtain ⟨z, hzz⟩ : ∃ z, sumZ ss ss.length = z := ⟨_, rfl⟩
      rw [hzz] at hsl HN ⊢
      clear hzz hj
      by_cases c1 : (1 : Int) ≤ ss.length
      all_goals by_cases c2 : (ss.length : Int) ≤ 8
      all_goals by_cases c3 : (ss.length : Int) - 1 + z ≤ 64
      all_goals first
        | (exfalso; omega)
        | (have HN2 : Hid (namesB (bl ss) = (decide ((1 : Int) ≤ ss.length) && decide ((ss.length : Int) ≤ 8) && decide ((ss.length : Int) - 1 + z ≤ 64))) := HN.out
           go_wp2_with fail
           go_ret
           refine ⟨ret_bool ?_, hbw.out⟩
           rw [HN2.out, Bool.eq_iff_iff]; simp <;> omega)
end Go.Proofs.YtlmfcigabojbmaaGreatDoor
