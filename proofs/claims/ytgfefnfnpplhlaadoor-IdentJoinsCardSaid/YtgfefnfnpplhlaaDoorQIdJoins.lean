/- The law on joining. -/
import Derived.Test.YtgfefnfnpplhlaaDoorQIdSplits
namespace Go.Proofs.YtgfefnfnpplhlaaDoor
open Go.RowKit

theorem rJoin_yes {v : Value} {ss : List ByteArray} {w : World} {r : ByteArray} (h : SZ w v ss) (hz : ∀ x ∈ ss, x.size ≤ 1000) (h1 : bytesV (joinV (bl ss)) = .string r) (h2 : namesB (bl ss) = true) : Calls Tryd.prog 20 #[v] w fun e w' => e = .returned (.tuple #[.string r, .int .i64 0]) ∧ Below w.heap.size w w' := by
  have := rJoin_any v ss w h hz
  unfold JoinR at this
  rw [h1, if_pos h2] at this
  exact this
theorem rJoin_no {v : Value} {ss : List ByteArray} {w : World} {r : ByteArray} (h : SZ w v ss) (hz : ∀ x ∈ ss, x.size ≤ 1000) (h1 : bytesV (joinV (bl ss)) = .string r) (h2 : namesB (bl ss) = false) : Calls Tryd.prog 20 #[v] w fun e w' => e = .returned (.tuple #[.string r, .int .i64 6]) ∧ Below w.heap.size w w' := by
  have := rJoin_any v ss w h hz
  unfold JoinR at this
  rw [h1, if_neg (by rw [h2]; simp)] at this
  exact this
theorem Split_no {s : ByteArray} {w : World} (h : idB s.data.toList = false) (hs : s.size ≤ maxLen) (hm : MLen w) : Calls Tryd.prog 16 #[.string s] w fun e w' => ∃ v ss, e = .returned (.tuple #[v, .int .i64 6]) ∧ SZ w' v ss ∧ Below w.heap.size w w' := by
  refine (Split_any s w hs hm).mono ?_
  rintro e w' ⟨v, ss, he, hz, _, hw⟩
  rw [if_neg (by rw [h]; simp)] at he
  exact ⟨v, ss, he, hz, hw⟩
theorem none_empty0 : idB (⟨#[]⟩ : ByteArray).data.toList = false := by decide
theorem allsmall {ss : List ByteArray} (h : ∀ j, j < ss.length → (zi ss j).size ≤ 100) : ∀ x ∈ ss, x.size ≤ 100 := by
  intro x hx
  obtain ⟨k, hk, rfl⟩ := mem_zi hx
  exact h k hk

set_option maxHeartbeats 2000000 in
theorem Joins_any (v : Value) (ss : List ByteArray) (w : World) (hm : MLen w) (h : SZ w v ss) (hz : ∀ x ∈ ss, x.size ≤ maxLen) : Calls Tryd.prog 5 #[v] w (Ret w (.bool true)) := by
  have HM := Lib.hid hm
  have HZ := Lib.hid h
  have HZM := Lib.hid hz
  obtain ⟨a, cap, rfl, h1, h2, h3⟩ := h
  have H3 := Lib.hid h3
  clear hm h3 hz
  by_cases h20 : 20 < ss.length
  · have hb : decide ((20 : Int) < ss.length) = true := by rw [decide_eq_true_eq]; omega
    go_enter Tryd.func5, Tryd.ntmps5
    go_wp2_with fail
    refine (alive_any _ HM.out).mono ?_
    rintro e w1 ⟨rfl, hb1⟩
    go_wp2_with fail
    go_ret
    exact ret_true hb1
  have hb : decide ((20 : Int) < ss.length) = false := by rw [decide_eq_false_iff_not]; omega
  have HL : Hid (ss.length ≤ 1000) := by show _ ≤ _; omega
  go_enter Tryd.func5, Tryd.ntmps5
  go_wp2_with fail
  go_loopw [3] (fun i wr => ∃ k : Nat, k ≤ ss.length ∧ i = .int .i64 k ∧ w = wr ∧ Hid (∀ j, j < k → (zi ss j).size ≤ 100)) (fun i _ => ss.length - (intOf i).toNat)
  case atStart => exact ⟨0, Nat.zero_le _, rfl, rfl, fun j hj => by omega⟩
  case round =>
    obtain ⟨k, hk, rfl, rfl, hj⟩ := hrel
    by_cases hlt : k < ss.length
    · obtain ⟨b, off, ha, hc⟩ := H3.out k hlt
      try dsimp only at hc
      subst ha
      have hsz := HZM.out _ (zi_mem hlt)
      have HYES : Hid ((zi ss k).size ≤ 100 → ∀ j, j < k + 1 → (zi ss j).size ≤ 100) := fun h j hj' => by
        by_cases e : j = k
        · subst e; exact h
        · exact hj.out j (by omega)
      obtain ⟨y, hy⟩ : ∃ y, zi ss k = y := ⟨_, rfl⟩
      rw [hy] at hc HYES hsz
      unfold maxLen at hsz
      clear hy hj
      by_cases h100 : 100 < y.size
      · have b1 : decide ((100 : Int) < y.size) = true := by rw [decide_eq_true_eq]; omega
        go_wp2_with fail
        refine (alive_any _ HM.out).mono ?_
        rintro e w1 ⟨rfl, hb1⟩
        go_wp2_with fail
        go_ret
        exact ret_true hb1
      · have b1 : decide ((100 : Int) < y.size) = false := by rw [decide_eq_false_iff_not]; omega
        have HR := Lib.hid (HYES.out (by omega))
        go_wp2_with fail
        go_roundw
        case rel => exact ⟨k + 1, by omega, by go_num, by first | rfl | trivial, HR.out⟩
        case measure => simp [intOf]; omega
    · obtain rfl : k = ss.length := by omega
      have HS1 : Hid (∀ x ∈ ss, x.size ≤ 1000) := fun x hx => Nat.le_trans (allsmall hj.out x hx) (by decide)
      clear hj
      cases hn : namesB (bl ss)
      · have HN := Lib.hid hn
        have HV : Hid (bytesV (joinV (bl ss)) = .string ⟨#[]⟩) := by show _ = _; unfold joinV; rw [if_neg (by rw [hn]; simp)]; rfl
        clear hn
        go_wp2_with fail
        refine (Join_no HZ.out HL.out HZM.out HV.out HN.out).mono ?_
        rintro e w1 ⟨rfl, hb1⟩
        have HB := Lib.hid hb1
        clear hb1
        go_wp2_with fail
        refine (rJoin_no (HZ.out.keep HB.out) HS1.out HV.out HN.out).mono ?_
        rintro e w2 ⟨rfl, hb2⟩
        replace HB := Lib.hid (ext_trans HB.out hb2)
        clear hb2
        go_wp2_with fail
        refine (Split_no none_empty0 (small (by decide)) (HM.out.keep HB.out)).mono ?_
        rintro e w3 ⟨v3, s3, rfl, hz3, hb3⟩
        replace HB := Lib.hid (ext_trans HB.out hb3)
        clear hb3 hz3
        go_wp2_with fail
        refine (alive_any _ (HM.out.keep HB.out)).mono ?_
        rintro e w5 ⟨rfl, hb⟩
        replace HB := Lib.hid (ext_trans HB.out hb)
        clear hb
        go_wp2_with fail
        go_ret
        exact ret_true HB.out
      · have HN := Lib.hid hn
        have hid := namesB_id hn
        have hlen := namesB_len hn
        obtain ⟨t, ht⟩ : ∃ t : ByteArray, t = ⟨(joinL (bl ss)).toArray⟩ := ⟨_, rfl⟩
        have htl : t.data.toList = joinL (bl ss) := by rw [ht]
        have HV : Hid (bytesV (joinV (bl ss)) = .string t) := by show _ = _; unfold joinV; rw [if_pos hn, ht]; rfl
        have HTZ : Hid (t.size ≤ maxLen) := by show _ ≤ _; rw [← size_data t, htl]; unfold maxLen; omega
        have HI : Hid (idB t.data.toList = true) := by show _ = _; rw [htl]; exact hid.1
        have HC : Hid (cutL t.data.toList = bl ss) := by show _ = _; rw [htl]; exact hid.2
        clear hn hid hlen ht htl
        go_wp2_with fail
        refine (Join_yes HZ.out HL.out HZM.out HV.out HN.out).mono ?_
        rintro e w1 ⟨rfl, hb1⟩
        have HB := Lib.hid hb1
        clear hb1
        go_wp2_with fail
        refine (rJoin_yes (HZ.out.keep HB.out) HS1.out HV.out HN.out).mono ?_
        rintro e w2 ⟨rfl, hb2⟩
        replace HB := Lib.hid (ext_trans HB.out hb2)
        clear hb2
        go_wp2_with fail
        refine (Split_yes HI.out HTZ.out (HM.out.keep HB.out)).mono ?_
        rintro e w3 ⟨v3, s3, rfl, hz3, hl3, hb3⟩
        replace HB := Lib.hid (ext_trans HB.out hb3)
        have HZ3 := Lib.hid hz3
        have HL3 := Lib.hid (hl3.trans HC.out)
        clear hb3 hz3 hl3
        go_wp2_with fail
        refine (rSame_is HZ3.out (HZ.out.keep HB.out) HL3.out).mono ?_
        rintro e w4 ⟨rfl, m, rfl⟩
        replace HB : Hid (Below w.heap.size w (w3.drewN m)) := below_drewN' HB.out _
        go_wp2_with fail
        refine (alive_any _ (HM.out.keep HB.out)).mono ?_
        rintro e w5 ⟨rfl, hb⟩
        replace HB := Lib.hid (ext_trans HB.out hb)
        clear hb
        go_wp2_with fail
        go_ret
        exact ret_true HB.out
end Go.Proofs.YtgfefnfnpplhlaaDoor
