/- Contracts: the hash of a string, of the program and of the reference. -/
import Derived.Test.YtjbegegjpepkjaaDoorIdC
import Derived.Test.YtjbegegjpepkjaaDoorTraHex
import Derived.Laws.BitsAllLaws
namespace Go.Proofs.YtjbegegjpepkjaaDoor
open Go.RowKit

theorem fnv_step (q c : Nat) (hq : q < 18446744073709551616) (hc : c < 256) : IntKind.u64.wrap (bits .xor .u64 (q : Int) (c : Int) * 1099511628211) = (((q ^^^ c) * 1099511628211 % 18446744073709551616 : Nat) : Int) := by
  rw [u64_xor_nat _ _ hq (by omega), IntKind.wrap_u64]
  generalize q ^^^ c = z
  omega
theorem take_fnv (s : ByteArray) (k : Nat) (h : k < s.size) : fnvL (s.data.toList.take (k + 1)) = (fnvL (s.data.toList.take k) ^^^ (s[k]'h).toNat) * 1099511628211 % 18446744073709551616 := by
  rw [List.take_succ_eq_append_getElem (by simpa using h), fnvL_snoc]; rfl

set_option maxHeartbeats 1000000 in
theorem rHash_any (s : ByteArray) (w : World) (hs : s.size ≤ maxLen) : Calls Tryd.prog 43 #[.string s] w fun e w' => e = .returned (.int .u64 (fnvL s.data.toList)) ∧ w = w' := by
  unfold maxLen at hs
  go_enter Tryd.func43, Tryd.ntmps43
  go_wp2_with fail
  go_loop [3, 4] (fun n i => ∃ k q : Nat, k ≤ s.size ∧ i = .int .i64 k ∧ n = .int .u64 q ∧ q < 18446744073709551616 ∧ Hid (q = fnvL (s.data.toList.take k))) (fun _ i => s.size - (intOf i).toNat)
  case atStart => exact ⟨0, 14695981039346656037, Nat.zero_le _, rfl, rfl, by omega, rfl⟩
  case round =>
    obtain ⟨k, q, hk, rfl, rfl, hq, HQ⟩ := hrel
    by_cases hlt : k < s.size
    · have HT := Lib.hid (take_fnv s k hlt)
      rw [← HQ.out] at HT
      obtain ⟨c, hc⟩ : ∃ c, s[k]'hlt = c := ⟨_, rfl⟩
      rw [hc] at HT
      have hc2 := c.toNat_lt
      have e1 := fnv_step q c.toNat hq (by omega)
      have hr : (q ^^^ c.toNat) * 1099511628211 % 18446744073709551616 < 18446744073709551616 := Nat.mod_lt _ (by omega)
      generalize (q ^^^ c.toNat) * 1099511628211 % 18446744073709551616 = r at *
      go_wp2_with fail
      go_round
      case rel => exact ⟨k + 1, r, by omega, by go_num, rfl, hr, HT.out.symm⟩
      case measure => simp [intOf]; omega
    · have HN : Hid (q = fnvL s.data.toList) := by
        show _ = _
        rw [HQ.out, List.take_of_length_le (by rw [size_data]; omega)]
      go_wp2_with fail
      go_ret
      exact ⟨congrArg (fun x : Nat => Ending.returned (.int .u64 x)) HN.out, rfl⟩
set_option maxHeartbeats 1000000 in
theorem Hash_any (s : ByteArray) (w : World) (hs : s.size ≤ maxLen) : Calls Tryd.prog 23 #[.string s] w fun e w' => e = .returned (.int .u64 (fnvL s.data.toList)) ∧ w = w' := by
  unfold maxLen at hs
  go_enter Tryd.func23, Tryd.ntmps23
  go_wp2_with fail
  go_loop [2, 6] (fun n i => ∃ k q : Nat, k ≤ s.size ∧ i = .int .i64 k ∧ n = .int .u64 q ∧ q < 18446744073709551616 ∧ Hid (q = fnvL (s.data.toList.take k))) (fun _ i => s.size - (intOf i).toNat)
  case atStart => exact ⟨0, 14695981039346656037, Nat.zero_le _, rfl, rfl, by omega, rfl⟩
  case round =>
    obtain ⟨k, q, hk, rfl, rfl, hq, HQ⟩ := hrel
    by_cases hlt : k < s.size
    · have HT := Lib.hid (take_fnv s k hlt)
      rw [← HQ.out] at HT
      obtain ⟨c, hc⟩ : ∃ c, s[k]'hlt = c := ⟨_, rfl⟩
      rw [hc] at HT
      have hc2 := c.toNat_lt
      have e1 := fnv_step q c.toNat hq (by omega)
      have hr : (q ^^^ c.toNat) * 1099511628211 % 18446744073709551616 < 18446744073709551616 := Nat.mod_lt _ (by omega)
      generalize (q ^^^ c.toNat) * 1099511628211 % 18446744073709551616 = r at *
      go_wp2_with fail
      go_round
      case rel => exact ⟨k + 1, r, by omega, by go_num, rfl, hr, HT.out.symm⟩
      case measure => simp [intOf]; omega
    · have HN : Hid (q = fnvL s.data.toList) := by
        show _ = _
        rw [HQ.out, List.take_of_length_le (by rw [size_data]; omega)]
      go_wp2_with fail
      go_ret
      exact ⟨congrArg (fun x : Nat => Ending.returned (.int .u64 x)) HN.out, rfl⟩
end Go.Proofs.YtjbegegjpepkjaaDoor
