/- Contracts: Digits and Seal of the reference of ident. -/
import Derived.Test.YtgfefnfnpplhlaaDoorIdK
import Derived.Laws.IdiomStrings
namespace Go.Proofs.YtgfefnfnpplhlaaDoor
open Go.RowKit

set_option maxHeartbeats 1000000 in
theorem Digits_any (s : ByteArray) (w : World) (hs : s.size ≤ maxLen) : Calls Tryd.prog 40 #[.string s] w fun e w' => e = .returned (.string ⟨(chkL s.data.toList).toArray⟩) ∧ Below w.heap.size w w' := by
  unfold maxLen at hs
  go_enter Tryd.func40, Tryd.ntmps40
  go_wp2_with fail
  go_loopw [3, 4] (fun x i wr => ∃ k r : Nat, k ≤ s.size ∧ i = .int .i64 k ∧ x = .int .i64 r ∧ r < 97 ∧ Hid (r = modR (s.data.toList.take k)) ∧ wr = w) (fun _ i _ => s.size - (intOf i).toNat)
  case atStart => exact ⟨0, 0, Nat.zero_le _, rfl, rfl, by omega, rfl, rfl⟩
  case round =>
    obtain ⟨k, r, hk, rfl, rfl, hr, HM, rfl⟩ := hrel
    by_cases hlt : k < s.size
    · have HT := Lib.hid (modR_take hlt)
      rw [← HM.out] at HT
      obtain ⟨c, hc⟩ : ∃ c, s[k]'hlt = c := ⟨_, rfl⟩
      rw [hc] at HT
      have hc2 := c.toNat_lt
      have e1 : IntKind.i64.wrap (256 * (r : Int)) = 256 * r := IntWalk.i64_in _ (by omega)
      have e0 : IntKind.i64.wrap (c.toNat : Int) = c.toNat := IntWalk.i64_in _ (by omega)
      have e2 : IntKind.i64.wrap (256 * (r : Int) + c.toNat) = 256 * r + c.toNat := IntWalk.i64_in _ (by omega)
      have e3 : Int.tmod (256 * (r : Int) + c.toNat) 97 = (((256 * r + c.toNat) % 97 : Nat) : Int) := by rw [← tmod_nat]; simp
      have hm : (256 * r + c.toNat) % 97 < 97 := by omega
      generalize (256 * r + c.toNat) % 97 = r' at *
      go_wp2_with fail
      go_roundw
      case rel => exact ⟨k + 1, r', by omega, by go_num, rfl, hm, HT.out.symm, by first | rfl | trivial⟩
      case measure => simp [intOf]; omega
    · have HR : Hid (chkN s.data.toList = 98 - 100 * r % 97) := by
        show _ = _
        unfold chkN
        rw [HM.out, List.take_of_length_le (by rw [size_data]; omega)]
      obtain ⟨n, hn⟩ : ∃ n, 98 - 100 * r % 97 = n := ⟨_, rfl⟩
      have e5 : (98 : Int) - 100 * (r : Int) % 97 = n := by omega
      rw [hn] at HR
      have hn2 : 2 ≤ n ∧ n ≤ 98 := by omega
      obtain ⟨p, hp⟩ : ∃ p, 48 + n / 10 = p := ⟨_, rfl⟩
      obtain ⟨q, hq⟩ : ∃ q, 48 + n % 10 = q := ⟨_, rfl⟩
      have f1 : (48 : Int) + (n : Int) / 10 = p := by omega
      have f2 : (48 : Int) + (n : Int) % 10 = q := by omega
      have hp2 : p < 256 := by omega
      have hq2 : q < 256 := by omega
      have HPQ : Hid (chkL s.data.toList = [UInt8.ofNat p, UInt8.ofNat q]) := by show _ = _; unfold chkL; rw [HR.out, hp, hq]
      clear hp hq
      clear hn
      have hcv := run_convert_bytes_back (P := Tryd.prog) (wr.alloc (.cells #[.int .u8 p, .int .u8 q] 5)) 36 9 5 ⟨wr.heap.size, 0, none⟩ 2 [UInt8.ofNat p, UInt8.ofNat q] Tryd.underlying36 Tryd.underlying5 Tryd.underlying9 (by
        intro j hj
        have e1 : (UInt8.ofNat p).toNat = p := by rw [UInt8.toNat_ofNat']; omega
        have e2 : (UInt8.ofNat q).toNat = q := by rw [UInt8.toNat_ofNat']; omega
        match j, hj with
        | 0, _ => simp [Addr.add, e1]
        | 1, _ => simp [Addr.add, e2])
      change Sem.run _ (convert _ _ (.slice _ 2 _)) _ = _ at hcv
      have HE : Hid ((⟨[UInt8.ofNat p, UInt8.ofNat q].toArray⟩ : ByteArray) = ⟨(chkL s.data.toList).toArray⟩) := by show _ = _; rw [HPQ.out]
      generalize (⟨[UInt8.ofNat p, UInt8.ofNat q].toArray⟩ : ByteArray) = d at *
      go_wp2_with (simp only [hcv])
      go_ret
      exact ⟨congrArg (fun x => Ending.returned (.string x)) HE.out, (Below.refl _ _).alloc (Nat.le_refl _) _⟩
end Go.Proofs.YtgfefnfnpplhlaaDoor
