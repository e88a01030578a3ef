/- Contracts: check and Seal of ident. -/
import Derived.Test.YtgfefnfnpplhlaaDoorIdJ
namespace Go.Proofs.YtgfefnfnpplhlaaDoor
open Go.RowKit

theorem modR_take {s : ByteArray} {k : Nat} (h : k < s.size) : modR (s.data.toList.take (k + 1)) = (256 * modR (s.data.toList.take k) + (s[k]'h).toNat) % 97 := by
  have h' : k < s.data.toList.length := by rw [size_data]; exact h
  rw [List.take_succ_eq_append_getElem h', modR_snoc]; rfl
theorem chkL_itoa {l : List UInt8} : chkL l = if chkN l < 10 then 48 :: Lib.decDigits (chkN l) else Lib.decDigits (chkN l) := by
  have h := chkN_bd l
  unfold chkL
  by_cases h1 : chkN l < 10
  · rw [if_pos h1, Lib.decDigits_one h1]
    have e1 : chkN l / 10 = 0 := by omega
    have e2 : chkN l % 10 = chkN l := by omega
    rw [e1, e2]; rfl
  · rw [if_neg h1, Lib.decDigits_two h1 (by omega)]
theorem tmod_nat (a b : Nat) : Int.tmod (a : Int) b = ((a % b : Nat) : Int) := by rw [Int.tmod_eq_emod_of_nonneg (by omega)]; omega

set_option maxHeartbeats 1000000 in
theorem check_any (s : ByteArray) (w : World) (hs : s.size ≤ maxLen) : Calls Tryd.prog 39 #[.string s] w fun e w' => e = .returned (.string ⟨(chkL s.data.toList).toArray⟩) ∧ ∃ m, w' = w.drewN m := by
  unfold maxLen at hs
  go_enter Tryd.func39, Tryd.ntmps39
  go_wp2_with fail
  go_loopw [3, 8] (fun x i wr => ∃ k r : Nat, k ≤ s.size ∧ i = .int .i64 k ∧ x = .int .i64 r ∧ r < 97 ∧ Hid (r = modR (s.data.toList.take k)) ∧ wr = w) (fun _ i _ => s.size - (intOf i).toNat)
  case atStart => exact ⟨0, 0, Nat.zero_le _, rfl, rfl, by omega, rfl, rfl⟩
  case round =>
    obtain ⟨k, r, hk, rfl, rfl, hr, HM, rfl⟩ := hrel
    by_cases hlt : k < s.size
    · have HT := Lib.hid (modR_take hlt)
      rw [← HM.out] at HT
      obtain ⟨c, hc⟩ : ∃ c, s[k]'hlt = c := ⟨_, rfl⟩
      rw [hc] at HT
      have hc2 := c.toNat_lt
      have e1 : IntKind.i64.wrap (256 * (r : Int)) = 256 * r := IntWalk.i64_in _ (by omega)
      have e0 : IntKind.i64.wrap (c.toNat : Int) = c.toNat := IntWalk.i64_in _ (by omega)
      have e2 : IntKind.i64.wrap (256 * (r : Int) + c.toNat) = 256 * r + c.toNat := IntWalk.i64_in _ (by omega)
      have e3 : Int.tmod (256 * (r : Int) + c.toNat) 97 = (((256 * r + c.toNat) % 97 : Nat) : Int) := by rw [← tmod_nat]; simp
      have hm : (256 * r + c.toNat) % 97 < 97 := by omega
      generalize (256 * r + c.toNat) % 97 = r' at *
      go_wp2_with fail
      go_roundw
      case rel => exact ⟨k + 1, r', by omega, by go_num, rfl, hm, HT.out.symm, by first | rfl | trivial⟩
      case measure => simp [intOf]; omega
    · have HR : Hid (chkN s.data.toList = 98 - 100 * r % 97) := by
        show _ = _
        unfold chkN
        rw [HM.out, List.take_of_length_le (by rw [size_data]; omega)]
      obtain ⟨n, hn⟩ : ∃ n, 98 - 100 * r % 97 = n := ⟨_, rfl⟩
      have e5 : (98 : Int) - 100 * (r : Int) % 97 = n := by omega
      rw [hn] at HR
      have hn2 : 2 ≤ n ∧ n ≤ 98 := by omega
      have HCH := Lib.hid (chkL_itoa (l := s.data.toList))
      rw [HR.out] at HCH
      clear hn
      by_cases h10 : n < 10
      · have b1 : decide ((n : Int) < 10) = true := by rw [decide_eq_true_eq]; omega
        have HE : Hid ((⟨#[48]⟩ : ByteArray) ++ ⟨(Lib.decDigits n).toArray⟩ = (⟨(chkL s.data.toList).toArray⟩ : ByteArray)) := by
          show _ = _
          rw [HCH.out, if_pos h10]
          apply ByteArray.ext
          simp
        have hds : (⟨(Lib.decDigits n).toArray⟩ : ByteArray).size = 1 := by rw [Lib.decDigits_one h10]; rfl
        have HI := Lib.hid (Tryd.strconv_Itoa_small n (by omega))
        generalize (⟨(Lib.decDigits n).toArray⟩ : ByteArray) = d at *
        go_wp2_with fail
        refine (HI.out _).mono ?_
        rintro e w1 ⟨rfl, rfl⟩
        go_wp2_with fail
        go_ret
        exact ⟨congrArg (fun x => Ending.returned (.string x)) HE.out, 0, rfl⟩
      · have b1 : decide ((n : Int) < 10) = false := by rw [decide_eq_false_iff_not]; omega
        have HE : Hid ((⟨(Lib.decDigits n).toArray⟩ : ByteArray) = ⟨(chkL s.data.toList).toArray⟩) := by
          show _ = _
          rw [HCH.out, if_neg h10]
        have HI := Lib.hid (Tryd.strconv_Itoa_small n (by omega))
        generalize (⟨(Lib.decDigits n).toArray⟩ : ByteArray) = d at *
        go_wp2_with fail
        refine (HI.out _).mono ?_
        rintro e w1 ⟨rfl, rfl⟩
        go_wp2_with fail
        go_ret
        exact ⟨congrArg (fun x => Ending.returned (.string x)) HE.out, 0, rfl⟩

def sealV (l : List UInt8) : List UInt8 := if idB l = true then sealL l else []
def SealR (w : World) (l : List UInt8) (e : Ending) (w' : World) : Prop := e = .returned (.tuple #[bytesV (sealV l), .int .i64 (if idB l = true then 0 else 6)]) ∧ Below w.heap.size w w'
theorem sealR_yes {w w' : World} {l : List UInt8} {e : Ending} {b : ByteArray} (h : idB l = true) (hb : b.data.toList = sealL l) (he : e = .returned (.tuple #[.string b, .int .i64 0])) (hw : Below w.heap.size w w') : SealR w l e w' :=
  ⟨by unfold sealV bytesV; rw [if_pos h, if_pos h, ← hb]; exact he, hw⟩
theorem sealR_no {w w' : World} {l : List UInt8} {e : Ending} (h : idB l = false) (he : e = .returned (.tuple #[.string ⟨#[]⟩, .int .i64 6])) (hw : Below w.heap.size w w') : SealR w l e w' :=
  ⟨by unfold sealV bytesV; rw [if_neg (by rw [h]; simp), if_neg (by rw [h]; simp)]; exact he, hw⟩
theorem seal_bytes (s : ByteArray) : ((s ++ (⟨#[47]⟩ : ByteArray)) ++ (⟨(chkL s.data.toList).toArray⟩ : ByteArray)).data.toList = sealL s.data.toList := by
  unfold sealL; simp

set_option maxHeartbeats 1000000 in
theorem Seal_any (s : ByteArray) (w : World) (hs : s.size ≤ maxLen) (hm : MLen w) : Calls Tryd.prog 23 #[.string s] w (SealR w s.data.toList) := by
  go_enter Tryd.func23, Tryd.ntmps23
  go_wp2_with fail
  refine (IsId_any s _ hs hm).mono ?_
  rintro e w1 ⟨rfl, hb1⟩
  have HB1 := Lib.hid hb1
  have HS := Lib.hid hs
  clear hb1 hs hm
  cases hi : idB s.data.toList
  · have HI := Lib.hid hi
    clear hi
    go_wp2_with fail
    go_ret2
    exact sealR_no HI.out rfl HB1.out
  · have HI := Lib.hid hi
    have hlen := (idB_pos hi).2
    rw [size_data] at hlen
    have HSB := Lib.hid (seal_bytes s)
    have HCK := Lib.hid (fun w => check_any s w HS.out)
    have hds : (⟨(chkL s.data.toList).toArray⟩ : ByteArray).size = 2 := rfl
    clear hi
    generalize (⟨(chkL s.data.toList).toArray⟩ : ByteArray) = d at *
    go_wp2_with fail
    refine (HCK.out _).mono ?_
    rintro e w2 ⟨rfl, m, rfl⟩
    go_wp2_with fail
    go_ret2
    exact sealR_yes HI.out HSB.out rfl (below_drewN' HB1.out _)
end Go.Proofs.YtgfefnfnpplhlaaDoor
