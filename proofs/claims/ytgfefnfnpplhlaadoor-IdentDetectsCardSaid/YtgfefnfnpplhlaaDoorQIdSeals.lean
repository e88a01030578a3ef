/- The laws on sealing and on opening. -/
import Derived.Test.YtgfefnfnpplhlaaDoorQIdNames
namespace Go.Proofs.YtgfefnfnpplhlaaDoor
open Go.RowKit

theorem rSeal_is {s : ByteArray} {w : World} {r : ByteArray} {er : Int} (hs : s.size ≤ 1000000) (h1 : bytesV (sealV s.data.toList) = .string r) (h2 : (if idB s.data.toList = true then 0 else 6) = er) : Calls Tryd.prog 24 #[.string s] w fun e w' => e = .returned (.tuple #[.string r, .int .i64 er]) ∧ Below w.heap.size w w' := by
  rw [← h1, ← h2]; exact rSeal_any s w hs
theorem rOpen_is {s : ByteArray} {w : World} {r : ByteArray} {er : Int} (hs : s.size ≤ 1000000) (h1 : bytesV (openL s.data.toList) = .string r) (h2 : openE s.data.toList = er) : Calls Tryd.prog 26 #[.string s] w fun e w' => e = .returned (.tuple #[.string r, .int .i64 er]) ∧ Below w.heap.size w w' := by
  rw [← h1, ← h2]; exact rOpen_any s w hs
theorem sealV_yes {l : List UInt8} (h : idB l = true) : bytesV (sealV l) = .string ⟨(sealL l).toArray⟩ := by unfold sealV; rw [if_pos h]; rfl
theorem sealV_no {l : List UInt8} (h : idB l = false) : bytesV (sealV l) = .string ⟨#[]⟩ := by unfold sealV; rw [if_neg (by rw [h]; simp)]; rfl
theorem six {l : List UInt8} (h : idB l = false) : (if idB l = true then (0 : Int) else 6) = 6 := if_neg (by rw [h]; simp)
theorem nought {l : List UInt8} (h : idB l = true) : (if idB l = true then (0 : Int) else 6) = 0 := if_pos h
theorem openV_no {l : List UInt8} (h : openE l ≠ 0) : bytesV (openL l) = .string ⟨#[]⟩ := by unfold openL; rw [if_neg h]; rfl
theorem bytesV_of {l : List UInt8} {s : ByteArray} (h : l = s.data.toList) : bytesV l = .string s := by rw [h]; exact congrArg Value.string (bytes_of s).symm
theorem none_empty : idB (⟨#[]⟩ : ByteArray).data.toList = false := by decide
theorem open_empty : openE (⟨#[]⟩ : ByteArray).data.toList = 3 := by decide

set_option maxHeartbeats 1000000 in
theorem Seals_any (s : ByteArray) (w : World) (hm : MLen w) : Calls Tryd.prog 8 #[.string s] w (Ret w (.bool true)) := by
  have HM := Lib.hid hm
  clear hm
  by_cases h : 1000 < s.size
  · have hb : decide ((1000 : Int) < s.size) = true := by rw [decide_eq_true_eq]; omega
    go_enter Tryd.func8, Tryd.ntmps8
    go_wp2_with fail
    refine (alive_any _ HM.out).mono ?_
    rintro e w1 ⟨rfl, hb1⟩
    go_wp2_with fail
    go_ret
    exact ret_true hb1
  have hb : decide ((1000 : Int) < s.size) = false := by rw [decide_eq_false_iff_not]; omega
  have HL : Hid (s.size ≤ 1000000) := by show _ ≤ _; omega
  have hs : s.size ≤ maxLen := by unfold maxLen; omega
  have HS := Lib.hid hs
  clear hs h
  go_enter Tryd.func8, Tryd.ntmps8
  go_wp2_with fail
  cases hi : idB s.data.toList
  · have HI := Lib.hid hi
    clear hi
    refine (Seal_is HS.out HM.out (sealV_no HI.out) (six HI.out)).mono ?_
    rintro e w1 ⟨rfl, hb1⟩
    have HB := Lib.hid hb1
    clear hb1
    go_wp2_with fail
    refine (rSeal_is HL.out (sealV_no HI.out) (six HI.out)).mono ?_
    rintro e w2 ⟨rfl, hb2⟩
    replace HB := Lib.hid (ext_trans HB.out hb2)
    clear hb2
    go_wp2_with fail
    refine (Open_is (small (by decide)) (HM.out.keep HB.out) (openV_no (by rw [open_empty]; decide)) open_empty).mono ?_
    rintro e w3 ⟨rfl, hb3⟩
    replace HB := Lib.hid (ext_trans HB.out hb3)
    clear hb3
    go_wp2_with fail
    refine (alive_any _ (HM.out.keep HB.out)).mono ?_
    rintro e w5 ⟨rfl, hb⟩
    replace HB := Lib.hid (ext_trans HB.out hb)
    clear hb
    go_wp2_with fail
    go_ret
    exact ret_true HB.out
  · have HI := Lib.hid hi
    have ho := open_seal hi
    have hlen := sealL_length s.data.toList
    have hp := idB_pos hi
    clear hi
    obtain ⟨t, ht⟩ : ∃ t : ByteArray, t = ⟨(sealL s.data.toList).toArray⟩ := ⟨_, rfl⟩
    have htl : t.data.toList = sealL s.data.toList := by rw [ht]
    have HT : Hid (bytesV (sealV s.data.toList) = .string t) := by show _ = _; rw [sealV_yes HI.out, ht]
    have HTZ : Hid (t.size ≤ maxLen) := by show _ ≤ _; rw [← size_data t, htl]; unfold maxLen; omega
    have HO1 : Hid (bytesV (openL t.data.toList) = .string s) := by show _ = _; rw [htl]; exact bytesV_of ho.2
    have HO2 : Hid (openE t.data.toList = 0) := by show _ = _; rw [htl]; exact ho.1
    clear ho hlen hp ht htl
    refine (Seal_is HS.out HM.out HT.out (nought HI.out)).mono ?_
    rintro e w1 ⟨rfl, hb1⟩
    have HB := Lib.hid hb1
    clear hb1
    go_wp2_with fail
    refine (rSeal_is HL.out HT.out (nought HI.out)).mono ?_
    rintro e w2 ⟨rfl, hb2⟩
    replace HB := Lib.hid (ext_trans HB.out hb2)
    clear hb2
    go_wp2_with fail
    refine (Open_is HTZ.out (HM.out.keep HB.out) HO1.out HO2.out).mono ?_
    rintro e w3 ⟨rfl, hb3⟩
    replace HB := Lib.hid (ext_trans HB.out hb3)
    clear hb3
    go_wp2_with fail
    refine (alive_any _ (HM.out.keep HB.out)).mono ?_
    rintro e w5 ⟨rfl, hb⟩
    replace HB := Lib.hid (ext_trans HB.out hb)
    clear hb
    go_wp2_with fail
    go_ret
    exact ret_true HB.out

set_option maxHeartbeats 1000000 in
theorem Opens_any (s : ByteArray) (w : World) (hm : MLen w) : Calls Tryd.prog 9 #[.string s] w (Ret w (.bool true)) := by
  have HM := Lib.hid hm
  clear hm
  by_cases h : 1000 < s.size
  · have hb : decide ((1000 : Int) < s.size) = true := by rw [decide_eq_true_eq]; omega
    go_enter Tryd.func9, Tryd.ntmps9
    go_wp2_with fail
    refine (alive_any _ HM.out).mono ?_
    rintro e w1 ⟨rfl, hb1⟩
    go_wp2_with fail
    go_ret
    exact ret_true hb1
  have hb : decide ((1000 : Int) < s.size) = false := by rw [decide_eq_false_iff_not]; omega
  have HL : Hid (s.size ≤ 1000000) := by show _ ≤ _; omega
  have hs : s.size ≤ maxLen := by unfold maxLen; omega
  have HS := Lib.hid hs
  clear hs h
  go_enter Tryd.func9, Tryd.ntmps9
  go_wp2_with fail
  by_cases hz : openE s.data.toList = 0
  rotate_left
  · obtain ⟨er, her⟩ : ∃ er, openE s.data.toList = er := ⟨_, rfl⟩
    have HE := Lib.hid her
    have HV := Lib.hid (openV_no hz)
    rw [her] at hz
    have z1 : (er != 0) = true := by rw [bne_iff_ne]; exact hz
    have z2 : (er == 0) = false := by rw [beq_eq_false_iff_ne]; exact hz
    clear her hz
    refine (Open_is HS.out HM.out HV.out HE.out).mono ?_
    rintro e w1 ⟨rfl, hb1⟩
    have HB := Lib.hid hb1
    clear hb1
    go_wp2_with fail
    refine (rOpen_is HL.out HV.out HE.out).mono ?_
    rintro e w2 ⟨rfl, hb2⟩
    replace HB := Lib.hid (ext_trans HB.out hb2)
    clear hb2
    go_wp2_with fail
    refine (Seal_is (small (by decide)) (HM.out.keep HB.out) (sealV_no none_empty) (six none_empty)).mono ?_
    rintro e w3 ⟨rfl, hb3⟩
    replace HB := Lib.hid (ext_trans HB.out hb3)
    clear hb3
    go_wp2_with fail
    refine (alive_any _ (HM.out.keep HB.out)).mono ?_
    rintro e w5 ⟨rfl, hb⟩
    replace HB := Lib.hid (ext_trans HB.out hb)
    clear hb
    go_wp2_with fail
    go_ret
    exact ret_true HB.out
  · have HE := Lib.hid hz
    have ho := seal_open hz
    have hp := idB_pos ho.1
    clear hz
    obtain ⟨t, ht⟩ : ∃ t : ByteArray, t = ⟨(openL s.data.toList).toArray⟩ := ⟨_, rfl⟩
    have htl : t.data.toList = openL s.data.toList := by rw [ht]
    have HT : Hid (bytesV (openL s.data.toList) = .string t) := bytesV_of htl.symm
    have HI : Hid (idB t.data.toList = true) := by show _ = _; rw [htl]; exact ho.1
    have HTZ : Hid (t.size ≤ maxLen) := by show _ ≤ _; rw [← size_data t, htl]; unfold maxLen; omega
    have HO1 : Hid (bytesV (sealV t.data.toList) = .string s) := by
      show _ = _
      unfold sealV
      rw [if_pos HI.out, htl]; exact bytesV_of ho.2
    clear ho hp ht htl
    refine (Open_is HS.out HM.out HT.out HE.out).mono ?_
    rintro e w1 ⟨rfl, hb1⟩
    have HB := Lib.hid hb1
    clear hb1
    go_wp2_with fail
    refine (rOpen_is HL.out HT.out HE.out).mono ?_
    rintro e w2 ⟨rfl, hb2⟩
    replace HB := Lib.hid (ext_trans HB.out hb2)
    clear hb2
    go_wp2_with fail
    refine (Seal_is HTZ.out (HM.out.keep HB.out) HO1.out (nought HI.out)).mono ?_
    rintro e w3 ⟨rfl, hb3⟩
    replace HB := Lib.hid (ext_trans HB.out hb3)
    clear hb3
    go_wp2_with fail
    refine (alive_any _ (HM.out.keep HB.out)).mono ?_
    rintro e w5 ⟨rfl, hb⟩
    replace HB := Lib.hid (ext_trans HB.out hb)
    clear hb
    go_wp2_with fail
    go_ret
    exact ret_true HB.out
end Go.Proofs.YtgfefnfnpplhlaaDoor
