/- Contracts: Open of ident; Seal and Open of its reference. -/
import Derived.Test.YtgfefnfnpplhlaaDoorIdL
namespace Go.Proofs.YtgfefnfnpplhlaaDoor
open Go.RowKit

set_option maxHeartbeats 1000000 in
theorem rSeal_any (s : ByteArray) (w : World) (hs : s.size ≤ 1000000) : Calls Tryd.prog 24 #[.string s] w (SealR w s.data.toList) := by
  go_enter Tryd.func24, Tryd.ntmps24
  go_wp2_with fail
  refine (rIsId_any s _ hs).mono ?_
  rintro e w1 ⟨rfl, hb1⟩
  have HB1 := Lib.hid hb1
  clear hb1
  cases hi : idB s.data.toList
  · have HI := Lib.hid hi
    clear hi
    go_wp2_with fail
    go_ret2
    exact sealR_no HI.out rfl HB1.out
  · have HI := Lib.hid hi
    have hlen := (idB_pos hi).2
    rw [size_data] at hlen
    have HSB := Lib.hid (seal_bytes s)
    have HCK := Lib.hid (fun w => Digits_any s w (by unfold maxLen; omega))
    have hds : (⟨(chkL s.data.toList).toArray⟩ : ByteArray).size = 2 := rfl
    clear hi
    generalize (⟨(chkL s.data.toList).toArray⟩ : ByteArray) = d at *
    go_wp2_with fail
    refine (HCK.out _).mono ?_
    rintro e w2 ⟨rfl, hb2⟩
    have HB2 := Lib.hid (ext_trans HB1.out hb2)
    clear hb2
    go_wp2_with fail
    go_ret2
    exact sealR_yes HI.out HSB.out rfl HB2.out

def OpenR (w : World) (l : List UInt8) (e : Ending) (w' : World) : Prop := e = .returned (.tuple #[bytesV (openL l), .int .i64 (openE l)]) ∧ Below w.heap.size w w'
theorem openR_yes {w w' : World} {l : List UInt8} {e : Ending} {i : ByteArray} (h : openE l = 0) (hi : i.data.toList = l.take (l.length - 3)) (he : e = .returned (.tuple #[.string i, .int .i64 0])) (hw : Below w.heap.size w w') : OpenR w l e w' :=
  ⟨by unfold openL bytesV; rw [if_pos h, h, ← hi]; exact he, hw⟩
theorem openR_no {w w' : World} {l : List UInt8} {e : Ending} {c : Int} (h : openE l = c) (hc : c ≠ 0) (he : e = .returned (.tuple #[.string ⟨#[]⟩, .int .i64 c])) (hw : Below w.heap.size w w') : OpenR w l e w' :=
  ⟨by unfold openL bytesV; rw [if_neg (by rw [h]; exact hc), h]; exact he, hw⟩
/-- the parts of what is to be opened -/
structure Parts (l : List UInt8) (i d : List UInt8) (c0 c1 c2 : UInt8) : Prop where
  n : 4 ≤ l.length
  i : i = l.take (l.length - 3)
  d : d = l.drop (l.length - 2)
  c0 : c0 = l.getD (l.length - 3) 0
  c1 : c1 = l.getD (l.length - 2) 0
  c2 : c2 = l.getD (l.length - 1) 0
section
variable {l i d : List UInt8} {c0 c1 c2 : UInt8}
theorem Parts.five (h : Parts l i d c0 c1 c2) (g : idB i = false ∨ c0 ≠ 47 ∨ digC c1 = false ∨ digC c2 = false) : openE l = 5 := by
  have := h.n
  unfold openE
  rw [if_neg (by omega), ← h.i, ← h.d, ← h.c0, ← h.c1, ← h.c2, if_pos g]
theorem Parts.zero (h : Parts l i d c0 c1 c2) (g1 : idB i = true) (g2 : c0 = 47) (g3 : digC c1 = true) (g4 : digC c2 = true) (g : d = chkL i) : openE l = 0 := by
  have := h.n
  unfold openE
  rw [if_neg (by omega), ← h.i, ← h.d, ← h.c0, ← h.c1, ← h.c2, if_neg (by rw [g1, g3, g4]; simp [g2]), if_pos g]
theorem Parts.sum (h : Parts l i d c0 c1 c2) (g1 : idB i = true) (g2 : c0 = 47) (g3 : digC c1 = true) (g4 : digC c2 = true) (g : d ≠ chkL i) : openE l = 16 := by
  have := h.n
  unfold openE
  rw [if_neg (by omega), ← h.i, ← h.d, ← h.c0, ← h.c1, ← h.c2, if_neg (by rw [g1, g3, g4]; simp [g2]), if_neg g]
end
theorem parts_of {s : ByteArray} {n : Nat} (hn : s.size = n + 3) (h1 : 1 ≤ n) : Parts s.data.toList (s.extract 0 n).data.toList (s.extract (n + 1) (n + 3)).data.toList (s[n]'(by omega)) (s[n + 1]'(by omega)) (s[n + 2]'(by omega)) := by
  have hl := size_data s
  refine ⟨by omega, ?_, ?_, ?_, ?_, ?_⟩
  · rw [extract_list, List.drop_zero, hl, hn]; rfl
  · rw [extract_list, List.take_of_length_le (by omega), hl, hn]; rfl
  · exact (getD_byte s (by omega)).symm.trans (by rw [show s.data.toList.length - 3 = n by omega])
  · exact (getD_byte s (by omega)).symm.trans (by rw [show s.data.toList.length - 2 = n + 1 by omega])
  · exact (getD_byte s (by omega)).symm.trans (by rw [show s.data.toList.length - 1 = n + 2 by omega])
theorem short_is {s : ByteArray} (h : s.size < 4) : openE s.data.toList = 3 := by unfold openE; rw [if_pos (by rw [size_data]; exact h)]
theorem slash {c : UInt8} : c = 47 ↔ (c.toNat : Int) = 47 := by rw [← UInt8.toNat_inj]; show _ = 47 ↔ _; omega
theorem same_bytes {a : ByteArray} {l : List UInt8} : (a.toList == (⟨l.toArray⟩ : ByteArray).toList) = decide (a.data.toList = l) := by
  rw [toList_data, toList_data, Bool.eq_iff_iff, beq_iff_eq, decide_eq_true_eq]
theorem ext_byte (s : ByteArray) {f k j : Nat} (h : f + j < k) (hk : k ≤ s.size) : (s.extract f k)[j]'(by simp; omega) = s[f + j]'(by omega) := by
  have h1 := getD_byte (s.extract f k) (j := j) (by simp; omega)
  have h2 := getD_byte s (j := f + j) (by omega)
  rw [← h1, ← h2, extract_list, List.getD_eq_getElem?_getD, List.getD_eq_getElem?_getD, List.getElem?_drop, List.getElem?_take, if_pos h]

set_option maxHeartbeats 1000000 in
theorem Open_any (s : ByteArray) (w : World) (hs : s.size ≤ maxLen) (hm : MLen w) : Calls Tryd.prog 25 #[.string s] w (OpenR w s.data.toList) := by
  have HM := Lib.hid hm
  clear hm
  unfold maxLen at hs
  by_cases h4 : s.size < 4
  · have b1 : decide ((s.size : Int) < 4) = true := by rw [decide_eq_true_eq]; omega
    have HN := Lib.hid (short_is h4)
    go_enter Tryd.func25, Tryd.ntmps25
    go_wp2_with fail
    go_ret2
    exact openR_no HN.out (by decide) rfl (Below.refl _ _)
  have b1 : decide ((s.size : Int) < 4) = false := by rw [decide_eq_false_iff_not]; omega
  obtain ⟨n, hn⟩ : ∃ n, s.size = n + 3 := ⟨s.size - 3, by omega⟩
  have hn1 : 1 ≤ n := by omega
  have HP := Lib.hid (parts_of hn hn1)
  have n1 : (s.size : Int) - 3 = n := by omega
  have hiz : (s.extract 0 n).size = n := by simp; omega
  obtain ⟨d, hd, hdz, HD0, HD1⟩ : ∃ d : ByteArray, s.extract (n + 1) (n + 3) = d ∧ ∃ hz : d.size = 2, d[0]'(by omega) = s[n + 1]'(by omega) ∧ d[1]'(by omega) = s[n + 2]'(by omega) :=
    ⟨_, rfl, by simp; omega, ext_byte s (f := n + 1) (j := 0) (by omega) (by omega), ext_byte s (f := n + 1) (j := 1) (by omega) (by omega)⟩
  rw [hd] at HP
  clear h4
  go_enter Tryd.func25, Tryd.ntmps25
  go_wp2_with fail
  go_quiet (fail)
  have hnm : n ≤ maxLen := by unfold maxLen; omega
  have HNM := Lib.hid hnm
  clear hnm
  obtain ⟨c0, hc0⟩ : ∃ c0, s[n]'(by omega) = c0 := ⟨_, rfl⟩
  obtain ⟨c1, hc1⟩ : ∃ c1, s[n + 1]'(by omega) = c1 := ⟨_, rfl⟩
  obtain ⟨c2, hc2⟩ : ∃ c2, s[n + 2]'(by omega) = c2 := ⟨_, rfl⟩
  rw [hc0, hc1, hc2] at HP
  rw [hc1] at HD0
  rw [hc2] at HD1
  try simp only [hd]
  clear hd
  obtain ⟨i, hi⟩ : ∃ i, s.extract 0 n = i := ⟨_, rfl⟩
  rw [hi] at HP hiz
  try simp only [hi]
  clear hi hc1 hc2
  have HIZ : Hid (i.size ≤ maxLen) := by show _ ≤ _; rw [hiz]; exact HNM.out
  go_wp2_with fail
  refine (IsId_any i _ HIZ.out (by exact HM.out)).mono ?_
  rintro e w1 ⟨rfl, hb1⟩
  have HB1 : Hid (Below w.heap.size w w1) := ext_trans (below_drewN' (Below.refl _ _) _) hb1
  clear hb1
  cases hid : idB i.data.toList
  · have HN := Lib.hid (HP.out.five (.inl hid))
    clear hid
    go_wp2_with fail
    go_ret2
    exact openR_no HN.out (by decide) rfl HB1.out
  have HI := Lib.hid hid
  clear hid
  by_cases h47 : (c0.toNat : Int) = 47
  rotate_left
  · have q1 : ((c0.toNat : Int) != 47) = true := by rw [bne_iff_ne]; exact h47
    have q2 : ((c0.toNat : Int) == 47) = false := by rw [beq_eq_false_iff_ne]; exact h47
    have HN := Lib.hid (HP.out.five (.inr (.inl (fun h => h47 (slash.1 h)))))
    clear h47
    go_wp2_with fail
    go_ret2
    exact openR_no HN.out (by decide) rfl HB1.out
  have q1 : ((c0.toNat : Int) != 47) = false := by rw [bne_eq_false_iff_eq]; exact h47
  have q2 : ((c0.toNat : Int) == 47) = true := by rw [beq_iff_eq]; exact h47
  have H47 := Lib.hid (slash.2 h47)
  clear h47
  go_wp2_with fail
  refine (isDigit_any c1 _).mono ?_
  rintro e w2 ⟨rfl, m2, rfl⟩
  cases hd1 : digC c1
  · have HN := Lib.hid (HP.out.five (.inr (.inr (.inl hd1))))
    clear hd1
    go_wp2_with fail
    go_ret2
    exact openR_no HN.out (by decide) rfl (below_drewN' HB1.out _)
  have HC1 := Lib.hid hd1
  clear hd1
  go_wp2_with fail
  refine (isDigit_any c2 _).mono ?_
  rintro e w3 ⟨rfl, m3, rfl⟩
  cases hd2 : digC c2
  · have HN := Lib.hid (HP.out.five (.inr (.inr (.inr hd2))))
    clear hd2
    go_wp2_with fail
    go_ret2
    exact openR_no HN.out (by decide) rfl (below_drewN' HB1.out _)
  have HC2 := Lib.hid hd2
  clear hd2
  have HCK := Lib.hid (fun w => check_any i w HIZ.out)
  have HSB := Lib.hid (same_bytes (a := d) (l := chkL i.data.toList))
  go_wp2_with fail
  refine (HCK.out _).mono ?_
  rintro e w4 ⟨rfl, m4, rfl⟩
  by_cases hs4 : d.data.toList = chkL i.data.toList
  · have HN := Lib.hid (HP.out.zero HI.out H47.out HC1.out HC2.out hs4)
    have hb : (d.toList == (⟨(chkL i.data.toList).toArray⟩ : ByteArray).toList) = true := by rw [HSB.out, hs4]; simp
    clear hs4
    generalize (⟨(chkL i.data.toList).toArray⟩ : ByteArray) = ck at *
    go_wp2_with fail
    go_ret2
    exact openR_yes HN.out HP.out.i rfl (below_drewN' HB1.out _)
  · have HN := Lib.hid (HP.out.sum HI.out H47.out HC1.out HC2.out hs4)
    have hb : (d.toList == (⟨(chkL i.data.toList).toArray⟩ : ByteArray).toList) = false := by rw [HSB.out]; simpa using hs4
    clear hs4
    generalize (⟨(chkL i.data.toList).toArray⟩ : ByteArray) = ck at *
    go_wp2_with fail
    go_ret2
    exact openR_no HN.out (by decide) rfl (below_drewN' HB1.out _)
end Go.Proofs.YtgfefnfnpplhlaaDoor
