/- The law on detecting a changed byte and an exchange. -/
import Derived.Test.YtgfefnfnpplhlaaDoorQIdSeals
namespace Go.Proofs.YtgfefnfnpplhlaaDoor
open Go.RowKit

theorem seal_take' {l : List UInt8} {k : Nat} (h : k ≤ l.length) : (sealL l).take k = l.take k := by
  unfold sealL; rw [List.take_append_of_le_length h]
theorem seal_drop' {l : List UInt8} {k : Nat} (h : k ≤ l.length) : (sealL l).drop k = l.drop k ++ 47 :: chkL l := by
  unfold sealL; rw [List.drop_append_of_le_length h]
theorem split_at {l : List UInt8} {k : Nat} (h : k < l.length) : l.take k ++ l[k] :: l.drop (k + 1) = l := by
  rw [← List.drop_eq_getElem_cons h, List.take_append_drop]
theorem one_err {l : List UInt8} {k : Nat} {d : UInt8} (hi : idB l = true) (h : k < l.length) (hne : d ≠ l[k]) : openE ((sealL l).take k ++ d :: (sealL l).drop (k + 1)) ≠ 0 := by
  rw [seal_take' (by omega), seal_drop' (by omega)]
  have e := split_at h
  have := detect_one (x := l.take k) (y := l.drop (k + 1)) (c := l[k]) (d := d) (by rw [e]; exact hi) (Ne.symm hne)
  rw [e] at this
  simpa using this
theorem two_err {l : List UInt8} {k : Nat} (hi : idB l = true) (h : k + 1 < l.length) (hne : l[k] ≠ l[k + 1]) : openE ((sealL l).take k ++ l[k + 1] :: l[k] :: (sealL l).drop (k + 2)) ≠ 0 := by
  rw [seal_take' (by omega), seal_drop' (by omega)]
  have e : l.take k ++ l[k] :: l[k + 1] :: l.drop (k + 2) = l := by
    rw [← List.drop_eq_getElem_cons h]; exact split_at (by omega)
  have := detect_two (x := l.take k) (y := l.drop (k + 2)) (c := l[k]) (d := l[k + 1]) (by rw [e]; exact hi) hne
  rw [e] at this
  simpa using this
theorem piece_one {l : List UInt8} {k : Nat} (h : k < l.length) : ((sealL l).take (k + 1)).drop k = [l[k]] := by
  rw [seal_take' (by omega), List.take_succ_eq_append_getElem h, List.drop_append_of_le_length (by simp; omega), List.drop_eq_nil_of_le (by simp; omega)]; rfl

/-- what the walk knows of the sealed string -/
structure Sealed (s t : ByteArray) : Prop where
  l : t.data.toList = sealL s.data.toList
  n : t.size = s.size + 3
theorem Sealed.one {s t p1 dd p3 : ByteArray} {k : Nat} {d : UInt8} (h : Sealed s t) (hi : idB s.data.toList = true) (hk : k < s.size) (hne : d ≠ s[k]) (h1 : t.extract 0 k = p1) (hd : dd.data.toList = [d]) (h3 : t.extract (k + 1) (s.size + 3) = p3) : openE ((p1 ++ dd) ++ p3).data.toList ≠ 0 := by
  have e1 : p1.data.toList = (sealL s.data.toList).take k := by rw [← h1, extract_list, List.drop_zero, h.l]
  have e3 : p3.data.toList = (sealL s.data.toList).drop (k + 1) := by rw [← h3, extract_list, ← h.n, List.take_of_length_le (by rw [size_data]; exact Nat.le_refl _), h.l]
  have e : ((p1 ++ dd) ++ p3).data.toList = (sealL s.data.toList).take k ++ d :: (sealL s.data.toList).drop (k + 1) := by
    simp [e1, e3, hd]
  rw [e]
  exact one_err hi (by rw [size_data]; exact hk) (by have : s.data.toList[k]'(by rw [size_data]; exact hk) = s[k] := rfl; rw [this]; exact hne)
theorem Sealed.two {s t p1 p2 p3 p4 : ByteArray} {k : Nat} (h : Sealed s t) (hi : idB s.data.toList = true) (hk : k + 1 < s.size) (hne : s[k] ≠ s[k + 1]) (h1 : t.extract 0 k = p1) (h2 : t.extract (k + 1) (k + 2) = p2) (h3 : t.extract k (k + 1) = p3) (h4 : t.extract (k + 2) (s.size + 3) = p4) : openE (((p1 ++ p2) ++ p3) ++ p4).data.toList ≠ 0 := by
  have hl : k + 1 < s.data.toList.length := by rw [size_data]; exact hk
  have e1 : p1.data.toList = (sealL s.data.toList).take k := by rw [← h1, extract_list, List.drop_zero, h.l]
  have e2 : p2.data.toList = [s.data.toList[k + 1]] := by rw [← h2, extract_list, h.l, piece_one hl]
  have e3 : p3.data.toList = [s.data.toList[k]] := by rw [← h3, extract_list, h.l, piece_one (by omega)]
  have e4 : p4.data.toList = (sealL s.data.toList).drop (k + 2) := by rw [← h4, extract_list, ← h.n, List.take_of_length_le (by rw [size_data]; exact Nat.le_refl _), h.l]
  have e : (((p1 ++ p2) ++ p3) ++ p4).data.toList = (sealL s.data.toList).take k ++ s.data.toList[k + 1] :: s.data.toList[k] :: (sealL s.data.toList).drop (k + 2) := by
    simp only [ByteArray.data_append, Array.toList_append, e1, e2, e3, e4]; simp
  rw [e]
  exact two_err hi hl hne

set_option maxRecDepth 20000 in
set_option maxHeartbeats 4000000 in
theorem Detects_in (s : ByteArray) (k : Nat) (d : UInt8) (w : World) (hm : MLen w) (hl : s.size ≤ 1000) (hk : k < s.size) (hi : idB s.data.toList = true) : Calls Tryd.prog 10 #[.string s, .int .i64 k, .int .u8 d.toNat] w (Ret w (.bool true)) := by
  have HM := Lib.hid hm
  have HI := Lib.hid hi
  have b1 : decide ((1000 : Int) < s.size) = false := by rw [decide_eq_false_iff_not]; omega
  have b2 : decide ((k : Int) < 0) = false := by rw [decide_eq_false_iff_not]; omega
  have b3 : decide ((s.size : Int) ≤ k) = false := by rw [decide_eq_false_iff_not]; omega
  have k0 : (0 : Int) ≤ k := by omega
  have k1 : (k : Int) < s.size := by omega
  have hsm : s.size ≤ maxLen := by unfold maxLen; omega
  have HSM := Lib.hid hsm
  obtain ⟨t, ht⟩ : ∃ t : ByteArray, t = ⟨(sealL s.data.toList).toArray⟩ := ⟨_, rfl⟩
  have htl : t.data.toList = sealL s.data.toList := by rw [ht]
  have htz : t.size = s.size + 3 := by rw [← size_data t, htl, sealL_length, size_data]
  have HT : Hid (bytesV (sealV s.data.toList) = .string t) := by show _ = _; rw [sealV_yes hi, ht]
  have SL : Hid (Sealed s t) := ⟨htl, htz⟩
  clear ht htl hm hi hsm
  have w1k : IntKind.i64.wrap ((k : Int) + 1) = k + 1 := IntWalk.i64_in _ (by omega)
  have w2k : IntKind.i64.wrap ((k : Int) + 2) = k + 2 := IntWalk.i64_in _ (by omega)
  have w3k : IntKind.i64.wrap ((s.size : Int) + 3) = s.size + 3 := IntWalk.i64_in _ (by omega)
  have g1 : (k : Int) ≤ s.size + 3 := by omega
  have g2 : (k : Int) + 1 ≤ s.size + 3 := by omega
  have g3 : (k : Int) + 2 ≤ s.size + 3 := by omega
  have g4 : (0 : Int) ≤ (k : Int) + 1 := by omega
  have g5 : (0 : Int) ≤ (k : Int) + 2 := by omega
  have g6 : (k : Int) ≤ (k : Int) + 1 := by omega
  have g7 : (k : Int) + 1 ≤ (k : Int) + 2 := by omega
  obtain ⟨p1, hp1, hp1z⟩ : ∃ p : ByteArray, t.extract 0 k = p ∧ p.size = k := ⟨_, rfl, by simp; omega⟩
  obtain ⟨p3, hp3, hp3z⟩ : ∃ p : ByteArray, t.extract (k + 1) (s.size + 3) = p ∧ p.size + k = s.size + 2 := ⟨_, rfl, by simp; omega⟩
  obtain ⟨c0, hc0⟩ : ∃ c0, s[k]'hk = c0 := ⟨_, rfl⟩
  go_enter Tryd.func10, Tryd.ntmps10
  go_wp2_with fail
  refine (Seal_is HSM.out HM.out HT.out (nought HI.out)).mono ?_
  rintro e w1 ⟨rfl, hb1⟩
  have HB := Lib.hid hb1
  clear hb1
  by_cases hd : ((d.toNat : Int) = c0.toNat)
  have z1 : ((d.toNat : Int) != c0.toNat) = false := by rw [bne_eq_false_iff_eq]; exact hd
  have z2 : ((d.toNat : Int) == c0.toNat) = true := by rw [beq_iff_eq]; exact hd
  go_wp2_with fail
  generalize w1 = w2 at *
  clear hd z1 z2
  rotate_left
  focus
    have z1 : ((d.toNat : Int) != c0.toNat) = true := by rw [bne_iff_ne]; exact hd
    have z2 : ((d.toNat : Int) == c0.toNat) = false := by rw [beq_eq_false_iff_ne]; exact hd
    have hne : d ≠ s[k]'hk := fun h => hd (by rw [h, hc0])
    obtain ⟨dd, hdd, hddz⟩ : ∃ dd : ByteArray, (⟨[d].toArray⟩ : ByteArray) = dd ∧ dd.size = 1 := ⟨_, rfl, rfl⟩
    have HNE := Lib.hid (SL.out.one (dd := dd) HI.out hk hne hp1 (by rw [← hdd]) hp3)
    have hcv := run_convert_bytes_back (P := Tryd.prog) ((w1.alloc (.cells #[.int .u8 d.toNat] 5)).drew) 36 9 5 ⟨w1.heap.size, 0, none⟩ 1 [d] Tryd.underlying36 Tryd.underlying5 Tryd.underlying9 (by
      intro j hj
      match j, hj with
      | 0, _ => exact World.cell?_alloc_mark w1 _ _ (0, 0) 0)
    change Sem.run _ (convert _ _ (.slice _ 1 _)) _ = _ at hcv
    rw [hdd] at hcv
    clear hd hne hdd
    obtain ⟨ar, har, harz⟩ : ∃ ar : ByteArray, (p1 ++ dd) ++ p3 = ar ∧ ar.size = s.size + 3 := ⟨_, rfl, by simp only [ByteArray.size_append]; omega⟩
    obtain ⟨er, her⟩ : ∃ er, openE ((p1 ++ dd) ++ p3).data.toList = er := ⟨_, rfl⟩
    rw [her] at HNE
    have hnz := HNE.out
    have z3 : (er == 0) = false := by rw [beq_eq_false_iff_ne]; exact hnz
    have z4 : (er != 0) = true := by rw [bne_iff_ne]; exact hnz
    have HERR := Lib.hid her
    have HARZ : Hid (((p1 ++ dd) ++ p3).size ≤ maxLen) := by show _ ≤ _; rw [har, harz]; unfold maxLen; omega
    obtain ⟨oz, hoz⟩ : ∃ oz : ByteArray, (⟨(openL ((p1 ++ dd) ++ p3).data.toList).toArray⟩ : ByteArray) = oz := ⟨_, rfl⟩
    have HZ : Hid (bytesV (openL ((p1 ++ dd) ++ p3).data.toList) = .string oz) := congrArg Value.string hoz
    clear her hnz har harz ar hoz
    have HOP : Hid (∀ wx, Below w1.heap.size w1 wx → Calls Tryd.prog 25 #[.string ((p1 ++ dd) ++ p3)] wx fun e w' => e = .returned (.tuple #[.string oz, .int .i64 er]) ∧ Below w.heap.size w w') := fun wx hx =>
      (Open_any _ wx HARZ.out (HM.out.keep (ext_trans HB.out hx))).mono fun e w' ⟨he, hb⟩ => ⟨by rw [he, HERR.out, HZ.out], ext_trans (ext_trans HB.out hx) hb⟩
    have HX : Hid (Below w1.heap.size w1 (w1.alloc (.cells #[.int .u8 d.toNat] 5)).drew) := ((Below.refl w1.heap.size w1).alloc (Nat.le_refl _) _).drew
    go_wp2_with fail
    go_region_with (first | (go_at_call 25; refine (HOP.out _ HX.out).mono ?_; rintro e w2 ⟨rfl, hb2⟩) | (simp only [hcv]))
    have HB2 := Lib.hid hb2
    clear HB hb2 hcv z1 z2
    have HB := HB2
    clear HB2
    go_wp2_with fail
    clear z3 z4 hddz
  all_goals
    by_cases h2 : k + 1 < s.size
    rotate_left
    · have b4 : decide ((k : Int) + 1 < s.size) = false := by rw [decide_eq_false_iff_not]; omega
      go_quiet (fail)
      go_wp2_with fail
      refine (alive_any _ (HM.out.keep (below_drewN' HB.out _))).mono ?_
      rintro e w5 ⟨rfl, hb5⟩
      have HB5 := Lib.hid (ext_trans (below_drewN' HB.out _) hb5)
      clear hb5
      go_wp2_with fail
      go_ret
      exact ret_true HB5.out
    have b4 : decide ((k : Int) + 1 < s.size) = true := by rw [decide_eq_true_eq]; omega
    have k2 : (k : Int) + 1 < s.size := by omega
    obtain ⟨c1, hc1⟩ : ∃ c1, s[k + 1]'h2 = c1 := ⟨_, rfl⟩
    by_cases hc : (c0.toNat : Int) = c1.toNat
    · have y1 : ((c0.toNat : Int) != c1.toNat) = false := by rw [bne_eq_false_iff_eq]; exact hc
      have y2 : ((c0.toNat : Int) == c1.toNat) = true := by rw [beq_iff_eq]; exact hc
      clear hc
      go_quiet (fail)
      go_wp2_with fail
      refine (alive_any _ (HM.out.keep (below_drewN' HB.out _))).mono ?_
      rintro e w5 ⟨rfl, hb5⟩
      have HB5 := Lib.hid (ext_trans (below_drewN' HB.out _) hb5)
      clear hb5
      go_wp2_with fail
      go_ret
      exact ret_true HB5.out
    · have y1 : ((c0.toNat : Int) != c1.toNat) = true := by rw [bne_iff_ne]; exact hc
      have y2 : ((c0.toNat : Int) == c1.toNat) = false := by rw [beq_eq_false_iff_ne]; exact hc
      have hne2 : s[k]'hk ≠ s[k + 1]'h2 := fun h => hc (by rw [← hc0, ← hc1, h])
      clear hc
      obtain ⟨q2, hq2, hq2z⟩ : ∃ p : ByteArray, t.extract (k + 1) (k + 2) = p ∧ p.size = 1 := ⟨_, rfl, by simp; omega⟩
      obtain ⟨q3, hq3, hq3z⟩ : ∃ p : ByteArray, t.extract k (k + 1) = p ∧ p.size = 1 := ⟨_, rfl, by simp; omega⟩
      obtain ⟨q4, hq4, hq4z⟩ : ∃ p : ByteArray, t.extract (k + 2) (s.size + 3) = p ∧ p.size + k = s.size + 1 := ⟨_, rfl, by simp; omega⟩
      have HNE2 := Lib.hid (SL.out.two HI.out h2 hne2 hp1 hq2 hq3 hq4)
      clear hne2
      obtain ⟨er2, her2⟩ : ∃ er, openE (((p1 ++ q2) ++ q3) ++ q4).data.toList = er := ⟨_, rfl⟩
      rw [her2] at HNE2
      have hnz2 := HNE2.out
      have z5 : (er2 == 0) = false := by rw [beq_eq_false_iff_ne]; exact hnz2
      have z6 : (er2 != 0) = true := by rw [bne_iff_ne]; exact hnz2
      have HERR2 := Lib.hid her2
      have HARZ2 : Hid ((((p1 ++ q2) ++ q3) ++ q4).size ≤ maxLen) := by show _ ≤ _; simp only [ByteArray.size_append]; unfold maxLen; omega
      obtain ⟨oz2, hoz2⟩ : ∃ oz : ByteArray, (⟨(openL (((p1 ++ q2) ++ q3) ++ q4).data.toList).toArray⟩ : ByteArray) = oz := ⟨_, rfl⟩
      have HZ2 : Hid (bytesV (openL (((p1 ++ q2) ++ q3) ++ q4).data.toList) = .string oz2) := congrArg Value.string hoz2
      obtain ⟨n4, hn4⟩ : ∃ n4, q4.size = n4 := ⟨_, rfl⟩
      have s1 : k ≤ 9223372036854775806 := by omega
      have s2 : k ≤ 9223372036854775805 := by omega
      have s3 : k + 1 + 1 + n4 ≤ 9223372036854775807 := by omega
      clear her2 hnz2 hoz2 hq4z hp3z
      go_quiet (fail)
      go_wp2_with fail
      have HBQ : Hid (∀ m, Below w.heap.size w (w2.drewN m)) := fun m => below_drewN' HB.out _
      have HOP2 : Hid (∀ wx, Below w.heap.size w wx → Calls Tryd.prog 25 #[.string (((p1 ++ q2) ++ q3) ++ q4)] wx fun e w' => e = .returned (.tuple #[.string oz2, .int .i64 er2]) ∧ Below w.heap.size w w') := fun wx hx =>
        (Open_any _ wx HARZ2.out (HM.out.keep hx)).mono fun e w' ⟨he, hb⟩ => ⟨by rw [he, HERR2.out, HZ2.out], ext_trans hx hb⟩
      focus
        go_region_with (go_at_call 25; refine (HOP2.out _ (by first | exact HBQ.out _ | exact (HBQ.out _).drew)).mono ?_; rintro e w4 ⟨rfl, hb4⟩)
      all_goals
        have HB4 := Lib.hid hb4
        clear hb4
        go_wp2_with fail
        refine (alive_any _ (HM.out.keep HB4.out)).mono ?_
        rintro e w5 ⟨rfl, hb5⟩
        have HB5 := Lib.hid (ext_trans HB4.out hb5)
        clear hb5
        go_wp2_with fail
        go_ret
        exact ret_true HB5.out
end Go.Proofs.YtgfefnfnpplhlaaDoor
