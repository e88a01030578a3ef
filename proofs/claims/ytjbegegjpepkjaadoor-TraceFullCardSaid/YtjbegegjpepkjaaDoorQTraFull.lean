/- The law TraceFull. -/
import Derived.Test.YtjbegegjpepkjaaDoorQTraNobody
namespace Go.Proofs.YtjbegegjpepkjaaDoor
open Go.RowKit Go.Maps

theorem frmF_next (k : Nat) : frmF (k + 1) = if k < 4 then idF k else frmF k := by
  unfold frmF
  rw [if_neg (by omega)]
  by_cases h : k < 4
  · rw [if_pos h, show min (k + 1 - 1) 3 = k by omega]
  · rw [if_neg h, if_neg (by omega), show min (k + 1 - 1) 3 = min (k - 1) 3 by omega]
theorem idF_len (k : Nat) : (idF k).length = 5 := rfl
theorem frmF_len (k : Nat) : (frmF k).length ≤ 5 := by unfold frmF; split <;> simp [idF_len]
set_option maxHeartbeats 4000000 in
set_option maxRecDepth 100000 in
theorem Full_any (n : Int) (w : World) (hV : Vars w) (hwf : -9223372036854775808 ≤ n ∧ n ≤ 9223372036854775807) : Calls Tryd.prog 4 #[.int .i64 n] w (Ret w (.bool true)) := by
  have HV := Lib.hid hV
  clear hV
  by_cases h1 : n < 4090
  · have b1 : decide (n < 4090) = true := by rw [decide_eq_true_eq]; exact h1
    go_enter Tryd.func4, Tryd.ntmps4
    go_wp2_with fail
    refine (alive30_any _ HV.out).mono ?_
    rintro e w1 ⟨rfl, hb1⟩
    have HB1 := Lib.hid hb1
    clear hb1
    go_wp2_with fail
    go_ret
    exact ⟨rfl, HB1.out⟩
  have b1 : decide (n < 4090) = false := by rw [decide_eq_false_iff_not]; exact h1
  by_cases h2 : 4100 < n
  · have b2 : decide (4100 < n) = true := by rw [decide_eq_true_eq]; exact h2
    go_enter Tryd.func4, Tryd.ntmps4
    go_wp2_with fail
    refine (alive30_any _ HV.out).mono ?_
    rintro e w1 ⟨rfl, hb1⟩
    have HB1 := Lib.hid hb1
    clear hb1
    go_wp2_with fail
    go_ret
    exact ⟨rfl, HB1.out⟩
  have b2 : decide (4100 < n) = false := by rw [decide_eq_false_iff_not]; exact h2
  obtain ⟨m, rfl⟩ : ∃ m : Nat, n = m := ⟨n.toNat, by omega⟩
  have hm1 : 4090 ≤ m := by omega
  have hm2 : m ≤ 4100 := by omega
  clear h1 h2 hwf
  go_enter Tryd.func4, Tryd.ntmps4
  go_wp2_with fail
  refine (New_any _).mono ?_
  rintro e w1 ⟨rb, rfl, ⟨bm, vr, D, hreg⟩, hb⟩
  have HB1 := Lib.hid hb
  have HR1 : Hid (RegS (RB rb bm vr) w.heap.size rb (linksF 0) w1) := ⟨bm, vr, D, hreg, rfl⟩
  clear hreg hb
  go_wp2_with fail
  go_loopw [4, 5] (fun f i wr => ∃ (k : Nat) (S : Nat → Prop), k ≤ m ∧ i = .int .i64 k ∧ f = .string (bs (frmF k)) ∧ Hid (RegS S w.heap.size rb (linksF k) wr) ∧ Hid (Below w.heap.size w wr)) (fun _ i _ => m - (intOf i).toNat)
  case atStart => exact ⟨0, _, Nat.zero_le _, rfl, rfl, HR1.out, HB1.out⟩
  case round =>
    obtain ⟨k, S, hk, rfl, rfl, hr, hbw⟩ := hrel
    by_cases hlt : k < m
    · obtain ⟨p1, hp1⟩ : ∃ p, 97 + k / 512 = p := ⟨_, rfl⟩
      obtain ⟨p2, hp2⟩ : ∃ p, 97 + k / 32 % 16 = p := ⟨_, rfl⟩
      obtain ⟨p3, hp3⟩ : ∃ p, 97 + k / 2 % 16 = p := ⟨_, rfl⟩
      obtain ⟨p4, hp4⟩ : ∃ p, 97 + k % 2 = p := ⟨_, rfl⟩
      have f1 : (97 : Int) + (k : Int) / 512 = p1 := by omega
      have f2 : (97 : Int) + (k : Int) / 32 % 16 = p2 := by omega
      have f3 : (97 : Int) + (k : Int) / 2 % 16 = p3 := by omega
      have f4 : (97 : Int) + (k : Int) % 2 = p4 := by omega
      have q1 : p1 < 256 := by omega
      have q2 : p2 < 256 := by omega
      have q3 : p3 < 256 := by omega
      have q4 : p4 < 256 := by omega
      have HID : Hid ((⟨[97, UInt8.ofNat p1, UInt8.ofNat p2, UInt8.ofNat p3, UInt8.ofNat p4].toArray⟩ : ByteArray) = bs (idF k)) := by
        show _ = _
        unfold bs idF chF; rw [hp1, hp2, hp3, hp4]
      have hcv := run_convert_bytes_back (P := Tryd.prog) (wr.alloc (.cells #[.int .u8 97, .int .u8 p1, .int .u8 p2, .int .u8 p3, .int .u8 p4] 5)) 42 9 5 ⟨wr.heap.size, 0, none⟩ 5 [97, UInt8.ofNat p1, UInt8.ofNat p2, UInt8.ofNat p3, UInt8.ofNat p4] Tryd.underlying42 Tryd.underlying5 Tryd.underlying9 (by
        intro j hj
        have e1 : (UInt8.ofNat p1).toNat = p1 := by rw [UInt8.toNat_ofNat']; omega
        have e2 : (UInt8.ofNat p2).toNat = p2 := by rw [UInt8.toNat_ofNat']; omega
        have e3 : (UInt8.ofNat p3).toNat = p3 := by rw [UInt8.toNat_ofNat']; omega
        have e4 : (UInt8.ofNat p4).toNat = p4 := by rw [UInt8.toNat_ofNat']; omega
        match j, hj with
        | 0, _ => simp [Addr.add]
        | 1, _ => simp [Addr.add, e1]
        | 2, _ => simp [Addr.add, e2]
        | 3, _ => simp [Addr.add, e3]
        | 4, _ => simp [Addr.add, e4])
      change Sem.run _ (convert _ _ (.slice _ 5 _)) _ = _ at hcv
      rw [HID.out] at hcv
      have HBX : Hid (Below w.heap.size w (wr.alloc (.cells #[.int .u8 97, .int .u8 p1, .int .u8 p2, .int .u8 p3, .int .u8 p4] 5))) := hbw.out.alloc hbw.out.size _
      have hrx := hr.out.keep ((Below.refl _ wr).alloc (Nat.le_refl _) (.cells #[.int .u8 97, .int .u8 p1, .int .u8 p2, .int .u8 p3, .int .u8 p4] 5))
      have hadd := Add_any S w.heap.size rb (linksF k) (bs (idF k)) (bs (frmF k)) ⟨#[72]⟩ k _ hrx (HV.out.keep HBX.out) (by rw [bs_size, idF_len]; unfold maxLen; omega) (by rw [bs_size]; have := frmF_len k; unfold maxLen; omega) (by show 1 ≤ maxLen; unfold maxLen; omega)
      rw [bs_list, bs_list, show (⟨#[72]⟩ : ByteArray).data.toList = [72] from rfl] at hadd
      have HADD := Lib.hid hadd
      have HRX := Lib.hid hrx
      have HE : Hid (addE (linksF k) (idF k) (frmF k) [72] k = if k < 4096 then 0 else 12) := (linksF_ok k (by omega)).err (by omega)
      have HNX : Hid (bs (frmF (k + 1)) = if k < 4 then bs (idF k) else bs (frmF k)) := by show _ = _; rw [frmF_next]; split <;> rfl
      obtain ⟨c, hcc⟩ : ∃ c, addE (linksF k) (idF k) (frmF k) [72] k = c := ⟨_, rfl⟩
      obtain ⟨hh, hhh⟩ : ∃ hh, addH (linksF k) (idF k) (frmF k) [72] k = hh := ⟨_, rfl⟩
      have HCC := Lib.hid hcc
      have HHH := Lib.hid hhh
      generalize hid_ : bs (idF k) = id_ at *
      generalize hfr_ : bs (frmF k) = fr_ at *
      clear hp1 hp2 hp3 hp4 hadd hrx hcc hhh hid_ hfr_
      go_wp2_with (simp only [hcv])
      refine HADD.out.mono ?_
      rintro e w2 ⟨S2, rfl, hr2, hS2, ho2⟩
      rw [HCC.out, HHH.out]
      have hB2 := ho2.base (fun k hk => (HRX.out.lt k hk).1) HBX.out.size
      have HB2 : Hid (Below w.heap.size w w2) := HBX.out.trans hB2
      have HR2 : Hid (RegS S2 w.heap.size rb (linksF (k + 1)) w2) := hr2
      clear hr2 hS2 ho2 hB2 HADD HRX hcv f1 f2 f3 f4
      have hck : (k < 4096 ∧ c = 0) ∨ (4096 ≤ k ∧ c = 12 ∧ hh = 0) := by
        rw [← HCC.out, HE.out]
        by_cases h : k < 4096
        · left; exact ⟨h, if_pos h⟩
        · right
          refine ⟨by omega, if_neg h, ?_⟩
          rw [← HHH.out]; unfold addH; rw [HE.out, if_neg h, if_neg (by decide)]
      by_cases h4 : k < 4
      · rw [if_pos h4] at HNX
        rcases hck with ⟨g1, rfl⟩ | ⟨g1, _, _⟩
        rotate_left
        · omega
        have b3 : decide ((k : Int) < 4096) = true := by rw [decide_eq_true_eq]; omega
        have b4 : decide ((4096 : Int) ≤ k) = false := by rw [decide_eq_false_iff_not]; omega
        have b5 : decide ((k : Int) < 4) = true := by rw [decide_eq_true_eq]; omega
        go_wp2_with fail
        go_roundw
        case rel => exact ⟨k + 1, S2, by omega, by go_num, by rw [HNX.out], HR2.out, HB2.out⟩
        case measure => simp [intOf]; omega
      · rw [if_neg h4] at HNX
        have b5 : decide ((k : Int) < 4) = false := by rw [decide_eq_false_iff_not]; omega
        rcases hck with ⟨g1, rfl⟩ | ⟨g1, rfl, rfl⟩
        · have b3 : decide ((k : Int) < 4096) = true := by rw [decide_eq_true_eq]; omega
          have b4 : decide ((4096 : Int) ≤ k) = false := by rw [decide_eq_false_iff_not]; omega
          go_wp2_with fail
          go_roundw
          case rel => exact ⟨k + 1, S2, by omega, by go_num, by rw [HNX.out], HR2.out, HB2.out⟩
          case measure => simp [intOf]; omega
        · have b3 : decide ((k : Int) < 4096) = false := by rw [decide_eq_false_iff_not]; omega
          have b4 : decide ((4096 : Int) ≤ k) = true := by rw [decide_eq_true_eq]; omega
          go_wp2_with fail
          go_roundw
          case rel => exact ⟨k + 1, S2, by omega, by go_num, by rw [HNX.out], HR2.out, HB2.out⟩
          case measure => simp [intOf]; omega
    · obtain rfl : k = m := by omega
      have hlen := (linksF_ok k (by omega)).len
      have HLK := Lib.hid (Links_any w.heap.size rb (linksF k) wr hr.out.reg)
      have HLEN := Lib.hid hlen
      clear hlen
      go_wp2_with fail
      refine HLK.out.mono ?_
      rintro e w2 ⟨v2, rfl, ho, hb⟩
      obtain ⟨lb, lc, e2⟩ : ∃ b c, v2 = .slice b (min k 4096) c := by obtain ⟨a, c, e, _⟩ := ho.sk; rw [HLEN.out] at e; exact ⟨_, _, e⟩
      subst e2
      have HB2 := Lib.hid (hbw.out.trans (hb.mono hbw.out.size))
      clear ho hb HLK
      by_cases h3 : k ≤ 4096
      · have e1 : min k 4096 = k := by omega
        have e3 : min (k : Int) 4096 = k := by omega
        rw [e1]
        go_wp2_with fail
        refine (alive30_any _ (HV.out.keep HB2.out)).mono ?_
        rintro e w3 ⟨rfl, hb1⟩
        have HB3 := Lib.hid (ext_trans HB2.out hb1)
        clear hb1
        go_wp2_with fail
        go_ret
        exact ⟨rfl, HB3.out⟩
      · have e1 : min k 4096 = 4096 := by omega
        have e3 : min (k : Int) 4096 = 4096 := by omega
        rw [e1]
        go_wp2_with fail
        refine (alive30_any _ (HV.out.keep HB2.out)).mono ?_
        rintro e w3 ⟨rfl, hb1⟩
        have HB3 := Lib.hid (ext_trans HB2.out hb1)
        clear hb1
        go_wp2_with fail
        go_ret
        exact ⟨rfl, HB3.out⟩
theorem wf64 {n : Int} (h : (Lit.int .i64 n).wf = true) : -9223372036854775808 ≤ n ∧ n ≤ 9223372036854775807 := by
  simp [Lit.wf, IntKind.min, IntKind.max, IntKind.signed, IntKind.bits] at h
  omega
end Go.Proofs.YtjbegegjpepkjaaDoor
