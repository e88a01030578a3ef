/- The law CertifyLong. -/
import Derived.Test.YtehbnckdllbmgaaGreatDoorCerLP
import Derived.Test.YtehbnckdllbmgaaGreatDoorCerW
set_option linter.unusedSimpArgs false
set_option linter.unusedVariables false
namespace Go.Proofs.YtehbnckdllbmgaaGreatDoor
open Go.RowKit

theorem zeroT_app : ∀ k, zeroT k ++ [58, 32, 48, 10] = [58, 32, 48, 10] ++ zeroT k
  | 0 => by simp [zeroT, textT]
  | k + 1 => by rw [zeroT_succ, List.append_assoc, zeroT_app k]
theorem zeroT_snoc (k : Nat) : zeroT (k + 1) = zeroT k ++ [58, 32, 48, 10] := by rw [zeroT_succ, zeroT_app]

set_option maxHeartbeats 4000000 in
set_option maxRecDepth 100000 in
theorem Long_any (n : Nat) (w : World) (hn : n < 256) (hV : VarsC w) : Calls Tryz.prog 13 #[.int .u8 (n : Int)] w (Ret w (.bool true)) := by
  have HV := Lib.hid hV
  have HA : Hid (∀ W, Below w.heap.size w W → Calls Tryz.prog 14 #[] W (Ret W (.bool true))) := Lib.hid fun W hW => awake_any W (HV.out.keep hW)
  clear hV
  obtain ⟨i0, hi, hz0, hz1, hz2⟩ := info_parts byte_info
  have HI := Lib.hid hi; have HZ0 := Lib.hid hz0; have HZ1 := Lib.hid hz1; have HZ2 := Lib.hid hz2
  clear hi hz0 hz1 hz2
  obtain ⟨r, hr⟩ : ∃ r, r = n % 8 := ⟨_, rfl⟩
  have hr8 : r < 8 := by omega
  have hri : (n : Int) % 8 = (r : Int) := by omega
  have hrt : Int.tmod (n : Int) 8 = (r : Int) := by rw [Int.tmod_eq_emod_of_nonneg (Int.natCast_nonneg n)]; exact hri
  have ek : (19996 : Int) + (r : Int) = ((19996 + r : Nat) : Int) := by omega
  have ew : IntKind.i64.wrap (((19996 + r : Nat) : Int)) = ((19996 + r : Nat) : Int) := IntWalk.i64_in _ (by omega)
  go_enter Tryz.func13, Tryz.ntmps13
  clear hr hri
  generalize hk : 19996 + r = k at *
  have hk1 : 19996 ≤ k := by omega
  have hk2 : k ≤ 20003 := by omega
  have HK := Lib.hid hk
  clear hk
  go_wp2_with fail
  go_loopw [4, 5] (fun v i wr => ∃ j : Nat, j ≤ k ∧ i = .int .i64 j ∧ Hid (Below w.heap.size w wr) ∧ Hid (wr.ownsRow w.heap.size 5 1 v (4 * j) (Lib.byteCells (zeroT j)))) (fun _ i _ => k - (intOf i).toNat)
  case atStart => exact ⟨0, Nat.zero_le _, rfl, Below.refl _ _, World.ownsRow_nil _ _ _ _⟩
  case round =>
    obtain ⟨j, hj, rfl, hb, hown⟩ := hrel
    by_cases hlt : j < k
    · have hsb := hb.out.size
      go_wp2_with (at_builtin; refine Lib.wpList_append_own_string _ rfl _ _ 57 9 rfl w.heap.size 5 i0 Tryz.underlying57 Tryz.underlying9 HI.out HZ0.out HZ1.out HZ2.out _ _ _ rfl hown.out ⟨#[58, 32, 48, 10]⟩ rfl ?c3 ?c4 ?c5 ?_)
      case c3 => have : (⟨#[58, 32, 48, 10]⟩ : ByteArray).size = 4 := rfl; unfold maxLen; omega
      case c4 => have : (⟨#[58, 32, 48, 10]⟩ : ByteArray).size = 4 := rfl; omega
      case c5 => exact hsb
      intro v' w2 hown' hgrow _
      have hbb : Below w.heap.size w w2 := hb.out.grown hgrow hsb (fun k hk => (hown.out.lt k hk).1)
      have e5 : Lib.byteCells (zeroT j) ++ Lib.strCells ⟨#[58, 32, 48, 10]⟩ = Lib.byteCells (zeroT (j + 1)) := by rw [zeroT_snoc, byte_app]; rfl
      rw [show 4 * j + 4 = 4 * (j + 1) by omega, e5] at hown'
      have HO := Lib.hid hown'; have HBB := Lib.hid hbb
      clear hown' hgrow hbb e5
      go_wp2_with fail
      go_roundw
      case rel => exact ⟨j + 1, by omega, by go_num, HBB, HO⟩
      case measure => simp [intOf]; omega
    · obtain rfl : j = k := by omega
      have hzl := zeroT_len j
      obtain ⟨ga, cap, rfl, c1, c2, c3⟩ := Sl_of_owns hown.out
      obtain ⟨b, off, rfl, _⟩ := c3 0 (by omega)
      have hcv := run_convert_bytes_back (P := Tryz.prog) wr 57 9 5 ⟨b, off, none⟩ cap (zeroT j) Tryz.underlying57 Tryz.underlying5 Tryz.underlying9 (fun i hi => by
        obtain ⟨b', off', e, hc⟩ := c3 i (by omega)
        simp only [Option.some.injEq, Addr.mk.injEq, and_true] at e
        obtain ⟨rfl, rfl⟩ := e
        rw [Lib.add_plain]
        rw [hc]
        simp [Lib.byteCells, hi])
      rw [hzl] at hcv
      change Sem.run _ (convert _ _ (.slice _ (4 * j) cap)) _ = .ok (.string (bs (zeroT j))) _ at hcv
      have HZL := Lib.hid hzl
      have HP := Lib.hid (parseT_zero j)
      have HV2 := Lib.hid (HV.out.keep hb.out)
      clear c3 hown hzl
      go_wp2_with (simp only [hcv])
      refine (Parse_any (bs (zeroT j)) wr (by rw [bs_size, HZL.out]; omega) HV2.out).mono ?_
      rintro e w4 ⟨vp, rfl, hp, hb4⟩
      rw [bs_list] at hp ⊢
      have HB4 := Lib.hid (ext_trans hb.out hb4)
      clear hb4 hcv
      by_cases hbig : 20000 < j
      · have hd : decide ((20000 : Int) < j) = true := by rw [decide_eq_true_eq]; omega
        rw [HP.out.2 hbig] at hp ⊢
        obtain ⟨xa, xc, rfl, _⟩ := hp
        go_wp2_with fail
        refine (HA.out _ HB4.out).mono ?_
        rintro e w5 ⟨rfl, hb5⟩
        have HB5 := Lib.hid (ext_trans HB4.out hb5)
        clear hb5
        go_wp2_with fail
        go_ret
        exact ⟨rfl, HB5.out⟩
      · have hd : decide ((20000 : Int) < j) = false := by rw [decide_eq_false_iff_not]; omega
        rw [HP.out.1 (by omega)] at hp ⊢
        obtain ⟨xa, xc, rfl, _⟩ := hp
        rw [List.length_replicate]
        go_wp2_with fail
        refine (HA.out _ HB4.out).mono ?_
        rintro e w5 ⟨rfl, hb5⟩
        have HB5 := Lib.hid (ext_trans HB4.out hb5)
        clear hb5
        go_wp2_with fail
        go_ret
        exact ⟨rfl, HB5.out⟩
end Go.Proofs.YtehbnckdllbmgaaGreatDoor
