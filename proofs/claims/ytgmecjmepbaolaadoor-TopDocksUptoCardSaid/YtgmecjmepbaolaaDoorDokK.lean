/- Contracts: Check of bay's reference. -/
import Derived.Test.YtgmecjmepbaolaaDoorDokJ
set_option linter.unusedSimpArgs false
set_option linter.unusedVariables false
namespace Go.Proofs.YtgmecjmepbaolaaDoor
open Go.RowKit

theorem planE_bays' {bays : List DBay} {l : List Ber} (h : ¬ (8 < bays.length ∨ 128 < l.length)) (hb : baysE bays ≠ 0) : planE bays l = baysE bays := by unfold planE; rw [if_neg h, if_neg hb]
set_option maxRecDepth 100000 in
set_option maxHeartbeats 1000000 in
theorem rCheck_any (bv lv : Value) (bays : List DBay) (l : List Ber) (w : World) (hb : SD w bv bays) (hl : SY w lv l) (hsd : StrD bays maxLen) (hsb : StrB l 1100000) :
    Calls Tryd.prog 10 #[bv, lv] w (Ret w (.int .i64 (planE bays l))) := by
  have HB := Lib.hid hb; have HL := Lib.hid hl; have HSD := Lib.hid hsd; have HSB := Lib.hid hsb
  obtain ⟨ba, bc, rfl, b1, b2, b3⟩ := hb
  obtain ⟨la, lc, rfl, l1, l2, l3⟩ := hl
  have L3 := Lib.hid l3
  clear hsd hsb b3 l3
  unfold maxLen at b2 l2
  by_cases hlong : 8 < bays.length ∨ 128 < l.length
  · have HV := Lib.hid (planE_long hlong)
    rcases hlong with hlong | hlong
    · go_enter Tryd.func10, Tryd.ntmps10
      go_wp2_with fail
      go_ret
      exact ⟨ret_int HV.out.symm, Below.refl _ _⟩
    · by_cases h8 : 8 < bays.length
      all_goals
        go_enter Tryd.func10, Tryd.ntmps10
        go_wp2_with fail
        go_ret
        exact ⟨ret_int HV.out.symm, Below.refl _ _⟩
  have HLG := Lib.hid hlong
  have g1 : bays.length ≤ 8 := by omega
  have g2 : l.length ≤ 128 := by omega
  clear hlong
  go_enter Tryd.func10, Tryd.ntmps10
  go_wp2_with fail
  refine (floors_any _ bays _ HB.out HSD.out).mono ?_
  rintro e w1 ⟨rfl, h1⟩
  have HB1 := Lib.hid h1; clear h1
  obtain ⟨be, hbe⟩ : ∃ be, baysE bays = be := ⟨_, rfl⟩
  rw [hbe]
  by_cases hb0 : be = 0
  rotate_left
  · have HV := Lib.hid (planE_bays' HLG.out (by rw [hbe]; exact hb0))
    have HBE := Lib.hid hbe; clear hbe
    go_wp2_with fail
    go_ret
    exact ⟨ret_int (by rw [HV.out, HBE.out]), HB1.out⟩
  subst hb0
  have HF : Hid (firstE (bayE bays) bays.length = 0) := hbe
  have HSS := Lib.hid (sides_of HF.out)
  clear hbe
  go_wp2_with fail
  go_loopw [6] (fun i wr => ∃ k : Nat, k ≤ l.length ∧ i = .int .i64 k ∧ Hid (Below w.heap.size w wr) ∧ Hid (firstE (fun i => stayE bays (l.take i) (bri l i)) k = 0)) (fun i _ => l.length - (intOf i).toNat)
  case atStart => exact ⟨0, Nat.zero_le _, rfl, HB1, Lib.hid rfl⟩
  case round =>
    obtain ⟨k, hk2, rfl, hbl2, hf2⟩ := hrel
    by_cases hlt2 : k < l.length
    · obtain ⟨b, off, rfl, hc⟩ := L3.out k hlt2
      have HC := Lib.hid (hc.keep hbl2.out); clear hc
      go_upto_region 9 with fail
      refine wp_region_ev dkT dkT_ok [berO b (off + k * 8) (bri l k)] (Below wr.heap.size wr) [] [(30, .nat k), (33, .ix k 0), (35, .ret (.int .i64 (stayE bays (l.take k) (bri l k))))] [(7, .int .i64 (stayE bays (l.take k) (bri l k)))] (by kernel_rfl) mixed (by kernel_rfl) ((Below.refl _ _).drew) (obs1 fun v hv => rangeKeep (yAt_range HC.out) hv) trivial ?_
      conv => whnf
      refine And.intro (under_of ⟨rfl, by omega⟩) ?_
      conv => whnf
      refine And.intro (under_of ⟨rfl, hlt2, rfl, rfl⟩) ?_
      conv => whnf
      refine And.intro (Nat.le_refl 8) ?_
      conv => whnf
      refine And.intro (under_of fun v hv => (rstay_any _ _ bays (l.take k) (bri l k) v (HB.out.keep (ext_trans hbl2.out hv)) ((HL.out.keep (ext_trans hbl2.out hv)).take k (by omega)) (HSB.out.h _ (bri_mem hlt2)) HSS.out (small_of HSS.out hf2.out (by omega))).mono fun e v' he => ⟨he.1, ext_trans hv he.2⟩) ?_
      conv => whnf
      intro f1
      conv => whnf
      refine And.intro rfl ?_
      conv => whnf
      intro w3 h3
      have HB3 := Lib.hid (ext_trans hbl2.out h3)
      clear h3
      obtain ⟨er, her⟩ : ∃ er, stayE bays (l.take k) (bri l k) = er := ⟨_, rfl⟩
      rw [her]
      by_cases he0 : er = 0
      · have HF := Lib.hid ((firstE_zero hf2.out).trans (her.trans he0))
        subst he0
        clear her
        go_wp2_with fail
        go_roundw
        case rel => exact ⟨k + 1, by omega, by go_num, HB3, HF⟩
        case measure => simp [intOf]; omega
      · have HV := Lib.hid (planE_stays HLG.out HF.out hf2.out hlt2 (by rw [her]; exact he0))
        have HER := Lib.hid her; clear her
        go_wp2_with fail
        go_ret
        exact ⟨ret_int (by rw [HV.out, HER.out]), HB3.out⟩
    · obtain rfl : k = l.length := by omega
      have HV := Lib.hid (planE_ok HLG.out HF.out hf2.out)
      go_wp2_with fail
      go_ret
      exact ⟨ret_int HV.out.symm, hbl2.out⟩
end Go.Proofs.YtgmecjmepbaolaaDoor
