/- Contract: slices.SortStableFunc of trips. -/
import Derived.Test.YtpbmmdoodmbneaaGreatDoorTsE
import Derived.Test.YtpbmmdoodmbneaaGreatDoorStabSpec
namespace Go.Proofs.YtpbmmdoodmbneaaGreatDoor
open Go.RowKit

theorem symY_all (TT : Int → Trp) (fv : Value) (D : Int → Prop) (c : Int → Int → Int) (hO : SWO D (ltOf c)) (B g n cap : Nat) (hl : n ≤ 100000) : ∀ d, SymOKY TT fv D c B g n cap d := by
  intro d
  induction d with
  | zero =>
    intro w xs a m b a' m' b' ha hm hb hd ho hf hD h1 h2 h3 s1 s2
    omega
  | succ d ih =>
    intro w xs a m b a' m' b' ha hm hb hd ho hf hD h1 h2 h3 s1 s2
    subst ha hm hb
    have hn := ho.form_n
    by_cases e1 : m' = a' + 1
    · subst e1
      exact symY_one TT fv D c w B g n cap xs a' (a' + 1) b' rfl ho hf hO hD h2 h3 (by omega) s2
    · by_cases e2 : b' = m' + 1
      · subst e2
        exact symY_two TT fv D c w B g n cap xs a' m' (m' + 1) rfl ho hf hO hD (by omega) h3 (by omega) s1
      · exact symY_step TT fv D c hO w B g n cap d ih xs a' m' b' hd ho hf hD (by omega) (by omega) h3 (by omega) s1 s2

set_option maxHeartbeats 2000000 in
theorem stabYN_any (TT : Int → Trp) (fv : Value) (D : Int → Prop) (c : Int → Int → Int) (w : World) (B g n cap : Nat) (xs : List Int) (ho : OwnY TT w B (.slice (some ⟨g, 0, none⟩) n cap) xs)
    (hf : FnCmpY TT fv w g D c) (hO : SWO D (ltOf c)) (hD : ∀ x ∈ xs, D x) (hl : xs.length ≤ 100000) :
    Calls Tryz.prog 45 #[.slice (some ⟨g, 0, none⟩) n cap, .int .i64 n, fv] w (PostSY TT w B g n cap (ltOf c) xs 0 xs.length) := by
  have hnx := ho.form_n.1
  have HS := Lib.hid (symY_all TT fv D c hO B g n cap (by omega))
  have HFN := Lib.hid hf
  subst hnx
  obtain ⟨F, caps, rfl, hcf, hf⟩ := hf
  have HOO := Lib.hid hO
  have HD := Lib.hid hD
  have HO := Lib.hid ho
  clear hf hO hD ho
  go_enter Tryz.func45, Tryz.ntmps45
  go_wp2_with fail
  go_loopw [7, 8] (fun x y wr => ∃ T a b : Nat, Hid (a = T * 20) ∧ a ≤ xs.length ∧ a + 20 ≤ b ∧ b ≤ a + 20 ∧ x = .int .i64 a ∧ y = .int .i64 b ∧ Hid (w.grownBy wr (some g)) ∧ Hid (∃ ys, OwnY TT wr B (.slice (some ⟨g, 0, none⟩) xs.length cap) ys ∧ Rearr (ltOf c) xs ys ∧ Ins1 (ltOf c) ys T)) (fun x _ _ => xs.length - (intOf x).toNat)
  case atStart => exact ⟨0, 0, 20, rfl, Nat.zero_le _, Nat.le_refl _, Nat.le_refl _, rfl, rfl, World.grownBy.refl _ _, xs, HO.out, .refl _, fun t ht => by omega⟩
  case round =>
    obtain ⟨T, a, b, hT, ha, hb1, hb2, rfl, rfl, hg, hys⟩ := hrel
    obtain ⟨ys, ho1, hr1, hi1⟩ := hys.out
    have HO1 := Lib.hid ho1
    have HR1 := Lib.hid hr1
    have HI1 := Lib.hid hi1
    clear hys ho1 hr1 hi1
    by_cases hlt : b ≤ xs.length
    · go_wp2_with fail
      refine (insY_any TT _ D c wr B g xs.length cap ys a b HO1.out (HFN.out.later hg.out) HOO.out (fun x hx => HD.out x (HR1.out.perm.mem_iff.1 hx)) (by omega) (by have := HR1.out.length; omega) (by have := HR1.out.length; omega)).mono ?_
      rintro e w1 ⟨rfl, hg1, zs, ho2, hr2, hs2, hso2⟩
      have HG1 := Lib.hid (grownBy_trans hg.out hg1)
      have HO2 := Lib.hid ho2
      have HR2 := Lib.hid (HR1.out.trans hr2)
      have HI2 : Hid (Ins1 (ltOf c) zs (T + 1)) := by
        have hTT := hT.out
        have hb : b = T * 20 + 20 := by omega
        subst hTT
        rw [hb] at hs2 hso2
        exact ins1_next HI1.out hs2 hso2
      clear hg1 ho2 hr2 hs2 hso2
      go_wp2_with fail
      go_roundw
      case rel => exact ⟨T + 1, b, b + 20, by have := hT.out; show _ = _; omega, hlt, Nat.le_refl _, Nat.le_refl _, rfl, by go_num, HG1, zs, HO2.out, HR2.out, HI2.out⟩
      case measure => simp [intOf]; omega
    · go_wp2_with fail
      refine (insY_any TT _ D c wr B g xs.length cap ys a xs.length HO1.out (HFN.out.later hg.out) HOO.out (fun x hx => HD.out x (HR1.out.perm.mem_iff.1 hx)) ha (by have := HR1.out.length; omega) (by have := HR1.out.length; omega)).mono ?_
      rintro e w1 ⟨rfl, hg1, zs, ho2, hr2, hs2, hso2⟩
      have HG1 := Lib.hid (grownBy_trans hg.out hg1)
      have HO2 := Lib.hid ho2
      have HR2 := Lib.hid (HR1.out.trans hr2)
      have HB2 : Hid (Blk (ltOf c) zs 20 xs.length) := by
        have hTT := hT.out
        subst hTT
        exact ins1_end HI1.out (by omega) (by omega) hs2 hso2
      clear hg1 ho2 hr2 hs2 hso2 hT HI1 HO1 HR1 hg hb1 hb2 ha hlt
      go_wp2_with fail
      go_loopw [6] (fun x w2 => ∃ s : Nat, 20 ≤ s ∧ s ≤ 300000 ∧ x = .int .i64 s ∧ Hid (w.grownBy w2 (some g)) ∧ Hid (∃ ys, OwnY TT w2 B (.slice (some ⟨g, 0, none⟩) xs.length cap) ys ∧ Rearr (ltOf c) xs ys ∧ Blk (ltOf c) ys s xs.length)) (fun x _ => xs.length - (intOf x).toNat)
      case atStart => exact ⟨20, Nat.le_refl _, by omega, rfl, HG1, zs, HO2.out, HR2.out, HB2.out⟩
      case round =>
        clear HO2 HR2 HB2 HG1
        obtain ⟨wo, rfl⟩ : ∃ wo : World, wo = wr := ⟨_, rfl⟩
        obtain ⟨s, hs1, hs2, rfl, hg, hys⟩ := hrel
        by_cases hlt : s < xs.length
        · go_wp2_with fail
          go_loopw [7, 8] (fun x y w3 => ∃ T a b : Nat, Hid (a = T * (s + s)) ∧ a ≤ xs.length ∧ a + (s + s) ≤ b ∧ b ≤ a + (s + s) ∧ x = .int .i64 a ∧ y = .int .i64 b ∧ Hid (w.grownBy w3 (some g)) ∧ Hid (∃ ys, OwnY TT w3 B (.slice (some ⟨g, 0, none⟩) xs.length cap) ys ∧ Rearr (ltOf c) xs ys ∧ Mix (ltOf c) ys s T xs.length)) (fun x _ _ => xs.length - (intOf x).toNat)
          case atStart =>
            obtain ⟨ys, ho1, hr1, hi1⟩ := hys.out
            exact ⟨0, 0, s + s, by show _ = _; omega, Nat.zero_le _, by omega, by omega, rfl, by congr 1; omega, hg, ys, ho1, hr1, mix_start hi1⟩
          case round =>
            clear hys hg
            obtain ⟨T, a, b, hT, ha, hb1, hb2, rfl, rfl, hg, hys⟩ := hrel
            obtain ⟨ys, ho1, hr1, hi1⟩ := hys.out
            have HO1 := Lib.hid ho1
            have HR1 := Lib.hid hr1
            have HI1 := Lib.hid hi1
            clear hys ho1 hr1 hi1
            by_cases hlt2 : b ≤ xs.length
            · have HRU := Lib.hid (mix_runs HI1.out hT.out (by omega))
              go_wp2_with fail
              refine (HS.out (s + s) _ ys _ _ _ a (a + s) (a + (s + s)) rfl (by omega) (by omega) (by omega) HO1.out (HFN.out.later hg.out) (fun x hx => HD.out x (HR1.out.perm.mem_iff.1 hx)) (by omega) (by omega) (by have := HR1.out.length; omega) HRU.out.1 (by have := HRU.out.2; rw [show min (a + s + s) xs.length = a + (s + s) by omega] at this; exact this)).mono ?_
              rintro e w1 ⟨rfl, hg1, zs, ho2, hm2⟩
              have HG1 := Lib.hid (grownBy_trans hg.out hg1)
              have HO2 := Lib.hid ho2
              have HR2 := Lib.hid (HR1.out.trans hm2.re)
              have HI2 := Lib.hid (mix_next HI1.out hT.out (by omega) hm2)
              clear hg1 ho2 hm2
              go_wp2_with fail
              go_roundw
              case rel => exact ⟨T + 1, b, b + (s + s), by have := hT.out; show _ = _; rw [Nat.succ_mul]; omega, hlt2, Nat.le_refl _, Nat.le_refl _, rfl, by congr 1; omega, HG1, zs, HO2.out, HR2.out, HI2.out⟩
              case measure => simp [intOf]; omega
            · by_cases hlt3 : a + s < xs.length
              · have HRU := Lib.hid (mix_runs HI1.out hT.out (by omega))
                have hb3 : decide ((a : Int) + s < xs.length) = true := by rw [decide_eq_true_eq]; omega
                go_wp2_with fail
                refine (HS.out (s + s) _ ys _ _ _ a (a + s) xs.length rfl (by omega) rfl (by omega) HO1.out (HFN.out.later hg.out) (fun x hx => HD.out x (HR1.out.perm.mem_iff.1 hx)) (by omega) (by omega) (by have := HR1.out.length; omega) HRU.out.1 (by have := HRU.out.2; rw [show min (a + s + s) xs.length = xs.length by omega] at this; exact this)).mono ?_
                rintro e w1 ⟨rfl, hg1, zs, ho2, hm2⟩
                have HG1 := Lib.hid (grownBy_trans hg.out hg1)
                have HO2 := Lib.hid ho2
                have HR2 := Lib.hid (HR1.out.trans hm2.re)
                have HI2 := Lib.hid (mix_end HI1.out hT.out (by omega) hm2.out hm2.srt)
                clear hg1 ho2 hm2
                go_wp2_with fail
                go_roundw
                case rel => exact ⟨s + s, by omega, by omega, by congr 1; omega, HG1, zs, HO2.out, HR2.out, HI2.out⟩
                case measure => simp [intOf]; omega
              · have hb3 : decide ((a : Int) + s < xs.length) = false := by rw [decide_eq_false_iff_not]; omega
                have HI2 := Lib.hid (mix_end HI1.out hT.out (by omega) (SameOut.refl _ _ _) (mix_last HI1.out hT.out (by omega)))
                go_wp2_with fail
                go_roundw
                case rel => exact ⟨s + s, by omega, by omega, by congr 1; omega, hg, ys, HO1.out, HR1.out, HI2.out⟩
                case measure => simp [intOf]; omega
        · obtain ⟨ys, ho1, hr1, hi1⟩ := hys.out
          have HP : Hid (∃ ys, OwnY TT wo B (.slice (some ⟨g, 0, none⟩) xs.length cap) ys ∧ Rearr (ltOf c) xs ys ∧ SameOut xs ys 0 xs.length ∧ SortedOn (ltOf c) ys 0 xs.length) :=
            ⟨ys, ho1, hr1, sameOut_all hr1.length.symm, blk_done hi1 (by omega)⟩
          clear hys ho1 hr1 hi1
          go_wp2_with fail
          refine bodyPost_end (results_none Tryz.results45 _ _ _) rfl ?_
          exact ⟨rfl, hg.out, HP.out⟩

theorem stabY_any (TT : Int → Trp) (fv : Value) (D : Int → Prop) (c : Int → Int → Int) (w : World) (B g n cap : Nat) (xs : List Int) (ho : OwnY TT w B (.slice (some ⟨g, 0, none⟩) n cap) xs)
    (hf : FnCmpY TT fv w g D c) (hO : SWO D (ltOf c)) (hD : ∀ x ∈ xs, D x) (hl : xs.length ≤ 100000) :
    Calls Tryz.prog 18 #[.slice (some ⟨g, 0, none⟩) n cap, fv] w (PostSY TT w B g n cap (ltOf c) xs 0 xs.length) := by
  have HI := Lib.hid (stabYN_any TT fv D c w B g n cap xs ho hf hO hD hl)
  have hcap := ho.form_n
  obtain ⟨rfl, hcap⟩ := hcap
  obtain ⟨F, caps, rfl, hcf, hf⟩ := hf
  clear hf hO hD ho
  go_enter Tryz.func18, Tryz.ntmps18
  go_wp2_with fail
  refine HI.out.mono ?_
  rintro e w1 ⟨rfl, hg, hy⟩
  have HG := Lib.hid hg
  have HY := Lib.hid hy
  clear hg hy
  go_wp2_with fail
  refine bodyPost_end (results_none Tryz.results18 _ _ _) rfl ?_
  exact ⟨rfl, HG.out, HY.out⟩
end Go.Proofs.YtpbmmdoodmbneaaGreatDoor
