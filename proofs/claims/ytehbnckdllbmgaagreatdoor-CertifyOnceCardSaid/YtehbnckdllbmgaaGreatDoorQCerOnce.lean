/- The law CertifyOnce. -/
import Derived.Test.YtehbnckdllbmgaaGreatDoorCerX
import Derived.Test.YtehbnckdllbmgaaGreatDoorCerLP
import Derived.Test.YtehbnckdllbmgaaGreatDoorCerW
import Derived.Deep.LoopGhost
set_option linter.unusedSimpArgs false
set_option linter.unusedVariables false
namespace Go.Proofs.YtehbnckdllbmgaaGreatDoor
open Go.RowKit

theorem chain_next : ∀ {L : List (List Int)}, chainB L = true → ∀ t, t < L.length → nextV (ri L t) = if t + 1 < L.length then some (ri L (t + 1)) else none
  | [], _, t, h => by simp at h
  | [l], hc, t, h => by
    obtain rfl : t = 0 := by simp at h; omega
    simp only [chainB, Option.isNone_iff_eq_none] at hc
    rw [if_neg (by simp)]
    exact hc
  | a :: b :: r, hc, t, h => by
    simp only [chainB, Bool.and_eq_true, beq_iff_eq] at hc
    cases t with
    | zero => rw [if_pos (by simp)]; exact hc.1
    | succ t =>
      have := chain_next hc.2 t (by simpa using h)
      simp only [List.length_cons, Nat.add_lt_add_iff_right] at this ⊢
      exact this
theorem cntP_take {L : List (List Int)} {q : Nat} (h : q < L.length) (l : List Int) : cntP (L.take (q + 1)) l = cntP (L.take q) l + if begB (ri L q) l = true then 1 else 0 := by
  unfold cntP
  rw [take_succ_ri h, List.countP_append, List.countP_singleton]
/-- the first t sequences begin with one each -/
def onceT (R : Bool) (L PL : List (List Int)) (t : Nat) : Bool := R && (PL.take t).all fun l => cntP L l == 1
theorem onceT_succ {R : Bool} {L PL : List (List Int)} {t : Nat} (h : t < PL.length) (h2 : onceT R L PL t = true) : onceT R L PL (t + 1) = (cntP L (ri PL t) == 1) := by
  unfold onceT at *
  rw [take_succ_ri h, List.all_append]
  simp only [Bool.and_eq_true] at h2
  rw [h2.1, h2.2]
  simp
theorem onceT_false {R : Bool} {L PL : List (List Int)} {t : Nat} (h2 : onceT R L PL t = false) : (R && PL.all fun l => cntP L l == 1) = false := by
  unfold onceT at h2
  cases R with
  | false => rfl
  | true =>
    simp only [Bool.true_and] at h2 ⊢
    rw [List.all_eq_false] at h2 ⊢
    obtain ⟨x, hx, h3⟩ := h2
    exact ⟨x, List.mem_of_mem_take hx, h3⟩
theorem onceT_all {R : Bool} {L PL : List (List Int)} {t : Nat} (h : PL.length ≤ t) : onceT R L PL t = (R && PL.all fun l => cntP L l == 1) := by
  unfold onceT
  rw [List.take_of_length_le h]
theorem permL_len {n : Nat} (h : n ≤ 5) : 1 ≤ (permL n).length ∧ (permL n).length ≤ 200 := by
  have : n = 0 ∨ n = 1 ∨ n = 2 ∨ n = 3 ∨ n = 4 ∨ n = 5 := by omega
  rcases this with rfl | rfl | rfl | rfl | rfl | rfl <;> decide +kernel
theorem permL_zero {n : Nat} (h : n ≤ 5) : ri (permL n) 0 = rangeI n := by
  have h1 := (permL_chain h).2
  have h2 := (permL_len h).1
  rw [ri_lt (by omega)]
  rw [List.head?_eq_getElem?, List.getElem?_eq_getElem (by omega)] at h1
  exact Option.some.inj h1
theorem permL_row {n t : Nat} (ht : t < (permL n).length) : (ri (permL n) t).length = n := (seqs_whole n [] (by simp) (by simp [rightB]) _ (ri_mem ht)).2

set_option maxHeartbeats 4000000 in
set_option maxRecDepth 100000 in
theorem Once_any (m : Nat) (v : Value) (L : List (List Int)) (w : World) (h : SS w v L) (hn : v = .slice none 0 0 ∨ ∃ a n c, v = .slice (some a) n c) (hm : m < 256) (hV : VarsC w) :
    Calls Tryz.prog 9 #[.int .u8 (m : Int), v] w (Ret w (.bool true)) := by
  have HV := Lib.hid hV; have H := Lib.hid h; have HN := Lib.hid hn
  have HA : Hid (∀ W, Below w.heap.size w W → Calls Tryz.prog 14 #[] W (Ret W (.bool true))) := Lib.hid fun W hW => awake_any W (HV.out.keep hW)
  obtain ⟨vs, ⟨pa, pc, rfl, p1, p2, p3⟩, p4⟩ := h
  have P3 := Lib.hid p3; have P4 := Lib.hid p4
  clear hV p3 p4 hn
  have hLm : L.length ≤ 9223372036854775807 := by unfold maxLen at p2; omega
  obtain ⟨N, hN⟩ : ∃ N, N = m % 6 := ⟨_, rfl⟩
  have hN5 : N ≤ 5 := by omega
  have htm : Int.tmod (m : Int) (6 : Int) = (N : Int) := by rw [Int.tmod_eq_emod_of_nonneg (Int.natCast_nonneg m)]; omega
  clear hN
  by_cases h2 : 130 < L.length
  · have hd2 : decide ((130 : Int) < L.length) = true := by rw [decide_eq_true_eq]; omega
    go_enter Tryz.func9, Tryz.ntmps9
    go_wp2_with fail
    refine (HA.out _ (Below.refl _ _)).mono ?_
    rintro e w1 ⟨rfl, hb⟩
    have HB := Lib.hid hb
    clear hb
    go_wp2_with fail
    go_ret
    exact ⟨rfl, HB.out⟩
  have hd2 : decide ((130 : Int) < L.length) = false := by rw [decide_eq_false_iff_not]; omega
  go_enter Tryz.func9, Tryz.ntmps9
  go_wp2_with fail
  clear hd2
  have HLL := Lib.hid (show L.length ≤ 130 by omega)
  clear h2
  go_loopw [6, 7] (fun s6 i wr => ∃ (k : Nat) (r : Bool), k ≤ L.length ∧ s6 = .bool r ∧ i = .int .i64 k ∧ (∃ q, wr = w.drewN q) ∧ Hid (r = (L.take k).all (rightB N))) (fun _ i _ => L.length - (intOf i).toNat)
  case atStart => exact ⟨0, true, Nat.zero_le _, rfl, rfl, ⟨0, rfl⟩, rfl⟩
  case round =>
    obtain ⟨k, r, hk, rfl, rfl, ⟨q, rfl⟩, hr⟩ := hrel
    by_cases hlt : k < L.length
    · obtain ⟨b, off, rfl, hc⟩ := P3.out k hlt
      have sr := P4.out k hlt
      have HSR := Lib.hid sr
      obtain ⟨ra, rc, hrv, r1, r2⟩ := sr.sl
      rw [hrv] at hc HSR
      clear hrv sr
      have i0 : (0 : Int) ≤ k := by omega
      have i1 : (k : Int) < L.length := by omega
      have i2 : (k : Int) < pc := by omega
      by_cases h40 : 40 < (ri L k).length
      · have hd4 : decide ((40 : Int) < (ri L k).length) = true := by rw [decide_eq_true_eq]; omega
        have HQ := Lib.hid (below_drewN' (Below.refl w.heap.size w) q)
        go_wp2_with fail
        refine (HA.out _ HQ.out).mono ?_
        rintro e w1 ⟨rfl, hb⟩
        have HB := Lib.hid (ext_trans HQ.out hb)
        clear hb
        go_wp2_with fail
        go_ret
        exact ⟨rfl, HB.out⟩
      · have hd4 : decide ((40 : Int) < (ri L k).length) = false := by rw [decide_eq_false_iff_not]; omega
        have HT : Hid ((L.take (k + 1)).all (rightB N) = ((L.take k).all (rightB N) && rightB N (ri L k))) := by
          show _ = _
          rw [take_succ_ri hlt, List.all_append]; simp
        cases r with
        | false =>
          have HN2 : Hid (false = (L.take (k + 1)).all (rightB N)) := by
            have h1 := hr.out
            show _ = _
            rw [HT.out, ← h1]; rfl
          go_wp2_with fail
          go_roundw
          case rel => exact ⟨k + 1, false, by omega, rfl, by go_num, (by first | exact ⟨_, rfl⟩ | exact dn2 _ _ _), HN2⟩
          case measure => simp [intOf]; omega
        | true =>
          have HN2 : Hid (rightB N (ri L k) = (L.take (k + 1)).all (rightB N)) := by
            have h1 := hr.out
            show _ = _
            rw [HT.out, ← h1]; rfl
          go_wp2_with fail
          refine (Right38_any _ N (ri L k) _ (by omega) (HSR.out.drewN q)).mono ?_
          rintro e w1 ⟨rfl, m1, rfl⟩
          go_wp2_with fail
          go_roundw
          case rel => exact ⟨k + 1, _, by omega, rfl, by go_num, (by first | exact ⟨_, rfl⟩ | exact dn2 _ _ _), HN2⟩
          case measure => simp [intOf]; omega
    · obtain rfl : k = L.length := by omega
      have HR0 : Hid (r = L.all (rightB N)) := by have := hr.out; rw [List.take_length] at this; exact this
      obtain ⟨W, hW⟩ : ∃ W, W = w.drewN q := ⟨_, rfl⟩
      have HBW : Hid (Below w.heap.size w W) := by rw [hW]; exact below_drewN' (Below.refl _ _) _
      go_wp2_with fail
      rw [← hW]
      clear hW hr
      go_loopw [8, 9] (fun lv i wr => ∃ k : Nat, k ≤ N ∧ i = .int .i64 k ∧ Hid (Below W.heap.size W wr) ∧ Hid (OwnI wr W.heap.size lv (rangeI k))) (fun _ i _ => N - (intOf i).toNat)
      case atStart => exact ⟨0, Nat.zero_le _, rfl, Below.refl _ _, OwnI_nil _ _⟩
      case round =>
        obtain ⟨k, hk, rfl, hb, ho⟩ := hrel
        by_cases hlt : k < N
        · have hlt' : (k : Int) < N := by omega
          have hbs := hb.out.size
          have hrl := rangeI_length k
          go_wp2_with (at_builtin; refine wpList_app_int rfl (.tmp 47) (.tmp 49) rfl W.heap.size _ _ (rangeI k) [(k : Int)] rfl rfl (ho.out.alloc _) (SI_one _ _ _) (by rw [hrl]; simp; omega) (by simp; omega) ?_)
          intro v2 x2 ho2 hg2 _
          have hb2 : Below W.heap.size W x2 := (hb.out.alloc hbs _).grown hg2 (by simp; omega) (fun k hk => (World.ownsRow.lt ho.out k hk).1)
          rw [← rangeI_succ] at ho2
          have HO2 := Lib.hid ho2; have HX2 := Lib.hid hb2
          clear ho2 hg2 hb2 hrl
          go_wp2_with fail
          go_roundw
          case rel => exact ⟨k+1, by omega, by go_num, HX2, HO2⟩
          case measure => simp [intOf]; omega
        · obtain rfl : k = N := by omega
          have HBY := Lib.hid (ext_trans HBW.out hb.out)
          have HSI := Lib.hid ho.out.si
          obtain ⟨PL, hPL⟩ : ∃ PL, PL = permL k := ⟨_, rfl⟩
          have HP0 : Hid (ri PL 0 = rangeI k) := by rw [hPL]; exact permL_zero hN5
          have HPL1 : Hid (1 ≤ PL.length) := by rw [hPL]; exact (permL_len hN5).1
          have HPR : Hid (∀ t, t < PL.length → (ri PL t).length = k) := by rw [hPL]; exact fun t ht => permL_row ht
          have HPN : Hid (∀ t, t < PL.length → nextV (ri PL t) = if t + 1 < PL.length then some (ri PL (t + 1)) else none) := by rw [hPL]; exact chain_next (permL_chain hN5).1
          have HCO : Hid (coversV k L = (r && PL.all fun l => cntP L l == 1)) := by
            show _ = _
            rw [hPL, HR0.out]; exact covers_once (by omega)
          clear hPL
          go_wp2_with fail
          go_loopg [6, 8, 10] PL.length (fun g s6 s8 s10 wr => ∃ (t : Nat) (more : Bool), g = PL.length - t ∧ t ≤ PL.length ∧ s6 = .bool (onceT r L PL t) ∧ s10 = .bool more ∧ Hid (Below w.heap.size w wr) ∧ Hid (more = decide (t < PL.length)) ∧ Hid (t < PL.length → SI wr s8 (ri PL t)))
          case atStart => exact ⟨0, true, by omega, Nat.zero_le _, by simp [onceT], rfl, HBY.out, by show _ = _; rw [decide_eq_true (by have := HPL1.out; omega)], fun _ => by rw [HP0.out]; exact HSI.out⟩
          case round =>
            obtain ⟨t, more, hg, ht, rfl, rfl, hbw, hmore, hsi⟩ := hrel
            by_cases hgo : onceT r L PL t = true ∧ t < PL.length
            · obtain ⟨hot, hlt⟩ := hgo
              have hmt : more = true := by rw [hmore.out, decide_eq_true hlt]
              subst hmt
              have HSI1 := Lib.hid (hsi.out hlt)
              obtain ⟨oa, oc, rfl, o1, o2⟩ := (hsi.out hlt).sl
              have HON := Lib.hid (onceT_succ hlt hot)
              have HK := Lib.hid (HPR.out t hlt)
              obtain ⟨od, hod⟩ : ∃ od, od = ri PL t := ⟨_, rfl⟩
              have HOD := Lib.hid hod
              rw [← hod] at HSI1 o1 HON HK ⊢
              have HLT := Lib.hid hlt
              have HMG := Lib.hid hg
              rw [hot]
              clear hod hot hsi hmore hlt hg ht
              go_wp2_with fail
              go_loopg [11, 12] L.length (fun g s11 s12 w5 => ∃ (q c : Nat) (m : Nat), g = L.length - q ∧ q ≤ L.length ∧ c ≤ q ∧ s11 = .int .i64 c ∧ s12 = .int .i64 q ∧ w5 = wr.drewN m ∧ Hid (c = cntP (L.take q) od))
              case atStart => exact ⟨0, 0, 0, by omega, Nat.zero_le _, Nat.le_refl _, rfl, rfl, rfl, (show (0 : Nat) = cntP (L.take 0) od by simp [cntP])⟩
              case round =>
                obtain ⟨q, c, m5, hg, hq, hcq, rfl, rfl, rfl, hc⟩ := hrel
                have HB5 := Lib.hid (below_drewN' hbw.out m5)
                by_cases hlq : q < L.length
                · obtain ⟨b, off, e1, hcell⟩ := P3.out q hlq
                  subst e1
                  have sr := P4.out q hlq
                  have HSR := Lib.hid (sr.keep HB5.out)
                  obtain ⟨ra, rc, hrv, r1, r2⟩ := sr.sl
                  rw [hrv] at hcell HSR
                  have hcw := cell_keep HB5.out hcell
                  clear hrv sr hcell
                  have i0 : (0 : Int) ≤ q := by omega
                  have i1 : (q : Int) < L.length := by omega
                  have i2 : (q : Int) < pc := by omega
                  have HCN := Lib.hid (cntP_take hlq od)
                  go_wp2_with fail
                  refine (lbegins_any _ _ od (ri L q) _ (HSI1.out.drewN m5) HSR.out).mono ?_
                  rintro e w1 ⟨rfl, m1, rfl⟩
                  cases hbg : begB (ri L q) od
                  · have HN : Hid (c = cntP (L.take (q + 1)) od) := by
                      show _ = _
                      rw [HCN.out, hbg, if_neg (by decide)]; exact hc.out
                    clear hbg
                    go_wp2_with fail
                    go_roundg (L.length - (q + 1))
                    case measure => omega
                    case rel => exact ⟨q + 1, c, m5 + m1, rfl, by omega, by omega, rfl, by go_num, (by first | rfl | rw [World.drewN_drewN]), HN⟩
                  · have HN : Hid (c + 1 = cntP (L.take (q + 1)) od) := by
                      show _ = _
                      rw [HCN.out, hbg, if_pos rfl, ← hc.out]
                    clear hbg
                    have hc9 : (c : Int) + 1 ≤ 9223372036854775807 := by omega
                    go_wp2_with fail
                    go_roundg (L.length - (q + 1))
                    case measure => omega
                    case rel => exact ⟨q + 1, c + 1, m5 + m1, rfl, by omega, by omega, by go_num, by go_num, (by first | rfl | rw [World.drewN_drewN]), HN⟩
                · obtain rfl : q = L.length := by omega
                  have HCC : Hid (((c : Int) == 1) = onceT r L PL (t + 1)) := by
                    have h1 := hc.out
                    rw [List.take_length] at h1
                    show _ = _
                    rw [HON.out, h1, Bool.eq_iff_iff, beq_iff_eq, beq_iff_eq]; omega
                  have hkl : od.length ≤ 1000 := by have := HK.out; omega
                  go_wp2_with fail
                  refine (lnext_any _ od _ (HSI1.out.drewN m5) (by omega)).mono ?_
                  rintro e w6 ⟨nv, rfl, hns, hb6⟩
                  have HB6 := Lib.hid (ext_trans HB5.out hb6)
                  have HNX := Lib.hid (HPN.out t HLT.out)
                  rw [← HOD.out] at HNX
                  have HNS := Lib.hid hns
                  obtain ⟨na, nc, rfl, _, _⟩ := hns.sl
                  have HREL : Hid ((nextV od).isSome = decide (t + 1 < PL.length) ∧ (t + 1 < PL.length → SI w6 (.slice na ((nextV od).getD []).length nc) (ri PL (t + 1)))) := by
                    have h1 := HNX.out
                    have h2 := HNS.out
                    show _ ∧ _
                    by_cases hh : t + 1 < PL.length
                    · rw [if_pos hh] at h1
                      rw [h1] at h2 ⊢
                      exact ⟨by simp [hh], fun _ => h2⟩
                    · rw [if_neg hh] at h1
                      rw [h1]
                      exact ⟨by simp [hh], fun h => absurd h hh⟩
                  clear hns hb6 hkl
                  go_wp2_with fail
                  go_roundg (PL.length - (t + 1))
                  case measure => have := HLT.out; have := HMG.out; omega
                  case rel => exact ⟨t + 1, _, rfl, HLT.out, by rw [HCC.out], rfl, HB6, HREL.out.1, HREL.out.2⟩
            · have HRES : Hid (onceT r L PL t = coversV k L) := by
                show _ = _
                rw [HCO.out]
                by_cases ht2 : t < PL.length
                · have hof : onceT r L PL t = false := by
                    cases h : onceT r L PL t
                    · rfl
                    · exact absurd ⟨h, ht2⟩ hgo
                  rw [hof]; exact (onceT_false hof).symm
                · exact onceT_all (by omega)
              have hmo := hmore.out
              have HEND : Hid ((more && onceT r L PL t) = false) := by
                show _ = _
                rw [hmo]
                by_cases ht2 : t < PL.length
                · cases h : onceT r L PL t
                  · simp
                  · exact absurd ⟨h, ht2⟩ hgo
                · rw [decide_eq_false ht2]; rfl
              obtain ⟨cv, hcv⟩ : ∃ cv, cv = coversV k L := ⟨_, rfl⟩
              have HCV := Lib.hid hcv
              rw [← hcv] at HRES
              obtain ⟨ov, hov⟩ : ∃ ov, ov = onceT r L PL t := ⟨_, rfl⟩
              rw [← hov] at HRES HEND ⊢
              clear hov hcv hgo hmo hmore hg ht
              have hvv : ov = cv := HRES.out
              subst hvv
              have hend := HEND.out
              cases more <;> cases ov
              case true.true => cases hend
              all_goals
                clear hend
                go_wp2_with fail
                refine (Covers_any k _ L wr (H.out.keep hbw.out) HN.out (by have := HLL.out; omega)).mono ?_
                rintro e w2 ⟨rfl, hb⟩
                have HB2 := Lib.hid (ext_trans hbw.out hb)
                clear hb
                rw [← HCV.out]
                go_wp2_with fail
                refine (HA.out _ HB2.out).mono ?_
                rintro e w3 ⟨rfl, hb⟩
                have HB3 := Lib.hid (ext_trans HB2.out hb)
                clear hb
                go_wp2_with fail
                go_ret
                exact ⟨rfl, HB3.out⟩
end Go.Proofs.YtehbnckdllbmgaaGreatDoor
