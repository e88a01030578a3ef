/- The law CertifyBest. -/
import Derived.Test.YtehbnckdllbmgaaGreatDoorCerLP
import Derived.Test.YtehbnckdllbmgaaGreatDoorCerW
set_option linter.unusedSimpArgs false
set_option linter.unusedVariables false
namespace Go.Proofs.YtehbnckdllbmgaaGreatDoor
open Go.RowKit

/-- what the search finds, whatever the number of steps -/
theorem best_any {p : List (List Int)} {s : Int} (h : bestE p s = 0) : checkE p = 0 ∧ Whole p (bestL p s) ∧ lenV p (bestL p s) = bestN p s ∧ ∀ l, Whole p l → bestN p s ≤ lenV p l := by
  have hc := bestE_zero h
  have hg := checkE_zero hc
  unfold bestE at h
  rw [if_neg (by simp [hc])] at h
  cases hs : bestS p s with
  | none => rw [hs] at h; cases h
  | some st =>
    obtain ⟨_, e2, e3⟩ := best_some hc hs
    have hso : Sound p (st0 s) := fun h => by simp [st0] at h
    have hah : Ahead (st0 s) [] := fun h => by simp [st0] at h
    have S : Step p [] (st0 s) st := by
      by_cases e : p.length = 0
      · have hs' := hs
        unfold bestS at hs'
        rw [e, expl_zero] at hs'
        cases hs'
        exact leaf_step hso ⟨rightB_nil _, by simp [e]⟩ hah
      · exact expl_step hg (by omega) p.length _ [] st (by simp) (rightB_nil _) hso hah hs
    have hf := S.sound S.found
    rw [e2, e3]
    exact ⟨hc, hf.1, hf.2, fun l hl => by
      rcases (S.good l ⟨hl, by simp⟩).2 with h | ⟨h, _⟩ <;> omega⟩
theorem lenV_range {p : List (List Int)} {l : List Int} (hc : checkE p = 0) (hl : Whole p l) : 0 ≤ lenV p l ∧ lenV p l ≤ 25600000 := by
  have hg := checkE_zero hc
  by_cases hp : p.length = 0
  · unfold lenV
    rw [lastV_nil (by rw [hl.2, hp])]
    omega
  · have := (hg.st 0 (by omega)).1
    exact lastV_bounds hg hl.1 (by omega)
theorem finishE_whole {p : List (List Int)} {l : List Int} (hc : checkE p = 0) (h : Whole p l) : finishE p l = 0 := by simp [finishE, hc, h.1, h.2]
theorem spanV_whole {p : List (List Int)} {l : List Int} (hc : checkE p = 0) (h : Whole p l) : spanV p l = lenV p l := by simp [spanV, finishE_whole hc h, lenV]
/-- what Make returns -/
theorem make_facts (p : List (List Int)) (s : Int) : (makeE p s ≠ 0 → makeL p s = [] ∧ makeC p s = [] ∧ (makeE p s = bestE p s ∨ (bestE p s = 0 ∧ makeE p s = 29))) ∧
    (makeE p s = 0 → bestE p s = 0 ∧ makeL p s = bestL p s ∧ finishE p (bestL p s) = 0 ∧ spanV p (bestL p s) = bestN p s ∧ 0 ≤ bestN p s ∧ bestN p s ≤ 25600000 ∧ checkV p (bestN p s) (makeC p s) = 0 ∧ checkV p (bestN p s + 1) (makeC p s) = 13) := by
  refine ⟨fun h => ⟨by unfold makeL; rw [if_pos h], by unfold makeC; rw [if_pos h], ?_⟩, fun h => ?_⟩
  · by_cases h0 : bestE p s = 0
    · right
      refine ⟨h0, ?_⟩
      unfold makeE at h ⊢
      rw [if_neg (by simp [h0])] at h ⊢
      split at h
      · rename_i hn; rw [if_pos hn]
      · exact absurd rfl h
    · left; unfold makeE; rw [if_pos h0]
  · have h0 : bestE p s = 0 := by
      apply Decidable.byContradiction; intro h0
      unfold makeE at h; rw [if_pos h0] at h; exact h0 h
    obtain ⟨hc, hw, hl, hb⟩ := best_any h0
    obtain ⟨r1, r2⟩ := lenV_range hc hw
    have hm : ∃ st', makeS p s = some st' := by
      unfold makeE at h
      rw [if_neg (by simp [h0])] at h
      cases hm : makeS p s with
      | none => rw [hm] at h; cases h
      | some st' => exact ⟨st', rfl⟩
    obtain ⟨st', hm⟩ := hm
    have hC : makeC p s = st'.cuts := by unfold makeC; rw [if_neg (by simp [h]), hm]; rfl
    have hk : checkV p (bestN p s) (makeC p s) = 0 := by
      rw [hC]
      exact und_check hc hb hm
    refine ⟨h0, by unfold makeL; rw [if_neg (by simp [h])], finishE_whole hc hw, by rw [spanV_whole hc hw, hl], by omega, by omega, hk, ?_⟩
    exact check_more hk hw (by omega)

set_option maxHeartbeats 4000000 in
set_option maxRecDepth 100000 in
theorem Best38_any (v : Value) (p : List (List Int)) (s : Int) (w : World) (h : SS w v p) (hs : in64 s) (hV : VarsC w) :
    Calls Tryz.prog 8 #[v, .int .i64 s] w (Ret w (.bool true)) := by
  have HV := Lib.hid hV; have H := Lib.hid h; have HS64 := Lib.hid hs
  have HA : Hid (∀ W, Below w.heap.size w W → Calls Tryz.prog 14 #[] W (Ret W (.bool true))) := Lib.hid fun W hW => awake_any W (HV.out.keep hW)
  obtain ⟨vs, ⟨pa, pc, rfl, p1, p2, _⟩, _⟩ := h
  clear hV hs
  go_enter Tryz.func8, Tryz.ntmps8
  go_wp2_with fail
  refine (Small_any _ p w H.out).mono ?_
  rintro e w1 ⟨rfl, m1, rfl⟩
  have HB1 := Lib.hid (below_drewN' (Below.refl w.heap.size w) m1)
  cases hsm : smallB p
  · go_wp2_with fail
    refine (HA.out _ HB1.out).mono ?_
    rintro e w2 ⟨rfl, hb⟩
    have HB2 := Lib.hid (ext_trans HB1.out hb)
    clear hb
    go_wp2_with fail
    go_ret
    exact ⟨rfl, HB2.out⟩
  have HSL := Lib.hid (smallB_len hsm)
  clear hsm
  by_cases h6 : 6 < p.length
  · have hd : decide ((6 : Int) < p.length) = true := by rw [decide_eq_true_eq]; omega
    go_wp2_with fail
    refine (HA.out _ HB1.out).mono ?_
    rintro e w2 ⟨rfl, hb⟩
    have HB2 := Lib.hid (ext_trans HB1.out hb)
    clear hb
    go_wp2_with fail
    go_ret
    exact ⟨rfl, HB2.out⟩
  have hd : decide ((6 : Int) < p.length) = false := by rw [decide_eq_false_iff_not]; omega
  have H6 := Lib.hid h6
  clear h6
  go_wp2_with fail
  refine (Make_any _ p s _ (H.out.drewN m1) HS64.out).mono ?_
  rintro e w2 ⟨vo, vl, rfl, ho, hl, hb2⟩
  have HB2 := Lib.hid (ext_trans HB1.out hb2)
  clear hb2 hd
  obtain ⟨oa, oc, rfl, _, _⟩ := ho.sl
  obtain ⟨la, lc, rfl, _, _⟩ : ∃ a c, vl = .slice a (makeC p s).length c ∧ (makeC p s).length ≤ c ∧ c ≤ maxLen := by obtain ⟨a, c, h1, h2, h3, _⟩ := hl; exact ⟨a, c, h1, h2, h3⟩
  have HO := Lib.hid ho; have HL := Lib.hid hl
  clear ho hl
  go_wp2_with fail
  refine (Best_any _ p s w2 (H.out.keep HB2.out)).mono ?_
  rintro e w3 ⟨vb, rfl, hbest, hb3⟩
  have HB3 := Lib.hid (ext_trans HB2.out hb3)
  have HO3 := Lib.hid (HO.out.keep hb3); have HL3 := Lib.hid (HL.out.keep hb3)
  have HBE := Lib.hid hbest
  obtain ⟨ba, bc, rfl, _, _⟩ := hbest.sl
  clear hb3 hbest
  have HMF := Lib.hid (make_facts p s)
  by_cases hE : makeE p s = 0
  rotate_left
  · obtain ⟨m1', m2', m3'⟩ := HMF.out.1 hE
    rw [m1', m2']
    have b0 : (makeE p s != 0) = true := by rw [bne_iff_ne]; exact hE
    clear HMF hE HBE HO HL HO3 HL3 m1' m2'
    generalize makeE p s = E at *
    generalize bestE p s = F at *
    rw [List.length_nil, List.length_nil]
    rcases m3' with rfl | ⟨rfl, rfl⟩
    · have b1 : (E == E) = true := by rw [beq_iff_eq]
      go_wp2_with fail
      refine (HA.out _ HB3.out).mono ?_
      rintro e w4 ⟨rfl, hb⟩
      have HB4 := Lib.hid (ext_trans HB3.out hb)
      clear hb
      go_wp2_with fail
      go_ret
      exact ⟨rfl, HB4.out⟩
    · go_wp2_with fail
      refine (HA.out _ HB3.out).mono ?_
      rintro e w4 ⟨rfl, hb⟩
      have HB4 := Lib.hid (ext_trans HB3.out hb)
      clear hb
      go_wp2_with fail
      go_ret
      exact ⟨rfl, HB4.out⟩
  · obtain ⟨k1, k2, k3, k4, k5, k6, k7, k8⟩ := HMF.out.2 hE
    have K3 := Lib.hid k3; have K4 := Lib.hid k4; have K7 := Lib.hid k7; have K8 := Lib.hid k8
    rw [k2] at HO3
    rw [hE, k1, k2]
    clear HMF hE HO HL k1 k2 k3 k4 k7 k8
    go_wp2_with fail
    refine (Makespan_any _ _ p (bestL p s) w3 (H.out.keep HB3.out) HO3.out).mono ?_
    rintro e w4 ⟨rfl, hb4⟩
    rw [K3.out, K4.out]
    have HB4 := Lib.hid (ext_trans HB3.out hb4)
    have HO4 := Lib.hid (HO3.out.keep hb4); have HL4 := Lib.hid (HL3.out.keep hb4); have HBE4 := Lib.hid (HBE.out.keep hb4)
    clear hb4 HO3 HL3 HBE
    generalize bestN p s = N at *
    have b1 : (N == N) = true := by rw [beq_iff_eq]
    go_wp2_with fail
    refine (same38_any _ _ (bestL p s) (bestL p s) w4 HO4.out HBE4.out).mono ?_
    rintro e w5 ⟨rfl, m5, rfl⟩
    rw [show decide (bestL p s = bestL p s) = true from decide_eq_true rfl]
    have HB5 := Lib.hid (below_drewN' HB4.out m5)
    go_wp2_with fail
    refine (Check_any _ _ p N (makeC p s) _ (H.out.keep HB5.out) (HL4.out.drewN m5) (by have := H6.out; omega)).mono ?_
    rintro e w6 ⟨rfl, hb6⟩
    rw [K7.out]
    have HB6 := Lib.hid (ext_trans HB5.out hb6)
    have HL6 := Lib.hid ((HL4.out.drewN m5).keep hb6)
    clear hb6
    go_wp2_with fail
    have ew : IntKind.i64.wrap (N + 1) = N + 1 := IntWalk.i64_in _ (by omega)
    refine (Check_any _ _ p (N + 1) (makeC p s) w6 (H.out.keep HB6.out) HL6.out (by have := H6.out; omega)).mono ?_
    rintro e w7 ⟨rfl, hb7⟩
    rw [K8.out]
    have HB7 := Lib.hid (ext_trans HB6.out hb7)
    clear hb7
    go_wp2_with fail
    refine (HA.out _ HB7.out).mono ?_
    rintro e w8 ⟨rfl, hb8⟩
    have HB8 := Lib.hid (ext_trans HB7.out hb8)
    clear hb8
    go_wp2_with fail
    go_ret
    exact ⟨rfl, HB8.out⟩
end Go.Proofs.YtehbnckdllbmgaaGreatDoor
