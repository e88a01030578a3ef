/- The law CertifyLeast. -/
import Derived.Test.YtehbnckdllbmgaaGreatDoorCerLP
import Derived.Test.YtehbnckdllbmgaaGreatDoorCerW
set_option linter.unusedSimpArgs false
set_option linter.unusedVariables false
namespace Go.Proofs.YtehbnckdllbmgaaGreatDoor
open Go.RowKit

theorem OwnI_one (w : World) {B : Nat} (hB : B ≤ w.heap.size) (i : Int) : OwnI (w.alloc (.cells #[.int .i64 i] 3)) B (.slice (some ⟨w.heap.size, 0, none⟩) 1 1) [i] :=
  World.ownsRow_lit w #[.int .i64 i] 1 hB (by unfold maxLen; omega) rfl
theorem boundV_range {p : List (List Int)} {l : List Int} (hg : Good p) (hl : rightB p.length l = true) {s : Nat} (hs : s < (ri p 0).length) : 0 ≤ boundV p l s ∧ boundV p l s ≤ 30000000 := by
  have h1 := lastV_bounds hg hl hs
  obtain ⟨h2, h3, h4, h5⟩ := bst_bounds (pre := l) hg h1 hs p.length (Nat.le_refl _)
  have := hg.len
  unfold boundV
  dsimp only
  omega
theorem minB_range {p : List (List Int)} (hg : Good p) {s : Nat} (hs : s < (ri p 0).length) : ∀ {k : Nat}, k ≤ p.length → 0 ≤ minB p s k ∧ minB p s k ≤ 30000000
  | 0, _ => by simp [minB]
  | k + 1, hk => by
    have h1 := minB_range hg hs (show k ≤ p.length by omega)
    have h2 := boundV_range hg (right_one (show k < p.length by omega)) hs
    unfold minB
    split <;> omega
theorem least_err {p : List (List Int)} (h2 : 2 ≤ p.length) (h0 : 0 < (ri p 0).length) : boundE p [] 0 = checkE p := by
  by_cases hc : checkE p = 0
  · rw [hc]
    exact boundE_ok hc (by
      rintro (h | h | h | h)
      · rw [rightB_nil] at h; cases h
      · omega
      · omega
      · omega)
  · exact boundE_bad hc
theorem check_nil {p : List (List Int)} (hc : checkE p ≠ 0) : checkV p 0 [] = checkE p := by
  unfold checkV
  rw [if_neg (by simp), if_pos hc]
theorem one_bound {p : List (List Int)} (hc : checkE p = 0) {k s : Nat} (hk : k < p.length) (hs : s < (ri p 0).length) : boundE p [(k : Int)] (s : Int) = 0 ∧ boundR p [(k : Int)] (s : Int) = boundV p [(k : Int)] s := by
  have h : boundE p [(k : Int)] (s : Int) = 0 := boundE_ok hc (by
    rintro (h | h | h | h)
    · rw [right_one hk] at h; cases h
    · omega
    · omega
    · omega)
  exact ⟨h, by rw [boundR_ok h]; rfl⟩

set_option maxHeartbeats 4000000 in
set_option maxRecDepth 100000 in
theorem Least_any (v : Value) (p : List (List Int)) (st : Nat) (w : World) (h : SS w v p) (hst : st < 256) (hV : VarsC w) :
    Calls Tryz.prog 12 #[v, .int .u8 (st : Int)] w (Ret w (.bool true)) := by
  have HV := Lib.hid hV; have H := Lib.hid h
  have HA : Hid (∀ W, Below w.heap.size w W → Calls Tryz.prog 14 #[] W (Ret W (.bool true))) := Lib.hid fun W hW => awake_any W (HV.out.keep hW)
  obtain ⟨vs, ⟨pa, pc, rfl, p1, p2, p3⟩, p4⟩ := h
  have P3 := Lib.hid p3; have P4 := Lib.hid p4
  clear hV p3 p4
  go_enter Tryz.func12, Tryz.ntmps12
  go_wp2_with fail
  refine (Small_any _ p w H.out).mono ?_
  rintro e w1 ⟨rfl, m1, rfl⟩
  have HB1 := Lib.hid (below_drewN' (Below.refl w.heap.size w) m1)
  cases hsm : smallB p
  · go_wp2_with fail
    refine (HA.out _ HB1.out).mono ?_
    rintro e w2 ⟨rfl, hb⟩
    have HB2 := Lib.hid (ext_trans HB1.out hb)
    clear hb
    go_wp2_with fail
    go_ret
    exact ⟨rfl, HB2.out⟩
  have HSM := Lib.hid hsm
  clear hsm
  by_cases h2 : p.length < 2
  · have hd : decide ((p.length : Int) < 2) = true := by rw [decide_eq_true_eq]; omega
    go_wp2_with fail
    refine (HA.out _ HB1.out).mono ?_
    rintro e w2 ⟨rfl, hb⟩
    have HB2 := Lib.hid (ext_trans HB1.out hb)
    clear hb
    go_wp2_with fail
    go_ret
    exact ⟨rfl, HB2.out⟩
  have hd : decide ((p.length : Int) < 2) = false := by rw [decide_eq_false_iff_not]; omega
  have hm40 := smallB_len HSM.out
  have h12 := smallB_row HSM.out (show 0 < p.length by omega)
  obtain ⟨b, off, rfl, hc0⟩ := P3.out 0 (by omega)
  have hsi0 := P4.out 0 (by omega)
  obtain ⟨ra, rc, hr0, r1, r2⟩ := hsi0.sl
  rw [hr0] at hc0
  rw [Nat.add_zero] at hc0
  have hpl0 : (0 : Int) < p.length := by omega
  have hplc : (0 : Int) < pc := by omega
  clear hr0
  by_cases h0 : (ri p 0).length = 0
  · have hd0 : (((ri p 0).length : Int) == 0) = true := by rw [beq_iff_eq]; omega
    go_wp2_with fail
    refine (HA.out _ HB1.out).mono ?_
    rintro e w2 ⟨rfl, hb⟩
    have HB2 := Lib.hid (ext_trans HB1.out hb)
    clear hb
    go_wp2_with fail
    go_ret
    exact ⟨rfl, HB2.out⟩
  have hd0 : (((ri p 0).length : Int) == 0) = false := by rw [beq_eq_false_iff_ne]; omega
  go_wp2_with fail
  refine (rBound_any _ _ p [] 0 _ (H.out.drewN m1) (SI_nil _)).mono ?_
  rintro e w2 ⟨rfl, hb⟩
  have HB2 := Lib.hid (ext_trans HB1.out hb)
  rw [least_err (by omega) (by omega)]
  clear hb
  by_cases hc : checkE p = 0
  rotate_left
  · have e0 : (checkE p != 0) = true := by rw [bne_iff_ne]; exact hc
    have HC := Lib.hid (check_nil hc)
    have hee : (checkE p == checkE p) = true := by rw [beq_iff_eq]
    clear hc hd0
    go_wp2_with fail
    refine (Check_any _ _ p 0 [] w2 (H.out.keep HB2.out) (SC_nil _) (by omega)).mono ?_
    rintro e w3 ⟨rfl, hb⟩
    have HB3 := Lib.hid (ext_trans HB2.out hb)
    rw [HC.out]
    clear hb
    go_wp2_with fail
    refine (HA.out _ HB3.out).mono ?_
    rintro e w4 ⟨rfl, hb⟩
    have HB4 := Lib.hid (ext_trans HB3.out hb)
    clear hb
    go_wp2_with fail
    go_ret
    exact ⟨rfl, HB4.out⟩
  rw [hc]
  have HC := Lib.hid hc
  clear hc
  obtain ⟨s, hs⟩ : ∃ s, s = st % (ri p 0).length := ⟨_, rfl⟩
  have hsl : s < (ri p 0).length := by rw [hs]; exact Nat.mod_lt _ (by omega)
  have hts : Int.tmod (st : Int) ((ri p 0).length : Int) = (s : Int) := by rw [Int.tmod_eq_emod_of_nonneg (Int.natCast_nonneg st)]; omega
  clear hs
  have hne : ((ri p 0).length : Int) ≠ 0 := by omega
  have hc2 := cell_keep HB2.out hc0
  go_wp2_with fail
  clear hc0 hc2
  go_loopw [8, 9, 10, 11, 12] (fun lv le i _ _ wr => ∃ k : Nat, k ≤ p.length ∧ i = .int .i64 k ∧ le = .int .i64 (minB p s k) ∧ Hid (Below w2.heap.size w2 wr) ∧ Hid (OwnC wr w2.heap.size lv (soleL s k))) (fun _ _ i _ _ _ => p.length - (intOf i).toNat)
  case atStart => exact ⟨0, Nat.zero_le _, rfl, rfl, Below.refl _ _, OwnC_nil _ _⟩
  case round =>
    obtain ⟨k, hk, rfl, rfl, hbw, how⟩ := hrel
    have HBW := Lib.hid (ext_trans HB2.out hbw.out)
    have hsc := how.out.sc
    obtain ⟨lv, hlv⟩ : ∃ lv, lv = u8 := ⟨_, rfl⟩
    rw [← hlv] at how hsc ⊢
    obtain ⟨la, lc, rfl, _⟩ := hsc
    rw [soleL_len] at how ⊢
    clear hlv
    by_cases hlt : k < p.length
    · have hob := one_bound HC.out hlt hsl
      have hbr := boundV_range (checkE_zero HC.out) (right_one hlt) hsl
      have hmr := minB_range (checkE_zero HC.out) hsl hk
      go_wp2_with fail
      refine (Bound_any _ _ p [(k : Int)] s _ ((H.out.keep HBW.out).keep (below_alloc (Below.refl _ _) _)) (SI_one _ _ _)).mono ?_
      rintro e w4 ⟨rfl, hb4⟩
      rw [hob.1, hob.2]
      have hbA : Below w2.heap.size w2 w4 := (hbw.out.alloc hbw.out.size _).trans (hb4.mono (by have := hbw.out.size; simp; omega))
      have hoA : OwnC w4 w2.heap.size (.slice la k lc) (soleL s k) := (how.out.alloc _).below hb4
      have HBA := Lib.hid hbA; have HOA := Lib.hid hoA
      have HMB := Lib.hid (show minB p s (k + 1) = if k = 0 ∨ boundV p [(k : Int)] s < minB p s k then boundV p [(k : Int)] s else minB p s k from rfl)
      have HSS := Lib.hid (soleL_succ (s : Int) k)
      clear hb4 hbA hoA hob
      generalize boundV p [(k : Int)] s = N at *
      generalize minB p s k = M at *
      have hsz := HBA.out.size
      have key : Hid (∀ Q : Prop, (k = 0 → minB p s (k + 1) = N → Q) → (k ≠ 0 → ((k : Int) == 0) = false → decide (N < M) = true → minB p s (k + 1) = N → Q) → (k ≠ 0 → ((k : Int) == 0) = false → decide (N < M) = false → minB p s (k + 1) = M → Q) → Q) := Lib.hid fun Q q1 q2 q3 => by
        by_cases hk0 : k = 0
        · exact q1 hk0 (by rw [HMB.out, if_pos (.inl hk0)])
        · have hb0 : ((k : Int) == 0) = false := by rw [beq_eq_false_iff_ne]; omega
          by_cases hN : N < M
          · exact q2 hk0 hb0 (by rw [decide_eq_true_eq]; exact hN) (by rw [HMB.out, if_pos (.inr hN)])
          · exact q3 hk0 hb0 (by rw [decide_eq_false_iff_not]; exact hN) (by rw [HMB.out, if_neg (by rintro (h | h) <;> omega)])
      refine key.out _ (fun q0 q1 => ?_) (fun _ q0 q2 q1 => ?_) (fun _ q0 q2 q1 => ?_)
      all_goals
        have HQ := Lib.hid q1
        clear q1 key HMB
        try subst q0
        go_wp2_with (at_builtin; refine wpList_app_cut rfl _ _ rfl w2.heap.size _ (soleL s _) rfl ((HOA.out.alloc _).alloc _) (w4.heap.size + 1) 1 (.slice (some ⟨w4.heap.size, 0, none⟩) 1 1) ([_], (s : Int)) rfl (cell_new (by simp) rfl) (cell_new (by simp) rfl) ((OwnI_one w4 hsz _).alloc _) (by rw [soleL_len]; omega) (by simp; omega) ?_)
        intro v' w5 ho5 hg5 _
        have hb5 : Below w2.heap.size w2 w5 := ((HBA.out.alloc hsz _).alloc (by simp; omega) _).grown hg5 (by simp; omega) (fun j hj => (HOA.out.lt j hj).1)
        have HB5 := Lib.hid hb5; have HO5 := Lib.hid ((congrArg (OwnC w5 w2.heap.size v') HSS.out).mpr ho5)
        clear ho5 hg5 hb5
        go_wp2_with fail
        go_roundw
        case rel => exact ⟨_, by omega, by go_num, by rw [HQ.out], HB5, HO5⟩
        case measure => simp [intOf]; omega
    · obtain rfl : k = p.length := by omega
      have hmr := minB_range (checkE_zero HC.out) hsl (Nat.le_refl p.length)
      have HCK := Lib.hid (sole_check HC.out (by omega) hsl)
      have HSC := Lib.hid how.out.sc
      generalize minB p s p.length = M at *
      have ew : IntKind.i64.wrap (M + 1) = M + 1 := IntWalk.i64_in _ (by omega)
      have c1 : checkV p M (soleL s p.length) = 0 := by rw [HCK.out, if_pos (Int.le_refl _)]
      have c2 : checkV p (M + 1) (soleL s p.length) = 13 := by rw [HCK.out, if_neg (by omega)]
      have C1 := Lib.hid c1; have C2 := Lib.hid c2
      clear c1 c2 HCK how
      go_wp2_with fail
      refine (Check_any _ _ p M (soleL s p.length) wr (H.out.keep HBW.out) HSC.out (by omega)).mono ?_
      rintro e w6 ⟨rfl, hb6⟩
      rw [C1.out]
      have HB6 := Lib.hid (ext_trans HBW.out hb6)
      have HSC6 := Lib.hid (HSC.out.keep hb6)
      clear hb6
      go_wp2_with fail
      refine (Check_any _ _ p (M + 1) (soleL s p.length) w6 (H.out.keep HB6.out) HSC6.out (by omega)).mono ?_
      rintro e w7 ⟨rfl, hb7⟩
      rw [C2.out]
      have HB7 := Lib.hid (ext_trans HB6.out hb7)
      clear hb7
      go_wp2_with fail
      refine (HA.out _ HB7.out).mono ?_
      rintro e w8 ⟨rfl, hb8⟩
      have HB8 := Lib.hid (ext_trans HB7.out hb8)
      clear hb8
      go_wp2_with fail
      go_ret
      exact ⟨rfl, HB8.out⟩
end Go.Proofs.YtehbnckdllbmgaaGreatDoor
