/- Contracts: Same, Small, Few of certify's reference. -/
import Derived.Test.YtehbnckdllbmgaaGreatDoorCerG
set_option linter.unusedSimpArgs false
set_option linter.unusedVariables false
namespace Go.Proofs.YtehbnckdllbmgaaGreatDoor
open Go.RowKit

theorem ci_ext {xs ys : List Cut} (h : xs.length = ys.length) (g : ∀ i, i < xs.length → ci xs i = ci ys i) : xs = ys := by
  apply List.ext_getElem h
  intro i h1 h2
  have := g i h1
  rwa [ci_lt h1, ci_lt h2] at this
set_option maxRecDepth 100000 in
set_option maxHeartbeats 1000000 in
theorem Same_any (v u : Value) (xs ys : List Cut) (w : World) (h : SC w v xs) (g : SC w u ys) :
    Calls Tryz.prog 24 #[v, u] w fun e w' => e = .returned (.bool (decide (xs = ys))) ∧ ∃ m, w' = w.drewN m := by
  obtain ⟨a, cap, rfl, h1, h2, h3⟩ := h
  obtain ⟨a', cap', rfl, g1, g2, g3⟩ := g
  have H3 := Lib.hid h3; have G3 := Lib.hid g3
  clear h3 g3
  have hm : xs.length ≤ 9223372036854775807 := by unfold maxLen at h2; omega
  have hm' : ys.length ≤ 9223372036854775807 := by unfold maxLen at g2; omega
  by_cases c0 : xs.length = ys.length
  rotate_left
  · have hb : ((xs.length : Int) != (ys.length : Int)) = true := by rw [bne_iff_ne]; omega
    have hf := Lib.hid (show decide (xs = ys) = false by rw [decide_eq_false_iff_not]; intro e; subst e; exact c0 rfl)
    clear c0
    go_enter Tryz.func24, Tryz.ntmps24
    go_wp2_with fail
    go_ret
    exact ⟨ret_bool hf.out.symm, 0, rfl⟩
  have hb : ((xs.length : Int) != (ys.length : Int)) = false := by rw [bne_eq_false_iff_eq]; omega
  have C0 := Lib.hid c0
  clear c0
  go_enter Tryz.func24, Tryz.ntmps24
  go_wp2_with fail
  go_loopw [5] (fun i wr => ∃ k : Nat, k ≤ xs.length ∧ i = .int .i64 k ∧ (∃ m, wr = w.drewN m) ∧ Hid (∀ j, j < k → ci xs j = ci ys j)) (fun i _ => xs.length - (intOf i).toNat)
  case atStart => exact ⟨0, Nat.zero_le _, rfl, ⟨0, rfl⟩, fun j hj => by omega⟩
  case round =>
    obtain ⟨k, hk, rfl, ⟨m, rfl⟩, hj⟩ := hrel
    by_cases hlt : k < xs.length
    · have hlt2 : k < ys.length := by have := C0.out; omega
      obtain ⟨b, off, p, ha, hc⟩ := H3.out k hlt
      obtain ⟨b2, off2, p2, ha2, hc2⟩ := G3.out k hlt2
      rw [ha, ha2]
      clear ha ha2
      obtain ⟨x0, x1, xs'⟩ := hc
      obtain ⟨y0, y1, ys'⟩ := hc2
      have XS := Lib.hid xs'; have YS := Lib.hid ys'
      obtain ⟨pa, pc, rfl, _, _⟩ := xs'.sl
      obtain ⟨qa, qc, rfl, _, _⟩ := ys'.sl
      clear xs' ys'
      have i1 : (0 : Int) ≤ k := by omega
      have i2 : (k : Int) < xs.length := by omega
      have i3 : (k : Int) < ys.length := by omega
      have i4 : (k : Int) < cap := by omega
      have i5 : (k : Int) < cap' := by omega
      have hxy : Hid (∀ b, decide ((ci xs k).1 = (ci ys k).1) = b → (ci xs k).2 = (ci ys k).2 → (b = true → ci xs k = ci ys k) ∧ (b = false → decide (xs = ys) = false)) := fun b hb h2 => ⟨fun e => by
          subst e
          exact Prod.ext (of_decide_eq_true hb) h2, fun e => by
          subst e
          rw [decide_eq_false_iff_not]
          rintro rfl
          exact of_decide_eq_false hb rfl⟩
      have hsn : Hid ((ci xs k).2 ≠ (ci ys k).2 → decide (xs = ys) = false) := fun h => by rw [decide_eq_false_iff_not]; rintro rfl; exact h rfl
      obtain ⟨s1, hs1⟩ : ∃ s, (ci xs k).2 = s := ⟨_, rfl⟩
      obtain ⟨s2, hs2⟩ : ∃ s, (ci ys k).2 = s := ⟨_, rfl⟩
      rw [hs1] at x1 hxy hsn
      rw [hs2] at y1 hxy hsn
      clear hs1 hs2
      by_cases c1 : s1 = s2
      · have hb1 : (s1 != s2) = false := by rw [bne_eq_false_iff_eq]; exact c1
        have C1 := Lib.hid c1
        clear c1
        go_wp2_with fail
        go_quiet ((go_at_call 23; exact quiet_dd (same38_any _ _ _ _ _ (XS.out.drewN _) (YS.out.drewN _))))
        obtain ⟨z, hz⟩ : ∃ z, decide ((ci xs k).1 = (ci ys k).1) = z := ⟨_, rfl⟩
        simp only [hz]
        have HZ := Lib.hid (hxy.out z hz C1.out)
        clear hz
        cases z
        · have hf := Lib.hid (HZ.out.2 rfl)
          go_wp2_with fail
          go_ret
          exact ⟨ret_bool hf.out.symm, (by first | exact ⟨_, rfl⟩ | exact dn2 _ _ _)⟩
        · have HN := Lib.hid (HZ.out.1 rfl)
          go_wp2_with fail
          go_roundw
          case rel => exact ⟨k+1, by omega, by go_num, (by first | exact ⟨_, rfl⟩ | exact dn2 _ _ _), upto hj.out HN.out⟩
          case measure => simp [intOf]; omega
      · have hb1 : (s1 != s2) = true := by rw [bne_iff_ne]; exact c1
        have hf := Lib.hid (hsn.out c1)
        clear c1
        go_wp2_with fail
        go_quiet (fail)
        go_wp2_with fail
        go_ret
        exact ⟨ret_bool hf.out.symm, (by first | exact ⟨_, rfl⟩ | exact dn2 _ _ _)⟩
    · have hf := Lib.hid (show decide (xs = ys) = true by rw [decide_eq_true_eq]; exact ci_ext C0.out (fun j h => hj.out j (by omega)))
      go_wp2_with fail
      go_ret
      exact ⟨ret_bool hf.out.symm, _, rfl⟩

/-- at most 40 jobs with at most 12 stations -/
def smallB (p : List (List Int)) : Bool := decide (p.length ≤ 40) && p.all fun r => decide (r.length ≤ 12)
theorem smallB_row {p : List (List Int)} {k : Nat} (h : smallB p = true) (hk : k < p.length) : (ri p k).length ≤ 12 := by
  simp only [smallB, Bool.and_eq_true, List.all_eq_true, decide_eq_true_eq] at h
  exact h.2 _ (ri_mem hk)
theorem smallB_len {p : List (List Int)} (h : smallB p = true) : p.length ≤ 40 := by
  simp only [smallB, Bool.and_eq_true, decide_eq_true_eq] at h
  exact h.1
set_option maxRecDepth 100000 in
set_option maxHeartbeats 1000000 in
theorem Small_any (v : Value) (p : List (List Int)) (w : World) (h : SS w v p) : Calls Tryz.prog 17 #[v] w fun e w' => e = .returned (.bool (smallB p)) ∧ ∃ m, w' = w.drewN m := by
  obtain ⟨vs, ⟨a, cap, rfl, h1, h2, h3⟩, h4⟩ := h
  have H3 := Lib.hid h3
  have H4 := Lib.hid h4
  clear h3 h4
  have hm : p.length ≤ 9223372036854775807 := by unfold maxLen at h2; omega
  go_enter Tryz.func17, Tryz.ntmps17
  go_wp2_with fail
  go_loop [3] (fun i => ∃ k : Nat, k ≤ p.length ∧ k ≤ 41 ∧ i = .int .i64 k ∧ Hid (∀ j, j < k → (ri p j).length ≤ 12)) (fun i => p.length - (intOf i).toNat)
  case atStart => exact ⟨0, Nat.zero_le _, by omega, rfl, fun j hj => by omega⟩
  case round =>
    obtain ⟨k, hk, hk2, rfl, hj⟩ := hrel
    by_cases hlt : k < p.length
    · by_cases h41 : k < 41
      · obtain ⟨b, off, ha, hc⟩ := H3.out k hlt
        obtain ⟨ak, capk, ek, n1, n2, hrow⟩ := H4.out k hlt
        rw [ek] at hc
        rw [ha]
        clear ha hrow ek
        by_cases c1 : (ri p k).length ≤ 12
        · have C1 := Lib.hid c1
          go_wp2_with fail
          go_round
          case rel => exact ⟨k+1, by omega, by omega, by go_num, upto hj.out C1.out⟩
          case measure => simp [intOf]; omega
        · have hf := Lib.hid (show smallB p = false by
            cases hh : smallB p
            · rfl
            · exact absurd (smallB_row hh hlt) c1)
          have c2 : 12 < (ri p k).length := by omega
          clear c1
          go_wp2_with fail
          go_ret
          exact ⟨ret_bool hf.out.symm, 0, rfl⟩
      · have hf := Lib.hid (show smallB p = decide ((p.length : Int) ≤ 40) by
          rw [decide_eq_false (by omega)]
          cases hh : smallB p
          · rfl
          · have := smallB_len hh; omega)
        go_wp2_with fail
        go_ret
        exact ⟨ret_bool hf.out.symm, 0, rfl⟩
    · have hf := Lib.hid (show smallB p = decide ((p.length : Int) ≤ 40) by
        have h5 : p.all (fun r => decide (r.length ≤ 12)) = true := by
          rw [List.all_eq_true]; intro x hx; obtain ⟨i, hi, rfl⟩ := mem_ri hx; rw [decide_eq_true_eq]; exact hj.out i (by omega)
        unfold smallB
        rw [h5, Bool.and_true, Bool.eq_iff_iff, decide_eq_true_eq, decide_eq_true_eq]; omega)
      go_wp2_with fail
      go_ret
      exact ⟨ret_bool hf.out.symm, 0, rfl⟩
/-- at most 300 cuts with beginnings of at most 40 numbers -/
def fewB (L : List Cut) : Bool := decide (L.length ≤ 300) && L.all fun c => decide (c.1.length ≤ 40)
theorem fewB_row {L : List Cut} {k : Nat} (h : fewB L = true) (hk : k < L.length) : (ci L k).1.length ≤ 40 := by
  simp only [fewB, Bool.and_eq_true, List.all_eq_true, decide_eq_true_eq] at h
  exact h.2 _ (ci_mem hk)
theorem fewB_len {L : List Cut} (h : fewB L = true) : L.length ≤ 300 := by
  simp only [fewB, Bool.and_eq_true, decide_eq_true_eq] at h
  exact h.1
set_option maxRecDepth 100000 in
set_option maxHeartbeats 1000000 in
theorem Few_any (v : Value) (p : List Cut) (w : World) (h : SC w v p) : Calls Tryz.prog 18 #[v] w fun e w' => e = .returned (.bool (fewB p)) ∧ ∃ m, w' = w.drewN m := by
  obtain ⟨a, cap, rfl, h1, h2, h3⟩ := h
  have H3 := Lib.hid h3
  clear h3
  have hm : p.length ≤ 9223372036854775807 := by unfold maxLen at h2; omega
  go_enter Tryz.func18, Tryz.ntmps18
  go_wp2_with fail
  go_loop [3] (fun i => ∃ k : Nat, k ≤ p.length ∧ k ≤ 301 ∧ i = .int .i64 k ∧ Hid (∀ j, j < k → (ci p j).1.length ≤ 40)) (fun i => p.length - (intOf i).toNat)
  case atStart => exact ⟨0, Nat.zero_le _, by omega, rfl, fun j hj => by omega⟩
  case round =>
    obtain ⟨k, hk, hk2, rfl, hj⟩ := hrel
    by_cases hlt : k < p.length
    · by_cases h41 : k < 301
      · obtain ⟨b, off, u, ha, hc⟩ := H3.out k hlt
        obtain ⟨c0, _, cs⟩ := hc
        obtain ⟨ua, uc, rfl, u1, u2⟩ := cs.sl
        rw [ha]
        clear ha cs
        by_cases c1 : (ci p k).1.length ≤ 40
        · have C1 := Lib.hid c1
          go_wp2_with fail
          go_round
          case rel => exact ⟨k+1, by omega, by omega, by go_num, upto hj.out C1.out⟩
          case measure => simp [intOf]; omega
        · have hf := Lib.hid (show fewB p = false by
            cases hh : fewB p
            · rfl
            · exact absurd (fewB_row hh hlt) c1)
          have c2 : 40 < (ci p k).1.length := by omega
          clear c1
          go_wp2_with fail
          go_ret
          exact ⟨ret_bool hf.out.symm, 0, rfl⟩
      · have hf := Lib.hid (show fewB p = decide ((p.length : Int) ≤ 300) by
          rw [decide_eq_false (by omega)]
          cases hh : fewB p
          · rfl
          · have := fewB_len hh; omega)
        go_wp2_with fail
        go_ret
        exact ⟨ret_bool hf.out.symm, 0, rfl⟩
    · have hf := Lib.hid (show fewB p = decide ((p.length : Int) ≤ 300) by
        have h5 : p.all (fun r => decide (r.1.length ≤ 40)) = true := by
          rw [List.all_eq_true]; intro x hx; obtain ⟨i, hi, rfl⟩ := mem_ci hx; rw [decide_eq_true_eq]; exact hj.out i (by omega)
        unfold fewB
        rw [h5, Bool.and_true, Bool.eq_iff_iff, decide_eq_true_eq, decide_eq_true_eq]; omega)
      go_wp2_with fail
      go_ret
      exact ⟨ret_bool hf.out.symm, 0, rfl⟩
end Go.Proofs.YtehbnckdllbmgaaGreatDoor
