/- Contracts: the reference's Same, SameRows, Light. -/
import Derived.Test.YtijapbfkpmphpaaFlowI
namespace Go.Proofs.Ytijapbfkpmphpaa
open Go.RowKit

theorem eq_gi {xs ys : List Int} {k : Nat} (hk : k < xs.length) (hl : xs.length = ys.length) (h : gi xs k ≠ gi ys k) : decide (xs = ys) = false := by
  rw [decide_eq_false_iff_not]; intro e; subst e; exact h rfl
theorem eq_gi_all {xs ys : List Int} (hl : xs.length = ys.length) (h : ∀ k, k < xs.length → gi xs k = gi ys k) : decide (xs = ys) = true := by
  rw [decide_eq_true_eq]; exact gi_ext hl h

set_option maxHeartbeats 400000 in
theorem same_any (v u : Value) (xs ys : List Int) (w : World) (h : SI w v xs) (g : SI w u ys) :
    Calls Try.prog 23 #[v, u] w fun e w' => e = .returned (.bool (decide (xs = ys))) ∧ ∃ m, w' = w.drewN m := by
  obtain ⟨a, cap, rfl, h1, h2, h3⟩ := h
  obtain ⟨a', cap', rfl, g1, g2, g3⟩ := g
  have H3 := Lib.hid h3; have G3 := Lib.hid g3
  clear h3 g3
  have hm : xs.length ≤ 9223372036854775807 := by unfold maxLen at h2; omega
  have hm' : ys.length ≤ 9223372036854775807 := by unfold maxLen at g2; omega
  by_cases c0 : xs.length = ys.length
  rotate_left
  · have hb : ((xs.length : Int) != (ys.length : Int)) = true := by rw [bne_iff_ne]; omega
    have hf := Lib.hid (show decide (xs = ys) = false by rw [decide_eq_false_iff_not]; intro e; subst e; exact c0 rfl)
    clear c0
    go_enter Try.func23, Try.ntmps23
    go_wp2_with fail
    go_ret
    exact ⟨ret_bool hf.out.symm, 0, rfl⟩
  have hb : ((xs.length : Int) != (ys.length : Int)) = false := by rw [bne_eq_false_iff_eq]; omega
  have hle : xs.length ≤ ys.length := by omega
  have C0 := Lib.hid c0
  clear c0
  go_enter Try.func23, Try.ntmps23
  go_wp2_with fail
  go_loopw [5] (fun i wr => ∃ k : Nat, k ≤ xs.length ∧ i = .int .i64 k ∧ (∃ m, wr = w.drewN m) ∧ Hid (∀ j, j < k → gi xs j = gi ys j)) (fun i _ => xs.length - (intOf i).toNat)
  case atStart => exact ⟨0, Nat.zero_le _, rfl, ⟨0, rfl⟩, fun j hj => by omega⟩
  case round =>
    obtain ⟨k, hk, rfl, ⟨m, rfl⟩, hj⟩ := hrel
    by_cases hlt : k < xs.length
    · obtain ⟨b, off, ha, hc⟩ := H3.out k hlt
      obtain ⟨b2, off2, ha2, hc2⟩ := G3.out k (by omega)
      rw [ha, ha2]
      clear ha ha2
      have i1 : (0 : Int) ≤ k := by omega
      have i2 : (k : Int) < xs.length := by omega
      have i3 : (k : Int) < ys.length := by omega
      by_cases c1 : gi xs k = gi ys k
      · have hb1 : (gi xs k != gi ys k) = false := by rw [bne_eq_false_iff_eq]; exact c1
        have C1 := Lib.hid c1
        clear c1
        go_wp2_with fail
        go_quiet (fail)
        go_wp2_with fail
        go_roundw
        case rel => exact ⟨k+1, by omega, by go_num, (by first | exact ⟨_, rfl⟩ | exact dn2 _ _ _), upto hj.out C1.out⟩
        case measure => simp [intOf]; omega
      · have hb1 : (gi xs k != gi ys k) = true := by rw [bne_iff_ne]; exact c1
        have hf := Lib.hid (eq_gi hlt C0.out c1)
        clear c1
        go_wp2_with fail
        go_quiet (fail)
        go_wp2_with fail
        go_ret
        exact ⟨ret_bool hf.out.symm, (by first | exact ⟨_, rfl⟩ | exact dn2 _ _ _)⟩
    · have hf := Lib.hid (eq_gi_all C0.out (fun j h => hj.out j (by omega)))
      go_wp2_with fail
      go_ret
      exact ⟨ret_bool hf.out.symm, _, rfl⟩

theorem eq_ri {xs ys : List (List Int)} {k : Nat} (hk : k < xs.length) (h : decide (ri xs k = ri ys k) = false) : decide (xs = ys) = false := by
  rw [decide_eq_false_iff_not] at *; intro e; subst e; exact h rfl
theorem eq_ri_all {xs ys : List (List Int)} (hl : xs.length = ys.length) (h : ∀ k, k < xs.length → decide (ri xs k = ri ys k) = true) : decide (xs = ys) = true := by
  rw [decide_eq_true_eq]; exact ri_ext hl (fun i hi => by simpa using h i hi)

set_option maxHeartbeats 400000 in
theorem sameRows_any (v u : Value) (xs ys : List (List Int)) (w : World) (h : SS w v xs) (g : SS w u ys) :
    Calls Try.prog 18 #[v, u] w fun e w' => e = .returned (.bool (decide (xs = ys))) ∧ ∃ m, w' = w.drewN m := by
  obtain ⟨vs, ⟨a, cap, rfl, h1, h2, h3⟩, h4⟩ := h
  obtain ⟨us, ⟨a', cap', rfl, g1, g2, g3⟩, g4⟩ := g
  have H3 := Lib.hid h3; have G3 := Lib.hid g3
  have H4 := Lib.hid h4; have G4 := Lib.hid g4
  clear h3 g3 h4 g4
  have hm : xs.length ≤ 9223372036854775807 := by unfold maxLen at h2; omega
  have hm' : ys.length ≤ 9223372036854775807 := by unfold maxLen at g2; omega
  by_cases c0 : xs.length = ys.length
  rotate_left
  · have hb : ((xs.length : Int) != (ys.length : Int)) = true := by rw [bne_iff_ne]; omega
    have hf := Lib.hid (show decide (xs = ys) = false by rw [decide_eq_false_iff_not]; intro e; subst e; exact c0 rfl)
    clear c0
    go_enter Try.func18, Try.ntmps18
    go_wp2_with fail
    go_ret
    exact ⟨ret_bool hf.out.symm, 0, rfl⟩
  have hb : ((xs.length : Int) != (ys.length : Int)) = false := by rw [bne_eq_false_iff_eq]; omega
  have hle : xs.length ≤ ys.length := by omega
  have C0 := Lib.hid c0
  clear c0
  go_enter Try.func18, Try.ntmps18
  go_wp2_with fail
  go_loopw [5] (fun i wr => ∃ k : Nat, k ≤ xs.length ∧ i = .int .i64 k ∧ (∃ m, wr = w.drewN m) ∧ Hid (∀ j, j < k → decide (ri xs j = ri ys j) = true)) (fun i _ => xs.length - (intOf i).toNat)
  case atStart => exact ⟨0, Nat.zero_le _, rfl, ⟨0, rfl⟩, fun j hj => by omega⟩
  case round =>
    obtain ⟨k, hk, rfl, ⟨m, rfl⟩, hj⟩ := hrel
    by_cases hlt : k < xs.length
    · obtain ⟨b, off, ha, hc⟩ := H3.out k hlt
      obtain ⟨b2, off2, ha2, hc2⟩ := G3.out k (by omega)
      rw [ha, ha2]
      clear ha ha2
      have i1 : (0 : Int) ≤ k := by omega
      have i2 : (k : Int) < xs.length := by omega
      have i3 : (k : Int) < ys.length := by omega
      go_wp2_with fail
      go_quiet ((go_at_call 23; exact quiet_dd (same_any _ _ _ _ _ ((H4.out k hlt).drewN _) ((G4.out k (by omega)).drewN _))))
      cases c1 : decide (ri xs k = ri ys k)
      · have hf := Lib.hid (eq_ri hlt c1)
        clear c1
        go_wp2_with fail
        go_ret
        exact ⟨ret_bool hf.out.symm, (by first | exact ⟨_, rfl⟩ | exact dn2 _ _ _)⟩
      · have C1 := Lib.hid c1
        clear c1
        go_wp2_with fail
        go_roundw
        case rel => exact ⟨k+1, by omega, by go_num, (by first | exact ⟨_, rfl⟩ | exact dn2 _ _ _), upto hj.out C1.out⟩
        case measure => simp [intOf]; omega
    · have hf := Lib.hid (eq_ri_all C0.out (fun j h => hj.out j (by omega)))
      go_wp2_with fail
      go_ret
      exact ⟨ret_bool hf.out.symm, _, rfl⟩

def lightB (p : List (List Int)) (most : Int) : Bool := decide (∀ j, j < p.length → (ri p j).length ≤ 12) && decide ((p.length : Int) ≤ most)

theorem light_any (v : Value) (p : List (List Int)) (most : Int) (w : World) (h : SS w v p) :
    Calls Try.prog 12 #[v, .int .i64 most] w fun e w' => e = .returned (.bool (lightB p most)) ∧ ∃ m, w' = w.drewN m := by
  obtain ⟨vs, ⟨a, cap, rfl, h1, h2, h3⟩, h4⟩ := h
  have H3 := Lib.hid h3
  have H4 := Lib.hid h4
  clear h3 h4
  have hm : p.length ≤ 9223372036854775807 := by unfold maxLen at h2; omega
  go_enter Try.func12, Try.ntmps12
  go_wp2_with fail
  go_loop [5] (fun i => ∃ k : Nat, k ≤ p.length ∧ i = .int .i64 k ∧ Hid (∀ j, j < k → (ri p j).length ≤ 12)) (fun i => p.length - (intOf i).toNat)
  case atStart => exact ⟨0, Nat.zero_le _, rfl, fun j hj => by omega⟩
  case round =>
    obtain ⟨k, hk, rfl, hj⟩ := hrel
    by_cases hlt : k < p.length
    · obtain ⟨b, off, ha, hc⟩ := H3.out k hlt
      obtain ⟨ak, capk, ek, n1, n2, hrow⟩ := H4.out k hlt
      rw [ek] at hc
      rw [ha]
      clear ha hrow ek
      by_cases c1 : (ri p k).length ≤ 12
      · have C1 := Lib.hid c1
        go_wp2_with fail
        go_round
        case rel => exact ⟨k+1, by omega, by go_num, upto hj.out C1.out⟩
        case measure => simp [intOf]; omega
      · have hf := Lib.hid (show lightB p most = false by
          simp only [lightB, Bool.and_eq_false_iff, decide_eq_false_iff_not]
          exact .inl fun g => c1 (g k hlt))
        have c2 : 12 < (ri p k).length := by omega
        clear c1
        go_wp2_with fail
        go_ret
        exact ⟨ret_bool hf.out.symm, 0, rfl⟩
    · have hf := Lib.hid (show lightB p most = decide ((p.length : Int) ≤ most) by
        unfold lightB
        rw [decide_eq_true (show ∀ j, j < p.length → (ri p j).length ≤ 12 from fun j h => hj.out j (by omega)), Bool.true_and])
      go_wp2_with fail
      go_ret
      exact ⟨ret_bool hf.out.symm, 0, rfl⟩
end Go.Proofs.Ytijapbfkpmphpaa
