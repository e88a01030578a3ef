/- Contracts: right, has, Right, SameInts of certify and of its reference. -/
import Derived.Test.YtehbnckdllbmgaaGreatDoorFlowQ
set_option linter.unusedSimpArgs false
set_option linter.unusedVariables false
namespace Go.Proofs.YtehbnckdllbmgaaGreatDoor
open Go.RowKit

set_option maxHeartbeats 400000 in
theorem cright_any (u : Value) (n : Nat) (l : List Int) (w : World) (hm : n ≤ 9223372036854775807) (g : SI w u l) :
    Calls Tryz.prog 37 #[.int .i64 n, u] w fun e w' => e = .returned (.bool (rightB n l)) ∧ ∃ m, w' = w.drewN m := by
  have G := Lib.hid g
  obtain ⟨a', cap', rfl, g1, g2, g3⟩ := g
  have G3 := Lib.hid g3; clear g3
  have hm' : l.length ≤ 9223372036854775807 := by unfold maxLen at g2; omega
  go_enter Tryz.func37, Tryz.ntmps37
  go_wp2_with fail
  go_loopw [9] (fun i wr => ∃ k : Nat, k ≤ l.length ∧ i = .int .i64 k ∧ (∃ m, wr = w.drewN m) ∧ Hid (∀ j, j < k → badJob n l j = false)) (fun i _ => l.length - (intOf i).toNat)
  case atStart => exact ⟨0, Nat.zero_le _, rfl, ⟨0, rfl⟩, fun j hj => by omega⟩
  case round =>
    obtain ⟨k, hk, rfl, ⟨m, rfl⟩, hj⟩ := hrel
    by_cases hlt : k < l.length
    · obtain ⟨b, off, ha, hc⟩ := G3.out k hlt
      rw [ha]
      have GT := SI.take (w := w) (cap := cap') (xs := l) (a := some ⟨b, off, none⟩) (k := k) (by rw [← ha]; exact G.out) (by omega)
      generalize hx : gi l k = x at *
      have HX := Lib.hid hx; clear hx ha
      have bad : ∀ c, badJob n l k = c → Hid (badJob n l k = c) := fun _ h => h
      have e0 : badJob n l k = (decide (x < 0) || decide ((n : Int) ≤ x) || (l.take k).any (fun y => x == y)) := by rw [← HX.out]; rfl
      have E0 := Lib.hid e0; clear e0 bad
      by_cases c1 : x < 0
      · have C1 := Lib.hid c1
        go_wp2_with fail
        go_ret
        exact ⟨ret_bool (rightB_bad hlt (by rw [E0.out]; simp [C1.out])).symm, _, rfl⟩
      by_cases c2 : (n : Int) ≤ x
      · have C2 := Lib.hid c2
        go_wp2_with fail
        go_ret
        exact ⟨ret_bool (rightB_bad hlt (by rw [E0.out]; simp [C2.out])).symm, _, rfl⟩
      go_wp2_with fail
      refine (contains_int _ _ _ _ (GT.drewN _)).mono ?_
      rintro e w1 ⟨rfl, m1, rfl⟩
      generalize hy : ((l.take k).any fun y => x == y) = y at *
      have HY := Lib.hid hy; clear hy
      cases y
      · go_wp2_with fail
        go_roundw
        case rel => exact ⟨k+1, by omega, by go_num, ⟨_, rfl⟩, upto hj.out (by rw [E0.out]; simp; omega)⟩
        case measure => simp [intOf]; omega
      · go_wp2_with fail
        go_ret
        exact ⟨ret_bool (rightB_bad hlt (by rw [E0.out]; simp)).symm, _, rfl⟩
    · go_wp2_with fail
      go_ret
      exact ⟨ret_bool (rightB_good (fun j h => hj.out j (by omega))).symm, _, rfl⟩

theorem has38_any (v : Value) (x : Int) (l : List Int) (w : World) (h : SI w v l) :
    Calls Tryz.prog 69 #[v, .int .i64 x] w fun e w' => e = .returned (.bool (l.any fun y => x == y)) ∧ ∃ m, w' = w.drewN m := by
  obtain ⟨a, cap, rfl, h1, h2, h3⟩ := h
  have H3 := Lib.hid h3; clear h3
  have hm : l.length ≤ 9223372036854775807 := by unfold maxLen at h2; omega
  go_enter Tryz.func69, Tryz.ntmps69
  go_wp2_with fail
  go_loop [5] (fun i => ∃ k : Nat, k ≤ l.length ∧ i = .int .i64 k ∧ Hid (∀ j, j < k → (x == gi l j) = false)) (fun i => l.length - (intOf i).toNat)
  case atStart => exact ⟨0, Nat.zero_le _, rfl, fun j hj => by omega⟩
  case round =>
    obtain ⟨k, hk, rfl, hj⟩ := hrel
    by_cases hlt : k < l.length
    · obtain ⟨b, off, ha, hc⟩ := H3.out k hlt
      rw [ha]
      generalize hy : (gi l k == x) = y
      have HY := Lib.hid hy
      have HZ := Lib.hid (show (x == gi l k) = y by rw [← hy, Bool.eq_iff_iff]; simp only [beq_iff_eq]; exact eq_comm)
      cases y
      · go_wp2_with fail
        go_round
        case rel => exact ⟨k+1, by omega, by go_num, upto hj.out HZ.out⟩
        case measure => simp [intOf]; omega
      · go_wp2_with fail
        go_ret
        exact ⟨ret_bool (any_gi_true (f := fun y => x == y) hlt HZ.out).symm, 0, rfl⟩
    · go_wp2_with fail
      go_ret
      exact ⟨ret_bool (any_gi_false (f := fun y => x == y) (fun j h => hj.out j (by omega))).symm, 0, rfl⟩

set_option maxHeartbeats 1000000 in
theorem Right38_any (u : Value) (n : Nat) (l : List Int) (w : World) (hm : n ≤ 9223372036854775807) (g : SI w u l) :
    Calls Tryz.prog 31 #[.int .i64 n, u] w fun e w' => e = .returned (.bool (rightB n l)) ∧ ∃ m, w' = w.drewN m := by
  have G := Lib.hid g
  obtain ⟨a', cap', rfl, g1, g2, g3⟩ := g
  have G3 := Lib.hid g3; clear g3
  have hm' : l.length ≤ 9223372036854775807 := by unfold maxLen at g2; omega
  go_enter Tryz.func31, Tryz.ntmps31
  go_wp2_with fail
  go_loopw [5] (fun i wr => ∃ k : Nat, k ≤ l.length ∧ i = .int .i64 k ∧ (∃ m, wr = w.drewN m) ∧ Hid (∀ j, j < k → badJob n l j = false)) (fun i _ => l.length - (intOf i).toNat)
  case atStart => exact ⟨0, Nat.zero_le _, rfl, ⟨0, rfl⟩, fun j hj => by omega⟩
  case round =>
    obtain ⟨k, hk, rfl, ⟨m, rfl⟩, hj⟩ := hrel
    by_cases hlt : k < l.length
    · obtain ⟨b, off, ha, hc⟩ := G3.out k hlt
      rw [ha]
      have GT := (SI.take (w := w) (cap := cap') (xs := l) (a := some ⟨b, off, none⟩) (k := k) (by rw [← ha]; exact G.out) (by omega))
      generalize hx : gi l k = x at *
      have HX := Lib.hid hx; clear hx ha
      have e0 : badJob n l k = (decide (x < 0) || decide ((n : Int) ≤ x) || (l.take k).any (fun y => x == y)) := by rw [← HX.out]; rfl
      have E0 := Lib.hid e0; clear e0
      have i1 : (0 : Int) ≤ k := by omega
      have i2 : (k : Int) < l.length := by omega
      by_cases c1 : x < 0
      · have C1 : decide (x < 0) = true := by simpa using c1
        clear c1
        go_wp2_with fail
        go_quiet (fail)
        go_wp2_with fail
        go_ret
        exact ⟨ret_bool (rightB_bad hlt (by rw [E0.out]; simp [C1])).symm, (by first | exact ⟨_, rfl⟩ | exact dn2 _ _ _)⟩
      have C1 : decide (x < 0) = false := by simpa using c1
      by_cases c2 : (n : Int) ≤ x
      · have C2 : decide ((n : Int) ≤ x) = true := by simpa using c2
        clear c1 c2
        go_wp2_with fail
        go_quiet (fail)
        go_wp2_with fail
        go_ret
        exact ⟨ret_bool (rightB_bad hlt (by rw [E0.out]; simp [C2])).symm, (by first | exact ⟨_, rfl⟩ | exact dn2 _ _ _)⟩
      have C2 : decide ((n : Int) ≤ x) = false := by simpa using c2
      clear c1 c2
      go_wp2_with fail
      go_quiet ((go_at_call 69; exact quiet_dd (has38_any _ _ _ _ (GT.drewN _))))
      generalize hy : ((l.take k).any fun y => x == y) = y at *
      have HY := Lib.hid hy; clear hy
      cases y
      · go_wp2_with fail
        go_roundw
        case rel => exact ⟨k+1, by omega, by go_num, (by first | exact ⟨_, rfl⟩ | exact dn2 _ _ _), upto hj.out (by rw [E0.out, C1, C2]; rfl)⟩
        case measure => simp [intOf]; omega
      · go_wp2_with fail
        go_ret
        exact ⟨ret_bool (rightB_bad hlt (by rw [E0.out]; simp)).symm, (by first | exact ⟨_, rfl⟩ | exact dn2 _ _ _)⟩
    · go_wp2_with fail
      go_ret
      exact ⟨ret_bool (rightB_good (fun j h => hj.out j (by omega))).symm, (by first | exact ⟨_, rfl⟩ | exact dn2 _ _ _)⟩

theorem same38_any (v u : Value) (xs ys : List Int) (w : World) (h : SI w v xs) (g : SI w u ys) :
    Calls Tryz.prog 23 #[v, u] w fun e w' => e = .returned (.bool (decide (xs = ys))) ∧ ∃ m, w' = w.drewN m := by
  obtain ⟨a, cap, rfl, h1, h2, h3⟩ := h
  obtain ⟨a', cap', rfl, g1, g2, g3⟩ := g
  have H3 := Lib.hid h3; have G3 := Lib.hid g3
  clear h3 g3
  have hm : xs.length ≤ 9223372036854775807 := by unfold maxLen at h2; omega
  have hm' : ys.length ≤ 9223372036854775807 := by unfold maxLen at g2; omega
  by_cases c0 : xs.length = ys.length
  rotate_left
  · have hb : ((xs.length : Int) != (ys.length : Int)) = true := by rw [bne_iff_ne]; omega
    have hf := Lib.hid (show decide (xs = ys) = false by rw [decide_eq_false_iff_not]; intro e; subst e; exact c0 rfl)
    clear c0
    go_enter Tryz.func23, Tryz.ntmps23
    go_wp2_with fail
    go_ret
    exact ⟨ret_bool hf.out.symm, 0, rfl⟩
  have hb : ((xs.length : Int) != (ys.length : Int)) = false := by rw [bne_eq_false_iff_eq]; omega
  have hle : xs.length ≤ ys.length := by omega
  have C0 := Lib.hid c0
  clear c0
  go_enter Tryz.func23, Tryz.ntmps23
  go_wp2_with fail
  go_loopw [5] (fun i wr => ∃ k : Nat, k ≤ xs.length ∧ i = .int .i64 k ∧ (∃ m, wr = w.drewN m) ∧ Hid (∀ j, j < k → gi xs j = gi ys j)) (fun i _ => xs.length - (intOf i).toNat)
  case atStart => exact ⟨0, Nat.zero_le _, rfl, ⟨0, rfl⟩, fun j hj => by omega⟩
  case round =>
    obtain ⟨k, hk, rfl, ⟨m, rfl⟩, hj⟩ := hrel
    by_cases hlt : k < xs.length
    · obtain ⟨b, off, ha, hc⟩ := H3.out k hlt
      obtain ⟨b2, off2, ha2, hc2⟩ := G3.out k (by omega)
      rw [ha, ha2]
      clear ha ha2
      have i1 : (0 : Int) ≤ k := by omega
      have i2 : (k : Int) < xs.length := by omega
      have i3 : (k : Int) < ys.length := by omega
      by_cases c1 : gi xs k = gi ys k
      · have hb1 : (gi xs k != gi ys k) = false := by rw [bne_eq_false_iff_eq]; exact c1
        have C1 := Lib.hid c1
        clear c1
        go_wp2_with fail
        go_quiet (fail)
        go_wp2_with fail
        go_roundw
        case rel => exact ⟨k+1, by omega, by go_num, (by first | exact ⟨_, rfl⟩ | exact dn2 _ _ _), upto hj.out C1.out⟩
        case measure => simp [intOf]; omega
      · have hb1 : (gi xs k != gi ys k) = true := by rw [bne_iff_ne]; exact c1
        have hf := Lib.hid (eq_gi hlt C0.out c1)
        clear c1
        go_wp2_with fail
        go_quiet (fail)
        go_wp2_with fail
        go_ret
        exact ⟨ret_bool hf.out.symm, (by first | exact ⟨_, rfl⟩ | exact dn2 _ _ _)⟩
    · have hf := Lib.hid (eq_gi_all C0.out (fun j h => hj.out j (by omega)))
      go_wp2_with fail
      go_ret
      exact ⟨ret_bool hf.out.symm, _, rfl⟩

end Go.Proofs.YtehbnckdllbmgaaGreatDoor
