/- Contract: the comparison of plans. -/
import Derived.Test.YtlgepggmgfnneaaBarC
namespace Go.Proofs.Ytlgepggmgfnneaa
open Go.RowKit

theorem eq_ri' {xs ys : List (List Int)} {k : Nat} (hk : k < xs.length) (h : ri xs k ≠ ri ys k) : decide (xs = ys) = false := by
  rw [decide_eq_false_iff_not]; intro e; subst e; exact h rfl
theorem eq_ri_all' {xs ys : List (List Int)} (hl : xs.length = ys.length) (h : ∀ k, k < xs.length → ri xs k = ri ys k) : decide (xs = ys) = true := by
  rw [decide_eq_true_eq]; exact ri_ext hl h

set_option maxHeartbeats 1000000 in
theorem same25_any (v u : Value) (xs ys : List (List Int)) (w : World) (h : SS w v xs) (g : SS w u ys) :
    Calls Try.prog 22 #[v, u] w fun e w' => e = .returned (.bool (decide (xs = ys))) ∧ ∃ m, w' = w.drewN m := by
  obtain ⟨vs, ⟨a, cap, rfl, h1, h2, h3⟩, h4⟩ := h
  obtain ⟨us, ⟨a', cap', rfl, g1, g2, g3⟩, g4⟩ := g
  have H3 := Lib.hid h3; have G3 := Lib.hid g3
  have H4 := Lib.hid h4; have G4 := Lib.hid g4
  clear h3 g3 h4 g4
  have hm : xs.length ≤ 9223372036854775807 := by unfold maxLen at h2; omega
  have hm' : ys.length ≤ 9223372036854775807 := by unfold maxLen at g2; omega
  by_cases c0 : xs.length = ys.length
  rotate_left
  · have hb : ((xs.length : Int) != (ys.length : Int)) = true := by rw [bne_iff_ne]; omega
    have hf := Lib.hid (show decide (xs = ys) = false by rw [decide_eq_false_iff_not]; intro e; subst e; exact c0 rfl)
    clear c0
    go_enter Try.func22, Try.ntmps22
    go_wp2_with fail
    go_ret
    exact ⟨ret_bool hf.out.symm, 0, rfl⟩
  have hb : ((xs.length : Int) != (ys.length : Int)) = false := by rw [bne_eq_false_iff_eq]; omega
  have hle : xs.length ≤ ys.length := by omega
  have C0 := Lib.hid c0
  clear c0
  go_enter Try.func22, Try.ntmps22
  go_wp2_with fail
  go_loopw [5, 6] (fun i _ wr => ∃ k : Nat, k ≤ xs.length ∧ i = .int .i64 k ∧ (∃ m, wr = w.drewN m) ∧ Hid (∀ j, j < k → ri xs j = ri ys j)) (fun i _ _ => xs.length - (intOf i).toNat)
  case atStart => exact ⟨0, Nat.zero_le _, rfl, ⟨0, rfl⟩, fun j hj => by omega⟩
  case round =>
    obtain ⟨k, hk, rfl, ⟨m, rfl⟩, hj⟩ := hrel
    by_cases hlt : k < xs.length
    · obtain ⟨b, off, ha, hc⟩ := H3.out k hlt
      obtain ⟨b2, off2, ha2, hc2⟩ := G3.out k (by omega)
      obtain ⟨ak, ck, ek, n1, n2, hr1⟩ := H4.out k hlt
      obtain ⟨ak2, ck2, ek2, m1, m2, hr2⟩ := G4.out k (by omega)
      rw [ek] at hc
      rw [ek2] at hc2
      rw [ha, ha2]
      have HR1 := Lib.hid hr1
      have HR2 := Lib.hid hr2
      have q1 : (ri xs k).length ≤ 9223372036854775807 := by unfold maxLen at n2; omega
      have q2 : (ri ys k).length ≤ 9223372036854775807 := by unfold maxLen at m2; omega
      have i1 : (0 : Int) ≤ k := by omega
      have i2 : (k : Int) < xs.length := by omega
      have i3 : (k : Int) < ys.length := by omega
      have i4 : (k : Int) < cap := by omega
      have i5 : (k : Int) < cap' := by omega
      clear ha ha2 hr1 hr2 ek ek2
      obtain ⟨xk, hxk⟩ : ∃ xk, ri xs k = xk := ⟨_, rfl⟩
      obtain ⟨yk, hyk⟩ : ∃ yk, ri ys k = yk := ⟨_, rfl⟩
      rw [hxk] at HR1 hc n1 q1
      rw [hyk] at HR2 hc2 m1 q2
      have HXK := Lib.hid hxk
      have HYK := Lib.hid hyk
      clear hxk hyk n2 m2
      by_cases c1 : xk.length = yk.length
      rotate_left
      · have hb1 : ((xk.length : Int) != (yk.length : Int)) = true := by rw [bne_iff_ne]; omega
        have hf := Lib.hid (eq_ri' (ys := ys) hlt (by rw [HXK.out, HYK.out]; intro e; rw [e] at c1; exact c1 rfl))
        clear c1
        go_wp2_with fail
        go_quiet (fail)
        go_wp2_with fail
        go_ret
        exact ⟨ret_bool hf.out.symm, (by first | exact ⟨_, rfl⟩ | exact dn2 _ _ _)⟩
      have hb1 : ((xk.length : Int) != (yk.length : Int)) = false := by rw [bne_eq_false_iff_eq]; omega
      have hle1 : xk.length ≤ yk.length := by omega
      have C1 := Lib.hid c1
      clear c1
      go_wp2_with fail
      go_quiet (fail)
      go_wp2_with fail
      go_loopw [6] (fun i wr => ∃ p : Nat, p ≤ xk.length ∧ i = .int .i64 p ∧ (∃ m, wr = w.drewN m) ∧ Hid (∀ j, j < p → gi xk j = gi yk j)) (fun i _ => xk.length - (intOf i).toNat)
      case atStart => exact ⟨0, Nat.zero_le _, rfl, (by first | exact ⟨_, rfl⟩ | exact dn2 _ _ _), fun j hj => by omega⟩
      case round =>
        obtain ⟨p, hp, rfl, ⟨m3, rfl⟩, hjp⟩ := hrel
        by_cases hlp : p < xk.length
        · obtain ⟨d1, f1, hd1, he1⟩ := HR1.out p hlp
          obtain ⟨d2, f2, hd2, he2⟩ := HR2.out p (by omega)
          try dsimp only at he1
          try dsimp only at he2
          rw [hd1] at hc
          rw [hd2] at hc2
          have i6 : (p : Int) < ck := by omega
          have i7 : (p : Int) < ck2 := by omega
          have i8 : (p : Int) < xk.length := by omega
          have i9 : (p : Int) < yk.length := by omega
          have i10 : (0 : Int) ≤ p := by omega
          clear hd1 hd2
          obtain ⟨x1, hx1⟩ : ∃ x1, gi xk p = x1 := ⟨_, rfl⟩
          obtain ⟨y1, hy1⟩ : ∃ y1, gi yk p = y1 := ⟨_, rfl⟩
          rw [hx1] at he1
          rw [hy1] at he2
          have HX1 := Lib.hid hx1
          have HY1 := Lib.hid hy1
          clear hx1 hy1
          by_cases c2 : x1 = y1
          · have C2 := Lib.hid c2
            have hb2 : (x1 != y1) = false := by rw [c2]; simp
            clear c2
            go_wp2_with fail
            go_quiet (fail)
            go_wp2_with fail
            go_roundw
            case rel => exact ⟨p + 1, by omega, by go_num, (by first | exact ⟨_, rfl⟩ | exact dn2 _ _ _), upto hjp.out (by rw [HX1.out, HY1.out]; exact C2.out)⟩
            case measure => simp [intOf]; omega
          · have hb2 : (x1 != y1) = true := by rw [bne_iff_ne]; exact c2
            have hf := Lib.hid (eq_ri' (ys := ys) hlt (by rw [HXK.out, HYK.out]; intro e; apply c2; rw [← HX1.out, ← HY1.out, e]))
            clear c2
            go_wp2_with fail
            go_quiet (fail)
            go_wp2_with fail
            go_ret
            exact ⟨ret_bool hf.out.symm, (by first | exact ⟨_, rfl⟩ | exact dn2 _ _ _)⟩
        · have HKK := Lib.hid (upto hj.out (show ri xs k = ri ys k by rw [HXK.out, HYK.out]; exact gi_ext C1.out (fun j h => hjp.out j (by omega))))
          go_wp2_with fail
          go_roundw
          case rel => exact ⟨k + 1, by omega, by go_num, ⟨_, rfl⟩, HKK.out⟩
          case measure => simp [intOf]; omega
    · have hf := Lib.hid (eq_ri_all' C0.out (fun j h => hj.out j (by omega)))
      go_wp2_with fail
      go_ret
      exact ⟨ret_bool hf.out.symm, _, rfl⟩
end Go.Proofs.Ytlgepggmgfnneaa
