/- Contracts: flow.right; the reference's shop, has, distinct. -/
import Derived.Test.YtijapbfkpmphpaaFlowA
namespace Go.Proofs.Ytijapbfkpmphpaa
open Go.RowKit

set_option maxHeartbeats 400000 in
theorem right_any (v u : Value) (p : List (List Int)) (l : List Int) (w : World) (h : SS w v p) (g : SI w u l) :
    Calls Try.prog 28 #[v, u] w fun e w' => e = .returned (.bool (rightB p.length l)) ∧ ∃ m, w' = w.drewN m := by
  obtain ⟨vs, ⟨a, cap, rfl, h1, h2, h3⟩, h4⟩ := h
  have G := Lib.hid g
  obtain ⟨a', cap', rfl, g1, g2, g3⟩ := g
  have G3 := Lib.hid g3; clear g3 h3 h4
  have hm : p.length ≤ 9223372036854775807 := by unfold maxLen at h2; omega
  have hm' : l.length ≤ 9223372036854775807 := by unfold maxLen at g2; omega
  go_enter Try.func28, Try.ntmps28
  go_wp2_with fail
  go_loopw [9] (fun i wr => ∃ k : Nat, k ≤ l.length ∧ i = .int .i64 k ∧ (∃ m, wr = w.drewN m) ∧ Hid (∀ j, j < k → badJob p.length l j = false)) (fun i _ => l.length - (intOf i).toNat)
  case atStart => exact ⟨0, Nat.zero_le _, rfl, ⟨0, rfl⟩, fun j hj => by omega⟩
  case round =>
    obtain ⟨k, hk, rfl, ⟨m, rfl⟩, hj⟩ := hrel
    by_cases hlt : k < l.length
    · obtain ⟨b, off, ha, hc⟩ := G3.out k hlt
      rw [ha]
      have GT := SI.take (w := w) (cap := cap') (xs := l) (a := some ⟨b, off, none⟩) (k := k) (by rw [← ha]; exact G.out) (by omega)
      generalize hx : gi l k = x at *
      have HX := Lib.hid hx; clear hx ha
      have bad : ∀ c, badJob p.length l k = c → Hid (badJob p.length l k = c) := fun _ h => h
      have e0 : badJob p.length l k = (decide (x < 0) || decide ((p.length : Int) ≤ x) || (l.take k).any (fun y => x == y)) := by rw [← HX.out]; rfl
      have E0 := Lib.hid e0; clear e0 bad
      by_cases c1 : x < 0
      · have C1 := Lib.hid c1
        go_wp2_with fail
        go_ret
        exact ⟨ret_bool (rightB_bad hlt (by rw [E0.out]; simp [C1.out])).symm, _, rfl⟩
      by_cases c2 : (p.length : Int) ≤ x
      · have C2 := Lib.hid c2
        go_wp2_with fail
        go_ret
        exact ⟨ret_bool (rightB_bad hlt (by rw [E0.out]; simp [C2.out])).symm, _, rfl⟩
      go_wp2_with fail
      refine (contains_int _ _ _ _ (GT.drewN _)).mono ?_
      rintro e w1 ⟨rfl, m1, rfl⟩
      generalize hy : ((l.take k).any fun y => x == y) = y at *
      have HY := Lib.hid hy; clear hy
      cases y
      · go_wp2_with fail
        go_roundw
        case rel => exact ⟨k+1, by omega, by go_num, ⟨_, rfl⟩, upto hj.out (by rw [E0.out]; simp; omega)⟩
        case measure => simp [intOf]; omega
      · go_wp2_with fail
        go_ret
        exact ⟨ret_bool (rightB_bad hlt (by rw [E0.out]; simp)).symm, _, rfl⟩
    · go_wp2_with fail
      go_ret
      exact ⟨ret_bool (rightB_good (fun j h => hj.out j (by omega))).symm, _, rfl⟩

theorem has_any (v : Value) (x : Int) (l : List Int) (w : World) (h : SI w v l) :
    Calls Try.prog 41 #[v, .int .i64 x] w fun e w' => e = .returned (.bool (l.any fun y => x == y)) ∧ ∃ m, w' = w.drewN m := by
  obtain ⟨a, cap, rfl, h1, h2, h3⟩ := h
  have H3 := Lib.hid h3; clear h3
  have hm : l.length ≤ 9223372036854775807 := by unfold maxLen at h2; omega
  go_enter Try.func41, Try.ntmps41
  go_wp2_with fail
  go_loop [5] (fun i => ∃ k : Nat, k ≤ l.length ∧ i = .int .i64 k ∧ Hid (∀ j, j < k → (x == gi l j) = false)) (fun i => l.length - (intOf i).toNat)
  case atStart => exact ⟨0, Nat.zero_le _, rfl, fun j hj => by omega⟩
  case round =>
    obtain ⟨k, hk, rfl, hj⟩ := hrel
    by_cases hlt : k < l.length
    · obtain ⟨b, off, ha, hc⟩ := H3.out k hlt
      rw [ha]
      generalize hy : (gi l k == x) = y
      have HY := Lib.hid hy
      have HZ := Lib.hid (show (x == gi l k) = y by rw [← hy, Bool.eq_iff_iff]; simp only [beq_iff_eq]; exact eq_comm)
      cases y
      · go_wp2_with fail
        go_round
        case rel => exact ⟨k+1, by omega, by go_num, upto hj.out HZ.out⟩
        case measure => simp [intOf]; omega
      · go_wp2_with fail
        go_ret
        exact ⟨ret_bool (any_gi_true (f := fun y => x == y) hlt HZ.out).symm, 0, rfl⟩
    · go_wp2_with fail
      go_ret
      exact ⟨ret_bool (any_gi_false (f := fun y => x == y) (fun j h => hj.out j (by omega))).symm, 0, rfl⟩
end Go.Proofs.Ytijapbfkpmphpaa
