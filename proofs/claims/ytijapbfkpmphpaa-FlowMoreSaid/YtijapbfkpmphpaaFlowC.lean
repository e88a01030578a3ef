/- Contracts: the reference's shop, distinct. -/
import Derived.Test.YtijapbfkpmphpaaFlowB
namespace Go.Proofs.Ytijapbfkpmphpaa
open Go.RowKit

set_option maxHeartbeats 1000000 in
theorem distinct_any (v u : Value) (p : List (List Int)) (l : List Int) (w : World) (h : SS w v p) (g : SI w u l) :
    Calls Try.prog 31 #[v, u] w fun e w' => e = .returned (.bool (rightB p.length l)) ∧ ∃ m, w' = w.drewN m := by
  obtain ⟨vs, ⟨a, cap, rfl, h1, h2, h3⟩, h4⟩ := h
  have G := Lib.hid g
  obtain ⟨a', cap', rfl, g1, g2, g3⟩ := g
  have G3 := Lib.hid g3; clear g3 h3 h4
  have hm : p.length ≤ 9223372036854775807 := by unfold maxLen at h2; omega
  have hm' : l.length ≤ 9223372036854775807 := by unfold maxLen at g2; omega
  go_enter Try.func31, Try.ntmps31
  go_wp2_with fail
  go_loopw [5] (fun i wr => ∃ k : Nat, k ≤ l.length ∧ i = .int .i64 k ∧ (∃ m, wr = w.drewN m) ∧ Hid (∀ j, j < k → badJob p.length l j = false)) (fun i _ => l.length - (intOf i).toNat)
  case atStart => exact ⟨0, Nat.zero_le _, rfl, ⟨0, rfl⟩, fun j hj => by omega⟩
  case round =>
    obtain ⟨k, hk, rfl, ⟨m, rfl⟩, hj⟩ := hrel
    by_cases hlt : k < l.length
    · obtain ⟨b, off, ha, hc⟩ := G3.out k hlt
      rw [ha]
      have GT := (SI.take (w := w) (cap := cap') (xs := l) (a := some ⟨b, off, none⟩) (k := k) (by rw [← ha]; exact G.out) (by omega))
      generalize hx : gi l k = x at *
      have HX := Lib.hid hx; clear hx ha
      have e0 : badJob p.length l k = (decide (x < 0) || decide ((p.length : Int) ≤ x) || (l.take k).any (fun y => x == y)) := by rw [← HX.out]; rfl
      have E0 := Lib.hid e0; clear e0
      have i1 : (0 : Int) ≤ k := by omega
      have i2 : (k : Int) < l.length := by omega
      by_cases c1 : x < 0
      · have C1 : decide (x < 0) = true := by simpa using c1
        clear c1
        go_wp2_with fail
        go_quiet (fail)
        go_wp2_with fail
        go_ret
        exact ⟨ret_bool (rightB_bad hlt (by rw [E0.out]; simp [C1])).symm, (by first | exact ⟨_, rfl⟩ | exact dn2 _ _ _)⟩
      have C1 : decide (x < 0) = false := by simpa using c1
      by_cases c2 : (p.length : Int) ≤ x
      · have C2 : decide ((p.length : Int) ≤ x) = true := by simpa using c2
        clear c1 c2
        go_wp2_with fail
        go_quiet (fail)
        go_wp2_with fail
        go_ret
        exact ⟨ret_bool (rightB_bad hlt (by rw [E0.out]; simp [C2])).symm, (by first | exact ⟨_, rfl⟩ | exact dn2 _ _ _)⟩
      have C2 : decide ((p.length : Int) ≤ x) = false := by simpa using c2
      clear c1 c2
      go_wp2_with fail
      go_quiet ((go_at_call 41; exact quiet_dd (has_any _ _ _ _ (GT.drewN _))))
      generalize hy : ((l.take k).any fun y => x == y) = y at *
      have HY := Lib.hid hy; clear hy
      cases y
      · go_wp2_with fail
        go_roundw
        case rel => exact ⟨k+1, by omega, by go_num, (by first | exact ⟨_, rfl⟩ | exact dn2 _ _ _), upto hj.out (by rw [E0.out, C1, C2]; rfl)⟩
        case measure => simp [intOf]; omega
      · go_wp2_with fail
        go_ret
        exact ⟨ret_bool (rightB_bad hlt (by rw [E0.out]; simp)).symm, (by first | exact ⟨_, rfl⟩ | exact dn2 _ _ _)⟩
    · go_wp2_with fail
      go_ret
      exact ⟨ret_bool (rightB_good (fun j h => hj.out j (by omega))).symm, (by first | exact ⟨_, rfl⟩ | exact dn2 _ _ _)⟩

set_option maxHeartbeats 2000000 in
theorem shop_any (v : Value) (p : List (List Int)) (w : World) (h : SS w v p) :
    Calls Try.prog 30 #[v] w fun e w' => e = .returned (.int .i64 (checkE p)) ∧ ∃ m, w' = w.drewN m := by
  obtain ⟨vs, ⟨a, cap, rfl, h1, h2, h3⟩, h4⟩ := h
  have H3 := Lib.hid h3; clear h3
  have H4 := Lib.hid h4; clear h4
  have hm : p.length ≤ 9223372036854775807 := by unfold maxLen at h2; omega
  by_cases hL : 32 < p.length
  · go_enter Try.func30, Try.ntmps30
    go_wp2_with fail
    go_ret
    exact ⟨ret_int (checkE_long hL).symm, 0, rfl⟩
  have hL' : decide (32 < (p.length : Int)) = false := by simp; omega
  go_enter Try.func30, Try.ntmps30
  go_wp2_with fail
  go_loop [3] (fun i => ∃ k : Nat, k ≤ p.length ∧ i = .int .i64 k ∧ Hid (∀ j, j < k → long8 (ri p j) = false)) (fun i => p.length - (intOf i).toNat)
  case atStart => exact ⟨0, Nat.zero_le _, rfl, fun j hj => by omega⟩
  case round =>
    obtain ⟨k, hk, rfl, hj⟩ := hrel
    by_cases hlt : k < p.length
    · obtain ⟨b, off, ha, hc⟩ := H3.out k hlt
      obtain ⟨ak, capk, ek, _, m1, _⟩ := H4.out k hlt
      rw [ek] at hc
      clear ek
      have e0 : long8 (ri p k) = decide (8 < ((ri p k).length : Int)) := rfl
      generalize (ri p k).length = nk at *
      have E0 := Lib.hid e0; clear e0
      rw [ha]
      by_cases c1 : 8 < (nk : Int)
      · go_wp2_with fail
        go_ret
        exact ⟨ret_int (checkE_long8 (any_ri_true hlt (by rw [E0.out]; simpa using c1))).symm, 0, rfl⟩
      · go_wp2_with fail
        go_round
        case rel => exact ⟨k+1, by omega, by go_num, upto hj.out (by rw [E0.out]; simpa using c1)⟩
        case measure => simp [intOf]; omega
    · have HX := Lib.hid (any_ri_false (p := p) (f := long8) (fun j h => hj.out j (by omega)))
      clear hj
      go_wp2_with fail
      go_loopw [4] (fun i wr => ∃ k : Nat, k ≤ p.length ∧ i = .int .i64 k ∧ (∃ m, wr = w.drewN m) ∧ Hid (∀ j, j < k → badRow (ri p 0).length (ri p j) = false)) (fun i _ => p.length - (intOf i).toNat)
      case atStart => exact ⟨0, Nat.zero_le _, rfl, ⟨0, rfl⟩, fun j hj => by omega⟩
      case round =>
        obtain ⟨k, hk, rfl, ⟨m, rfl⟩, hj⟩ := hrel
        by_cases hlt : k < p.length
        · have hz : 0 < p.length := by omega
          obtain ⟨b, off, ha, hcs⟩ := Sl.at H3.out hlt
          have hc0 := hcs 0 hz
          have hc := hcs k hlt
          clear hcs
          rw [Nat.add_zero] at hc0
          obtain ⟨ak, capk, ek, _, m1, _⟩ := H4.out k hlt
          obtain ⟨a0, cap0, e0, _, m2, _⟩ := H4.out 0 hz
          rw [ek] at hc
          rw [e0] at hc0
          clear ek e0
          generalize hn0 : (ri p 0).length = n0 at *
          generalize hnk : (ri p k).length = nk at *
          have HN0 := Lib.hid hn0; clear hn0
          have HNk := Lib.hid hnk; clear hnk
          rw [ha]
          have i1 : (0 : Int) ≤ k := by omega
          have i2 : (k : Int) < p.length := by omega
          by_cases c1 : nk = 0
          · have hz' : ((nk : Int) == 0) = true := by simp; omega
            have C1 := Lib.hid c1; clear c1
            go_wp2_with fail
            go_quiet (fail)
            go_wp2_with fail
            go_ret
            exact ⟨ret_int (checkE_shape hL HX.out (any_ri_true hlt (badRow_zero (HNk.out.trans C1.out)))).symm, (by first | exact ⟨_, rfl⟩ | exact dn2 _ _ _)⟩
          · have hz' : ((nk : Int) == 0) = false := by simp; omega
            by_cases c2 : nk = n0
            · have hz2 : ((nk : Int) != (n0 : Int)) = false := by simp; omega
              have C2 := Lib.hid c2; clear c2
              have C1 := Lib.hid c1; clear c1
              go_wp2_with fail
              go_quiet (fail)
              go_wp2_with fail
              go_roundw
              case rel => exact ⟨k+1, by omega, by go_num, (by first | exact ⟨_, rfl⟩ | exact dn2 _ _ _), upto hj.out (badRow_ok (by rw [HNk.out]; exact C1.out) (HNk.out.trans C2.out))⟩
              case measure => simp [intOf]; omega
            · have hz2 : ((nk : Int) != (n0 : Int)) = true := by simp; omega
              have C2 := Lib.hid c2; clear c2
              have C1 := Lib.hid c1; clear c1
              go_wp2_with fail
              go_quiet (fail)
              go_wp2_with fail
              go_ret
              exact ⟨ret_int (checkE_shape hL HX.out (any_ri_true hlt (badRow_ne (by rw [HNk.out, HN0.out]; exact C2.out)))).symm, (by first | exact ⟨_, rfl⟩ | exact dn2 _ _ _)⟩
        · have HS := Lib.hid (any_ri_false (p := p) (f := badRow (ri p 0).length) (fun j h => hj.out j (by omega)))
          clear hj
          go_wp2_with fail
          go_loopw [5] (fun i wr => ∃ k : Nat, k ≤ p.length ∧ i = .int .i64 k ∧ (∃ m, wr = w.drewN m) ∧ Hid (∀ j, j < k → (ri p j).any badNum = false)) (fun i _ => p.length - (intOf i).toNat)
          case atStart => exact ⟨0, Nat.zero_le _, rfl, ⟨_, rfl⟩, fun j hj => by omega⟩
          case round =>
            obtain ⟨k, hk, rfl, ⟨m, rfl⟩, hj⟩ := hrel
            by_cases hlt : k < p.length
            · obtain ⟨b, off, ha, hc⟩ := H3.out k hlt
              obtain ⟨ak, capk, ek, _, m1, hs⟩ := H4.out k hlt
              have HS2 := Lib.hid hs; clear hs
              rw [ek] at hc
              clear ek
              have hmk : (ri p k).length ≤ 9223372036854775807 := by unfold maxLen at m1; omega
              rw [ha]
              clear ha
              go_wp2_with fail
              go_loop [6] (fun i => ∃ s : Nat, s ≤ (ri p k).length ∧ i = .int .i64 s ∧ Hid (∀ j, j < s → badNum (gi (ri p k) j) = false)) (fun i => (ri p k).length - (intOf i).toNat)
              case atStart => exact ⟨0, Nat.zero_le _, rfl, fun j hj => by omega⟩
              case round =>
                obtain ⟨s, hs, rfl, hjs⟩ := hrel
                by_cases hlt2 : s < (ri p k).length
                · obtain ⟨b2, off2, ha2, hc2⟩ := HS2.out s hlt2
                  rw [ha2] at hc
                  have e0 : badNum (gi (ri p k) s) = (decide (gi (ri p k) s < 0) || decide (100000 < gi (ri p k) s)) := rfl
                  have E0 := Lib.hid e0; clear e0
                  by_cases c1 : gi (ri p k) s < 0
                  · have C1 : decide (gi (ri p k) s < 0) = true := by simpa using c1
                    go_wp2_with fail
                    go_ret
                    exact ⟨ret_int (checkE_range hL HX.out HS.out (any_ri_true (f := fun r => r.any badNum) hlt (any_gi_true hlt2 (by rw [E0.out]; simp [C1])))).symm, (by first | exact ⟨_, rfl⟩ | exact dn2 _ _ _)⟩
                  have C1 : decide (gi (ri p k) s < 0) = false := by simpa using c1
                  by_cases c2 : 100000 < gi (ri p k) s
                  · have C2 : decide (100000 < gi (ri p k) s) = true := by simpa using c2
                    go_wp2_with fail
                    go_ret
                    exact ⟨ret_int (checkE_range hL HX.out HS.out (any_ri_true (f := fun r => r.any badNum) hlt (any_gi_true hlt2 (by rw [E0.out]; simp [C2])))).symm, (by first | exact ⟨_, rfl⟩ | exact dn2 _ _ _)⟩
                  have C2 : decide (100000 < gi (ri p k) s) = false := by simpa using c2
                  go_wp2_with fail
                  go_round
                  case rel => exact ⟨s+1, by omega, by go_num, upto hjs.out (by rw [E0.out]; simp only [C1, C2]; rfl)⟩
                  case measure => simp [intOf]; omega
                · have HN := Lib.hid (any_gi_false (p := ri p k) (f := badNum) (fun j h => hjs.out j (by omega)))
                  go_wp2_with fail
                  go_roundw
                  case rel => exact ⟨k+1, by omega, by go_num, ⟨_, rfl⟩, upto hj.out HN.out⟩
                  case measure => simp [intOf]; omega
            · have HT := Lib.hid (any_ri_false (p := p) (f := fun r => r.any badNum) (fun j h => hj.out j (by omega)))
              go_wp2_with fail
              go_ret
              exact ⟨ret_int (checkE_ok hL HX.out HS.out HT.out).symm, _, rfl⟩
end Go.Proofs.Ytijapbfkpmphpaa
