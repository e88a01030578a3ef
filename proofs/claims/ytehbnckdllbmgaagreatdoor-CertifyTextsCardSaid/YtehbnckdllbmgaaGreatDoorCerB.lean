/- Contracts: slices.Compare, slices.Equal, begins. -/
import Derived.Test.YtehbnckdllbmgaaGreatDoorCerIt
set_option linter.unusedSimpArgs false
set_option linter.unusedVariables false
namespace Go.Proofs.YtehbnckdllbmgaaGreatDoor
open Go.RowKit

theorem isNaN_intI (x : Int) (w : World) : Calls Tryz.prog 109 #[.int .i64 x] w fun e w' => e = .returned (.bool false) ∧ w' = w := by
  have hx : (x != x) = false := by simp
  go_enter Tryz.func109, Tryz.ntmps109
  go_wp2_with fail
  go_ret
  exact ⟨rfl, rfl⟩
def cI (x y : Int) : Int := if x < y then -1 else if y < x then 1 else 0
theorem cmp_intI (x y : Int) (w : World) :
    Calls Tryz.prog 76 #[.int .i64 x, .int .i64 y] w fun e w' => e = .returned (.int .i64 (cI x y)) ∧ ∃ m, w' = w.drewN m := by
  go_enter Tryz.func76, Tryz.ntmps76
  go_wp2_with fail
  refine (isNaN_intI x w).mono ?_
  rintro e w1 ⟨rfl, rfl⟩
  go_wp2_with fail
  refine (isNaN_intI y _).mono ?_
  rintro e w1 ⟨rfl, rfl⟩
  by_cases h1 : x < y
  · have C : Hid (cI x y = -1) := by show cI x y = -1; unfold cI; rw [if_pos h1]
    go_wp2_with fail
    go_ret
    exact ⟨ret_int C.out.symm, 0, rfl⟩
  · by_cases h2 : y < x
    · have C : Hid (cI x y = 1) := by show cI x y = 1; unfold cI; rw [if_neg h1, if_pos h2]
      go_wp2_with fail
      go_ret
      exact ⟨ret_int C.out.symm, 0, rfl⟩
    · have C : Hid (cI x y = 0) := by show cI x y = 0; unfold cI; rw [if_neg h1, if_neg h2]
      go_wp2_with fail
      go_ret
      exact ⟨ret_int C.out.symm, 0, rfl⟩

set_option maxHeartbeats 400000 in
theorem compare_ints (v u : Value) (a b : List Int) (w : World) (h : SI w v a) (g : SI w u b) :
    Calls Tryz.prog 41 #[v, u] w fun e w' => e = .returned (.int .i64 (cmpL a b)) ∧ ∃ m, w' = w.drewN m := by
  obtain ⟨p, cap, rfl, h1, h2, h3⟩ := h
  obtain ⟨q, cap', rfl, g1, g2, g3⟩ := g
  have H3 := Lib.hid h3; have G3 := Lib.hid g3
  clear h3 g3
  have hm : a.length ≤ 9223372036854775807 := by unfold maxLen at h2; omega
  have hm' : b.length ≤ 9223372036854775807 := by unfold maxLen at g2; omega
  go_enter Tryz.func41, Tryz.ntmps41
  go_wp2_with fail
  go_loopw [11] (fun i wr => ∃ k : Nat, k ≤ a.length ∧ k ≤ b.length ∧ i = .int .i64 k ∧ (∃ m, wr = w.drewN m) ∧ Hid (∀ j, j < k → gi a j = gi b j)) (fun i _ => a.length - (intOf i).toNat)
  case atStart => exact ⟨0, Nat.zero_le _, Nat.zero_le _, rfl, ⟨0, rfl⟩, fun j hj => by omega⟩
  case round =>
    obtain ⟨k, hk, hk2, rfl, ⟨m, rfl⟩, hj⟩ := hrel
    by_cases hlt : k < a.length
    · obtain ⟨o1, off, ha, hc⟩ := H3.out k hlt
      rw [ha]
      clear ha
      by_cases hl2 : k < b.length
      · obtain ⟨o2, off2, ha2, hc2⟩ := G3.out k hl2
        rw [ha2]
        clear ha2
        go_wp2_with fail
        refine (cmp_intI _ _ _).mono ?_
        rintro e w1 ⟨rfl, m1, rfl⟩
        by_cases c1 : gi a k < gi b k
        · rw [show cI (gi a k) (gi b k) = -1 by unfold cI; rw [if_pos c1]]
          have HV := Lib.hid (show cmpL a b = -1 by rw [cmpL_ne hlt hl2 hj.out (by omega), if_pos c1])
          clear c1
          go_wp2_with fail
          go_ret
          exact ⟨ret_int HV.out.symm, (by first | exact ⟨_, rfl⟩ | exact dn2 _ _ _)⟩
        by_cases c2 : gi b k < gi a k
        · rw [show cI (gi a k) (gi b k) = 1 by unfold cI; rw [if_neg c1, if_pos c2]]
          have HV := Lib.hid (show cmpL a b = 1 by rw [cmpL_ne hlt hl2 hj.out (by omega), if_neg c1])
          clear c1 c2
          go_wp2_with fail
          go_ret
          exact ⟨ret_int HV.out.symm, (by first | exact ⟨_, rfl⟩ | exact dn2 _ _ _)⟩
        · rw [show cI (gi a k) (gi b k) = 0 by unfold cI; rw [if_neg c1, if_neg c2]]
          have HE := Lib.hid (show gi a k = gi b k by omega)
          clear c1 c2
          go_wp2_with fail
          go_roundw
          case rel => exact ⟨k+1, by omega, by omega, by go_num, (by first | exact ⟨_, rfl⟩ | exact dn2 _ _ _), upto hj.out HE.out⟩
          case measure => simp [intOf]; omega
      · have HV := Lib.hid (show cmpL a b = 1 from cmpL_more (by omega) (fun j h => hj.out j (by omega)))
        go_wp2_with fail
        go_ret
        exact ⟨ret_int HV.out.symm, (by first | exact ⟨_, rfl⟩ | exact dn2 _ _ _)⟩
    · obtain rfl : k = a.length := by omega
      by_cases hl : a.length < b.length
      · have HV := Lib.hid (show cmpL a b = -1 from cmpL_less hl (fun j h => hj.out j h))
        go_wp2_with fail
        go_ret
        exact ⟨ret_int HV.out.symm, (by first | exact ⟨_, rfl⟩ | exact dn2 _ _ _)⟩
      · have HV := Lib.hid (show cmpL a b = 0 from cmpL_same (by omega) (fun j h => hj.out j h))
        go_wp2_with fail
        go_ret
        exact ⟨ret_int HV.out.symm, (by first | exact ⟨_, rfl⟩ | exact dn2 _ _ _)⟩

theorem equal_ints (v u : Value) (xs ys : List Int) (w : World) (h : SI w v xs) (g : SI w u ys) :
    Calls Tryz.prog 111 #[v, u] w fun e w' => e = .returned (.bool (decide (xs = ys))) ∧ ∃ m, w' = w.drewN m := by
  obtain ⟨a, cap, rfl, h1, h2, h3⟩ := h
  obtain ⟨a', cap', rfl, g1, g2, g3⟩ := g
  have H3 := Lib.hid h3; have G3 := Lib.hid g3
  clear h3 g3
  have hm : xs.length ≤ 9223372036854775807 := by unfold maxLen at h2; omega
  have hm' : ys.length ≤ 9223372036854775807 := by unfold maxLen at g2; omega
  by_cases c0 : xs.length = ys.length
  rotate_left
  · have hb : ((xs.length : Int) != (ys.length : Int)) = true := by rw [bne_iff_ne]; omega
    have hf := Lib.hid (show decide (xs = ys) = false by rw [decide_eq_false_iff_not]; intro e; subst e; exact c0 rfl)
    clear c0
    go_enter Tryz.func111, Tryz.ntmps111
    go_wp2_with fail
    go_ret
    exact ⟨ret_bool hf.out.symm, 0, rfl⟩
  have hb : ((xs.length : Int) != (ys.length : Int)) = false := by rw [bne_eq_false_iff_eq]; omega
  have C0 := Lib.hid c0
  clear c0
  go_enter Tryz.func111, Tryz.ntmps111
  go_wp2_with fail
  go_loopw [13] (fun i wr => ∃ k : Nat, k ≤ xs.length ∧ i = .int .i64 k ∧ (∃ m, wr = w.drewN m) ∧ Hid (∀ j, j < k → gi xs j = gi ys j)) (fun i _ => xs.length - (intOf i).toNat)
  case atStart => exact ⟨0, Nat.zero_le _, rfl, ⟨0, rfl⟩, fun j hj => by omega⟩
  case round =>
    obtain ⟨k, hk, rfl, ⟨m, rfl⟩, hj⟩ := hrel
    by_cases hlt : k < xs.length
    · have hlt2 : k < ys.length := by have := C0.out; omega
      obtain ⟨b, off, ha, hc⟩ := H3.out k hlt
      obtain ⟨b2, off2, ha2, hc2⟩ := G3.out k hlt2
      rw [ha, ha2]
      clear ha ha2
      have i1 : (0 : Int) ≤ k := by omega
      have i2 : (k : Int) < xs.length := by omega
      have i3 : (k : Int) < ys.length := by omega
      by_cases c1 : gi xs k = gi ys k
      · have hb1 : (gi xs k != gi ys k) = false := by rw [bne_eq_false_iff_eq]; exact c1
        have C1 := Lib.hid c1
        clear c1
        go_wp2_with fail
        go_quiet (fail)
        go_wp2_with fail
        go_roundw
        case rel => exact ⟨k+1, by omega, by go_num, (by first | exact ⟨_, rfl⟩ | exact dn2 _ _ _), upto hj.out C1.out⟩
        case measure => simp [intOf]; omega
      · have hb1 : (gi xs k != gi ys k) = true := by rw [bne_iff_ne]; exact c1
        have hf := Lib.hid (eq_gi hlt C0.out c1)
        clear c1
        go_wp2_with fail
        go_quiet (fail)
        go_wp2_with fail
        go_ret
        exact ⟨ret_bool hf.out.symm, (by first | exact ⟨_, rfl⟩ | exact dn2 _ _ _)⟩
    · have hf := Lib.hid (eq_gi_all C0.out (fun j h => hj.out j (by omega)))
      go_wp2_with fail
      go_ret
      exact ⟨ret_bool hf.out.symm, _, rfl⟩

theorem begins_any (v u : Value) (p l : List Int) (w : World) (h : SI w v p) (g : SI w u l) :
    Calls Tryz.prog 78 #[v, u] w fun e w' => e = .returned (.bool (begB l p)) ∧ ∃ m, w' = w.drewN m := by
  have H := Lib.hid h; have G := Lib.hid g
  obtain ⟨a, cap, rfl, h1, h2, _⟩ := h
  obtain ⟨a', cap', rfl, g1, g2, _⟩ := g
  by_cases c : l.length ≤ p.length
  · have HT := Lib.hid (H.out.take l.length c)
    have HV := Lib.hid (show decide (p.take l.length = l) = begB l p from rfl)
    go_enter Tryz.func78, Tryz.ntmps78
    go_wp2_with fail
    refine (equal_ints _ _ _ _ _ HT.out G.out).mono ?_
    rintro e w1 ⟨rfl, m1, rfl⟩
    rw [HV.out]
    go_wp2_with fail
    go_ret
    exact ⟨rfl, (by first | exact ⟨_, rfl⟩ | exact dn2 _ _ _)⟩
  · have hf := Lib.hid (show begB l p = false by
      cases hh : begB l p
      · rfl
      · exact absurd (begB_len hh) c)
    go_enter Tryz.func78, Tryz.ntmps78
    go_wp2_with fail
    go_ret
    exact ⟨ret_bool hf.out.symm, 0, rfl⟩
end Go.Proofs.YtehbnckdllbmgaaGreatDoor
