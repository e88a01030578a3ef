/- Contracts of the reference: hour, day, Works, hours. -/
import Derived.Test.YtbjnpiaooehmjaaGreatDoorCalH
namespace Go.Proofs.YtbjnpiaooehmjaaGreatDoor
open Go.RowKit

theorem any_hit {sh : List Sp} {p : Sp → Bool} {k : Nat} (hk : k < sh.length) (h : p (pi2 sh k) = true) : sh.any p = true := List.any_eq_true.2 ⟨_, pi2_mem hk, h⟩
theorem any_miss {sh : List Sp} {p : Sp → Bool} (h : ∀ j, j < sh.length → p (pi2 sh j) = false) : sh.any p = false := by
  rw [List.any_eq_false]
  intro x hx
  obtain ⟨j, hj, rfl⟩ := List.mem_iff_getElem.1 hx
  rw [← pi2_lt hj, h j hj]; decide
theorem any_hitI {l : List Int} {p : Int → Bool} {k : Nat} (hk : k < l.length) (h : p (gi l k) = true) : l.any p = true := List.any_eq_true.2 ⟨_, gi_mem hk, h⟩
theorem any_missI {l : List Int} {p : Int → Bool} (h : ∀ j, j < l.length → p (gi l j) = false) : l.any p = false := by
  rw [List.any_eq_false]
  intro x hx
  obtain ⟨j, hj, rfl⟩ := List.mem_iff_getElem.1 hx
  rw [← gi_lt hj, h j hj]; decide

set_option maxHeartbeats 1000000 in
theorem rhour_any (v : Value) (sh : List Sp) (cl : List Int) (h : Int) (w : World) (hc : CalR w v sh cl) :
    Calls Tryz.prog 33 #[v, .int .i64 h] w (Ret w (.bool (sh.any (inS h)))) := by
  obtain ⟨sv, cv, rfl, hsp, hsi⟩ := hc
  obtain ⟨a, cap, rfl, n1, n2, hcell⟩ := hsp
  obtain ⟨a2, cap2, rfl, _⟩ := hsi
  have HCELL := Lib.hid hcell
  clear hcell
  unfold maxLen at n2
  have HB : Hid (Below w.heap.size w (w.alloc (.cells #[.slice a sh.length cap, .slice a2 cl.length cap2] 29))) := Lib.hid ((Below.refl _ _).alloc (Nat.le_refl _) _)
  go_enter Tryz.func33, Tryz.ntmps33
  go_wp2_with fail
  go_loop [5] (fun i => ∃ k : Nat, k ≤ sh.length ∧ i = .int .i64 k ∧ Hid (∀ j, j < k → inS h (pi2 sh j) = false)) (fun i => sh.length - (intOf i).toNat)
  case atStart => exact ⟨0, Nat.zero_le _, rfl, Lib.hid fun j hj => by omega⟩
  case round =>
    obtain ⟨k, hk, rfl, hj⟩ := hrel
    by_cases hlt : k < sh.length
    · obtain ⟨b, off, rfl, hc⟩ := HCELL.out k hlt
      have hc' := hc.keep ((Below.refl w.heap.size w).alloc (Nat.le_refl _) (.cells #[.slice (some ⟨b, off, none⟩) sh.length cap, .slice a2 cl.length cap2] 29))
      have c0 := hc.c0
      have c1 := hc.c1
      have hbs : b < w.heap.size := World.block_lt_of_cell? _ _ c0
      clear hc hc'
      have HI : Hid (inS h (pi2 sh k) = (decide ((pi2 sh k).a ≤ h) && decide (h < (pi2 sh k).b))) := Lib.hid rfl
      have HA := Lib.hid (any_hit (p := inS h) hlt)
      have HN : Hid (inS h (pi2 sh k) = false → ∀ j, j < k + 1 → inS h (pi2 sh j) = false) := Lib.hid fun hf j hjk => by
        by_cases e : j = k
        · subst e; exact hf
        · exact hj.out j (by omega)
      generalize inS h (pi2 sh k) = q at HI HA HN
      generalize (pi2 sh k).a = x at c0 HI
      generalize (pi2 sh k).b = y at c1 HI
      by_cases hx : x ≤ h
      · have dx : decide (x ≤ h) = true := by rw [decide_eq_true_eq]; exact hx
        by_cases hy : h < y
        · have dy : decide (h < y) = true := by rw [decide_eq_true_eq]; exact hy
          have hq : q = true := by rw [HI.out, dx, dy]; rfl
          go_wp2_with fail
          go_ret
          exact ⟨ret_bool (HA.out hq).symm, HB.out⟩
        · have dy : decide (h < y) = false := by rw [decide_eq_false_iff_not]; exact hy
          have hq : q = false := by rw [HI.out, dx, dy]; rfl
          have HN2 := Lib.hid (HN.out hq)
          clear HN HA
          go_wp2_with fail
          go_round
          case rel => exact ⟨k + 1, by omega, by go_num, HN2⟩
          case measure => simp [intOf]; omega
      · have dx : decide (x ≤ h) = false := by rw [decide_eq_false_iff_not]; exact hx
        have hq : q = false := by rw [HI.out, dx]; rfl
        have HN2 := Lib.hid (HN.out hq)
        clear HN HA
        go_wp2_with fail
        go_round
        case rel => exact ⟨k + 1, by omega, by go_num, HN2⟩
        case measure => simp [intOf]; omega
    · go_wp2_with fail
      go_ret
      exact ⟨ret_bool (any_miss (fun j h => hj.out j (by omega))).symm, HB.out⟩

set_option maxHeartbeats 1000000 in
theorem rday_any (v : Value) (sh : List Sp) (cl : List Int) (d : Int) (w : World) (hc : CalR w v sh cl) :
    Calls Tryz.prog 34 #[v, .int .i64 d] w (Ret w (.bool (cl.any fun x => x == d))) := by
  obtain ⟨sv, cv, rfl, hsp, hsi⟩ := hc
  obtain ⟨a2, cap2, rfl, _⟩ := hsp
  obtain ⟨a, cap, rfl, n1, n2, hcell⟩ := hsi
  have HCELL := Lib.hid hcell
  clear hcell
  unfold maxLen at n2
  have HB : Hid (Below w.heap.size w (w.alloc (.cells #[.slice a2 sh.length cap2, .slice a cl.length cap] 29))) := Lib.hid ((Below.refl _ _).alloc (Nat.le_refl _) _)
  go_enter Tryz.func34, Tryz.ntmps34
  go_wp2_with fail
  go_loop [5] (fun i => ∃ k : Nat, k ≤ cl.length ∧ i = .int .i64 k ∧ Hid (∀ j, j < k → (gi cl j == d) = false)) (fun i => cl.length - (intOf i).toNat)
  case atStart => exact ⟨0, Nat.zero_le _, rfl, Lib.hid fun j hj => by omega⟩
  case round =>
    obtain ⟨k, hk, rfl, hj⟩ := hrel
    by_cases hlt : k < cl.length
    · obtain ⟨b, off, rfl, c0⟩ := HCELL.out k hlt
      have hbs : b < w.heap.size := World.block_lt_of_cell? _ _ c0
      have HA := Lib.hid (any_hitI (p := fun x => x == d) hlt)
      have HN : Hid ((gi cl k == d) = false → ∀ j, j < k + 1 → (gi cl j == d) = false) := Lib.hid fun hf j hjk => by
        by_cases e : j = k
        · subst e; exact hf
        · exact hj.out j (by omega)
      generalize gi cl k = x at c0 HA HN
      by_cases hx : x = d
      · subst hx
        go_wp2_with fail
        go_ret
        exact ⟨ret_bool (HA.out (by simp)).symm, HB.out⟩
      · have HN2 := Lib.hid (HN.out (by simpa using hx))
        have hb : (x == d) = false := by simpa using hx
        clear HN HA
        go_wp2_with fail
        go_round
        case rel => exact ⟨k + 1, by omega, by go_num, HN2⟩
        case measure => simp [intOf]; omega
    · go_wp2_with fail
      go_ret
      exact ⟨ret_bool (any_missI (fun j h => hj.out j (by omega))).symm, HB.out⟩
end Go.Proofs.YtbjnpiaooehmjaaGreatDoor
