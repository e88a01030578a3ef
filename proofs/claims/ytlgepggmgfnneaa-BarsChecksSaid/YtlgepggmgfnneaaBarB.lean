/- Contracts: the functions of layer 25 on numbers. -/
import Derived.Test.YtlgepggmgfnneaaBarSpec
import Derived.Test.YtlgepggmgfnneaaLib
namespace Go.Proofs.Ytlgepggmgfnneaa
open Go.RowKit

theorem side_any (n : Int) (w : World) : Calls Try.prog 47 #[.int .i64 n] w fun e w' => e = .returned (.bool (sideB n)) ∧ ∃ m, w' = w.drewN m := by
  go_enter Try.func47, Try.ntmps47
  go_wp2_with fail
  all_goals (go_ret; refine ⟨ret_bool ?_, 0, rfl⟩; simp [sideB])
  all_goals omega
theorem sawn_any (n : Int) (w : World) : Calls Try.prog 35 #[.int .i64 n] w fun e w' => e = .returned (.bool (sawnB n)) ∧ ∃ m, w' = w.drewN m := by
  go_enter Try.func35, Try.ntmps35
  go_wp2_with fail
  all_goals (go_ret; refine ⟨ret_bool ?_, 0, rfl⟩; simp [sawnB])
  all_goals omega
theorem all1_any (n : Int) (w : World) : Calls Try.prog 50 #[.int .i64 n] w fun e w' => e = .returned (.bool (!sideB n)) ∧ ∃ m, w' = w.drewN m := by
  go_enter Try.func50, Try.ntmps50
  go_wp2_with fail
  refine (side_any n _).mono ?_
  rintro e w1 ⟨rfl, m, rfl⟩
  go_wp2_with fail
  go_ret
  exact ⟨rfl, m, rfl⟩
theorem fnP_all1 (w : World) : FnP (.func (.func 50) #[] #[]) w (fun _ => True) fun n => !sideB n :=
  ⟨_, _, rfl, fun _ _ => rfl, fun x n _ => (all1_any x (w.drewN n)).mono fun _ _ ⟨he, m, hm⟩ => ⟨he, n + m, by rw [hm, World.drewN_drewN]⟩⟩
theorem all_any (v : Value) (l : List Int) (w : World) (h : SI w v l) : Calls Try.prog 34 #[v] w fun e w' => e = .returned (.bool (allB l)) ∧ ∃ m, w' = w.drewN m := by
  have H := Lib.hid h; clear h
  go_enter Try.func34, Try.ntmps34
  go_wp2_with fail
  refine (containsFunc_int _ _ _ _ l w H.out (fnP_all1 w) (fun _ _ => trivial)).mono ?_
  rintro e w1 ⟨rfl, m, rfl⟩
  go_wp2_with fail
  go_ret
  exact ⟨rfl, m, rfl⟩

set_option maxHeartbeats 400000 in
theorem sum_any (v : Value) (l : List Int) (w : World) (h : SI w v l) (hl : l.length ≤ 300) (ha : allB l = true) :
    Calls Try.prog 31 #[v] w fun e w' => e = .returned (.int .i64 l.sum) ∧ ∃ m, w' = w.drewN m := by
  obtain ⟨a, cap, rfl, h1, h2, h3⟩ := h
  have H3 := Lib.hid h3; clear h3
  have HA := Lib.hid ha; clear ha
  go_enter Try.func31, Try.ntmps31
  go_wp2_with fail
  go_loop [3, 8] (fun t i => ∃ k : Nat, k ≤ l.length ∧ i = .int .i64 k ∧ t = .int .i64 (l.take k).sum) (fun _ i => l.length - (intOf i).toNat)
  case atStart => exact ⟨0, Nat.zero_le _, rfl, by simp⟩
  case round =>
    obtain ⟨k, hk, rfl, rfl⟩ := hrel
    by_cases hlt : k < l.length
    · obtain ⟨b, off, ha, hc⟩ := H3.out k hlt
      rw [ha]
      have hb := sum_small (l := l.take k) (by simp; omega) (allB_take HA.out k)
      have hg := allB_iff.1 HA.out _ (gi_mem hlt)
      have HS := Lib.hid (take_sum_succ hlt)
      generalize (l.take k).sum = t at *
      go_wp2_with fail
      go_round
      case rel => exact ⟨k + 1, by omega, by go_num, by rw [HS.out]⟩
      case measure => simp [intOf]; omega
    · have HS : Hid ((l.take k).sum = l.sum) := by show _ = _; rw [List.take_of_length_le (by omega)]
      go_wp2_with fail
      go_ret
      exact ⟨ret_int HS.out, 0, rfl⟩

set_option maxHeartbeats 400000 in
theorem rsum_any (v : Value) (l : List Int) (w : World) (h : SI w v l) (hl : l.length ≤ 300) (ha : allB l = true) :
    Calls Try.prog 33 #[v] w fun e w' => e = .returned (.int .i64 l.sum) ∧ ∃ m, w' = w.drewN m := by
  obtain ⟨a, cap, rfl, h1, h2, h3⟩ := h
  have H3 := Lib.hid h3; clear h3
  have HA := Lib.hid ha; clear ha
  go_enter Try.func33, Try.ntmps33
  go_wp2_with fail
  go_loop [3, 4] (fun t i => ∃ k : Nat, k ≤ l.length ∧ i = .int .i64 k ∧ t = .int .i64 (l.take k).sum) (fun _ i => l.length - (intOf i).toNat)
  case atStart => exact ⟨0, Nat.zero_le _, rfl, by simp⟩
  case round =>
    obtain ⟨k, hk, rfl, rfl⟩ := hrel
    by_cases hlt : k < l.length
    · obtain ⟨b, off, ha, hc⟩ := H3.out k hlt
      rw [ha]
      have hb := sum_small (l := l.take k) (by simp; omega) (allB_take HA.out k)
      have hg := allB_iff.1 HA.out _ (gi_mem hlt)
      have HS := Lib.hid (take_sum_succ hlt)
      generalize (l.take k).sum = t at *
      go_wp2_with fail
      go_round
      case rel => exact ⟨k + 1, by omega, by go_num, by rw [HS.out]⟩
      case measure => simp [intOf]; omega
    · have HS : Hid ((l.take k).sum = l.sum) := by show _ = _; rw [List.take_of_length_le (by omega)]
      go_wp2_with fail
      go_ret
      exact ⟨ret_int HS.out, 0, rfl⟩

set_option maxHeartbeats 400000 in
theorem rneeds_any (v : Value) (l : List Int) (k : Int) (w : World) (h : SI w v l) (h0 : 0 < l.length) (hl : l.length ≤ 300) (ha : allB l = true) (hk : sawnB k = true) :
    Calls Try.prog 27 #[v, .int .i64 k] w fun e w' => e = .returned (.int .i64 (needs l k)) ∧ ∃ m, w' = w.drewN m := by
  have H := Lib.hid h
  obtain ⟨a, cap, rfl, h1, h2, h3⟩ := h
  have HA := Lib.hid ha; clear ha h3
  have hb := sum_small hl HA.out
  have hm := mul_small (a := (l.length : Int) - 1) (by omega) (by omega) hk
  have hmx : max ((l.length : Int) - 1) 0 = (l.length : Int) - 1 := by omega
  clear hk
  go_enter Try.func27, Try.ntmps27
  go_wp2_with fail
  refine (rsum_any _ l w H.out hl HA.out).mono ?_
  rintro e w1 ⟨rfl, m, rfl⟩
  go_wp2_with fail
  go_ret
  exact ⟨rfl, m, rfl⟩

theorem rneeds_nil (v : Value) (k : Int) (w : World) (h : SI w v []) :
    Calls Try.prog 27 #[v, .int .i64 k] w fun e w' => e = .returned (.int .i64 0) ∧ ∃ m, w' = w.drewN m := by
  have H := Lib.hid h
  obtain ⟨a, cap, rfl, h1, h2, h3⟩ := h
  clear h3
  go_enter Try.func27, Try.ntmps27
  go_wp2_with fail
  refine (rsum_any _ [] w H.out (by simp) rfl).mono ?_
  rintro e w1 ⟨rfl, m, rfl⟩
  go_wp2_with fail
  go_ret
  exact ⟨ret_int (by simp), m, rfl⟩
end Go.Proofs.Ytlgepggmgfnneaa
