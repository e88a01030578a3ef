/- Contract: slices.SortStableFunc of fewer than 20 integers. -/
import Derived.Test.YtlgepggmgfnneaaSortA
namespace Go.Proofs.Ytlgepggmgfnneaa
open Go.RowKit

theorem insertion_nil (F : FuncId) (caps : Array Value) (w : World) (n : Nat) (hn : n ≤ 0) : Calls Try.prog 56 #[.slice none 0 0, .int .i64 0, .int .i64 n, .func (.func F) #[] caps] w fun e w' => e = .returned (.tuple #[]) ∧ w' = w := by
  go_enter Try.func56, Try.ntmps56
  go_wp2_with fail
  go_loop [8] (fun i => ∃ k : Nat, 1 ≤ k ∧ i = .int .i64 k) (fun _ => 0)
  case atStart => exact ⟨1, Nat.le_refl _, rfl⟩
  case round =>
    obtain ⟨k, hk, rfl⟩ := hrel
    have hlt : ¬ k < n := by omega
    go_wp2_with fail
    refine bodyPost_end (results_none Try.results56 _ _ _) rfl ?_
    exact ⟨rfl, rfl⟩

theorem stableN_nil (F : FuncId) (caps : Array Value) (w : World) (n : Nat) (hn : n ≤ 0) : Calls Try.prog 51 #[.slice none 0 0, .int .i64 n, .func (.func F) #[] caps] w fun e w' => e = .returned (.tuple #[]) ∧ w' = w := by
  go_enter Try.func51, Try.ntmps51
  go_wp2_with fail
  go_loop [7, 8] (fun z i => z = .int .i64 0 ∧ ∃ k : Nat, 20 ≤ k ∧ i = .int .i64 k) (fun _ _ => 0)
  case atStart => exact ⟨rfl, 20, Nat.le_refl _, rfl⟩
  case round =>
    obtain ⟨rfl, k, hk, rfl⟩ := hrel
    have hlt : ¬ k ≤ n := by omega
    go_wp2_with fail
    refine (insertion_nil F caps w n hn).mono ?_
    rintro e w1 ⟨rfl, rfl⟩
    go_wp2_with fail
    go_loop [6] (fun i => ∃ k : Nat, 20 ≤ k ∧ i = .int .i64 k) (fun _ => 0)
    case atStart => exact ⟨20, Nat.le_refl _, rfl⟩
    case round =>
      obtain ⟨k, hk, rfl⟩ := hrel
      have hlt : ¬ k < n := by omega
      go_wp2_with fail
      refine bodyPost_end (results_none Try.results51 _ _ _) rfl ?_
      exact ⟨rfl, rfl⟩

theorem stable_nil (F : FuncId) (caps : Array Value) (w : World) : Calls Try.prog 37 #[.slice none 0 0, .func (.func F) #[] caps] w fun e w' => e = .returned (.tuple #[]) ∧ w' = w := by
  go_enter Try.func37, Try.ntmps37
  go_wp2_with fail
  refine (stableN_nil F caps w 0 (Nat.le_refl _)).mono ?_
  rintro e w1 ⟨rfl, rfl⟩
  go_wp2_with fail
  refine bodyPost_end (results_none Try.results37 _ _ _) rfl ?_
  exact ⟨rfl, rfl⟩

set_option maxHeartbeats 1000000 in
theorem stableN_small (fv : Value) (D : Int → Prop) (c : Int → Int → Int) (w : World) (B g n cap : Nat) (xs : List Int) (ho : OwnI w B (.slice (some ⟨g, 0, none⟩) n cap) xs)
    (hf : FnCmp fv w g D c) (hO : SWO D (ltOf c)) (hD : ∀ x ∈ xs, D x) (hl : xs.length < 20) :
    Calls Try.prog 51 #[.slice (some ⟨g, 0, none⟩) n cap, .int .i64 n, fv] w (PostS w B g n cap (ltOf c) xs 0 xs.length) := by
  have hnx : n = xs.length := by obtain ⟨a, c, he, _⟩ := ho.si; simp at he; exact he.2.1
  subst hnx
  have HI := Lib.hid (insertion_any fv D c w B g xs.length cap xs 0 xs.length ho hf hO hD (Nat.zero_le _) (Nat.le_refl _) (by omega))
  obtain ⟨F, caps, rfl, hcf, hf⟩ := hf
  clear hf hO hD ho
  go_enter Try.func51, Try.ntmps51
  go_wp2_with fail
  go_loop [7, 8] (fun z i => z = .int .i64 0 ∧ ∃ k : Nat, 20 ≤ k ∧ i = .int .i64 k) (fun _ _ => 0)
  case atStart => exact ⟨rfl, 20, Nat.le_refl _, rfl⟩
  case round =>
    obtain ⟨rfl, k, hk, rfl⟩ := hrel
    have hlt : ¬ k ≤ xs.length := by omega
    go_wp2_with fail
    refine HI.out.mono ?_
    rintro e w1 ⟨rfl, hg, hy⟩
    have HG := Lib.hid hg
    have HY := Lib.hid hy
    clear hg hy
    go_wp2_with fail
    go_loop [6] (fun i => ∃ k : Nat, 20 ≤ k ∧ i = .int .i64 k) (fun _ => 0)
    case atStart => exact ⟨20, Nat.le_refl _, rfl⟩
    case round =>
      obtain ⟨k, hk, rfl⟩ := hrel
      have hlt : ¬ k < xs.length := by omega
      go_wp2_with fail
      refine bodyPost_end (results_none Try.results51 _ _ _) rfl ?_
      exact ⟨rfl, HG.out, HY.out⟩

theorem stable_small (fv : Value) (D : Int → Prop) (c : Int → Int → Int) (w : World) (B g n cap : Nat) (xs : List Int) (ho : OwnI w B (.slice (some ⟨g, 0, none⟩) n cap) xs)
    (hf : FnCmp fv w g D c) (hO : SWO D (ltOf c)) (hD : ∀ x ∈ xs, D x) (hl : xs.length < 20) :
    Calls Try.prog 37 #[.slice (some ⟨g, 0, none⟩) n cap, fv] w (PostS w B g n cap (ltOf c) xs 0 xs.length) := by
  have HI := Lib.hid (stableN_small fv D c w B g n cap xs ho hf hO hD hl)
  obtain ⟨F, caps, rfl, hcf, hf⟩ := hf
  clear hf hO hD ho
  go_enter Try.func37, Try.ntmps37
  go_wp2_with fail
  refine HI.out.mono ?_
  rintro e w1 ⟨rfl, hg, hy⟩
  have HG := Lib.hid hg
  have HY := Lib.hid hy
  clear hg hy
  go_wp2_with fail
  refine bodyPost_end (results_none Try.results37 _ _ _) rfl ?_
  exact ⟨rfl, HG.out, HY.out⟩
end Go.Proofs.Ytlgepggmgfnneaa
