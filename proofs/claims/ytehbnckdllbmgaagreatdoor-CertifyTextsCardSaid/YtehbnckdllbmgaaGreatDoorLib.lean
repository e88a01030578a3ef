/- Contracts of the functions of package slices that this seat calls. -/
import Derived.Test.YtehbnckdllbmgaaGreatDoorBase
set_option linter.unusedSimpArgs false
set_option linter.unusedVariables false
namespace Go.Proofs.YtehbnckdllbmgaaGreatDoor
open Go.RowKit

/-- A function value that answers a predicate of one integer, in every world that keeps what W0 has. -/
def FnP (fv : Value) (W0 : World) (D : Int → Prop) (p : Int → Bool) : Prop :=
  ∃ F caps, fv = .func (.func F) #[] caps ∧ (∀ args w, (callFunc F args).run Tryz.prog w = .ok (.enter F args) w) ∧
    ∀ x n, D x → Calls Tryz.prog F (#[.int .i64 x] ++ caps) (W0.drewN n) fun e w'' => e = .returned (.bool (p x)) ∧ ∃ m, w'' = W0.drewN m

/-- the first index at which p holds, else -1 -/
def findI (p : Int → Bool) (xs : List Int) : Int := match xs.findIdx? p with | some i => i | none => -1

theorem findI_hit (p : Int → Bool) (xs : List Int) (k : Nat) (hk : k < xs.length) (h1 : ∀ j, j < k → p (gi xs j) = false) (h2 : p (gi xs k) = true) : findI p xs = k := by
  have : xs.findIdx? p = some k := by
    rw [List.findIdx?_eq_some_iff_getElem]
    refine ⟨hk, ?_, ?_⟩
    · simpa [gi, hk] using h2
    · intro j hj
      have := h1 j hj
      simp [gi, show j < xs.length by omega] at this
      simp [this]
  simp [findI, this]

theorem findI_miss (p : Int → Bool) (xs : List Int) (h1 : ∀ j, j < xs.length → p (gi xs j) = false) : findI p xs = -1 := by
  have : xs.findIdx? p = none := by
    rw [List.findIdx?_eq_none_iff]
    intro x hx
    obtain ⟨j, hj, rfl⟩ := mem_gi hx
    exact h1 j hj
  simp [findI, this]

theorem findI_any (p : Int → Bool) (xs : List Int) : decide (0 ≤ findI p xs) = xs.any p := by
  rw [Bool.eq_iff_iff, decide_eq_true_eq]
  simp only [findI]
  cases hh : xs.findIdx? p with
  | none => rw [List.findIdx?_eq_none_iff] at hh; simp; intro x hx; simpa using hh x hx
  | some i => rw [List.findIdx?_eq_some_iff_getElem] at hh; obtain ⟨h1, h2, _⟩ := hh; simp; exact ⟨_, List.getElem_mem h1, h2⟩

set_option maxHeartbeats 400000 in
theorem indexFunc_int (fv v : Value) (D : Int → Prop) (p : Int → Bool) (xs : List Int) (w : World) (h : SI w v xs)
    (hf : FnP fv w D p) (hD : ∀ j, j < xs.length → D (gi xs j)) :
    Calls Tryz.prog 122 #[v, fv] w fun e w' => e = .returned (.int .i64 (findI p xs)) ∧ ∃ m, w' = w.drewN m := by
  obtain ⟨F, caps, rfl, hcf, hf⟩ := hf
  obtain ⟨a, cap, rfl, h1, h2, h3⟩ := h
  have HF := Lib.hid hf; clear hf
  have HD := Lib.hid hD; clear hD
  have H3 := Lib.hid h3; clear h3
  have hm : xs.length ≤ 9223372036854775807 := by unfold maxLen at h2; omega
  go_enter Tryz.func122, Tryz.ntmps122
  go_wp2
  go_loopw [8] (fun i wr => ∃ k : Nat, k ≤ xs.length ∧ i = .int .i64 k ∧ (∃ m, wr = w.drewN m) ∧ Hid (∀ j, j < k → p (gi xs j) = false)) (fun i _ => xs.length - (intOf i).toNat)
  case atStart => exact ⟨0, Nat.zero_le _, rfl, ⟨0, rfl⟩, fun j hj => by omega⟩
  case round =>
    obtain ⟨k, hk, rfl, ⟨m, rfl⟩, hj⟩ := hrel
    by_cases hlt : k < xs.length
    · obtain ⟨b, off, ha, hc⟩ := H3.out k hlt
      rw [ha]
      have hd := HD.out k hlt
      go_wp2_with fail
      refine (HF.out (gi xs k) _ hd).mono ?_
      rintro e w1 ⟨rfl, m1, rfl⟩
      generalize hx : p (gi xs k) = x
      have HX := Lib.hid hx; clear hx
      cases x
      · go_wp2_with fail
        go_roundw
        case rel =>
          refine ⟨k+1, by omega, by go_num, ⟨m1, rfl⟩, ?_⟩
          intro j hjk
          by_cases e : j = k
          · subst e; exact HX.out
          · exact hj.out j (by omega)
        case measure => simp [intOf]; omega
      · go_wp2_with fail
        go_ret
        exact ⟨ret_int (findI_hit p xs k hlt hj.out HX.out).symm, m1, rfl⟩
    · go_wp2_with fail
      go_ret
      exact ⟨ret_int (findI_miss p xs (fun j h => hj.out j (by omega))).symm, m, rfl⟩

theorem containsFunc_int (fv v : Value) (D : Int → Prop) (p : Int → Bool) (xs : List Int) (w : World) (h : SI w v xs)
    (hf : FnP fv w D p) (hD : ∀ j, j < xs.length → D (gi xs j)) :
    Calls Tryz.prog 94 #[v, fv] w fun e w' => e = .returned (.bool (xs.any p)) ∧ ∃ m, w' = w.drewN m := by
  have HH := Lib.hid h; clear h
  have HD := Lib.hid hD; clear hD
  go_enter Tryz.func94, Tryz.ntmps94
  go_wp2_with fail
  refine (indexFunc_int fv v D p xs w HH.out hf HD.out).mono ?_
  rintro e w1 ⟨rfl, m1, rfl⟩
  have HZ := Lib.hid (findI_any p xs)
  go_wp2_with fail
  go_ret
  exact ⟨ret_bool HZ.out, m1, rfl⟩

/-- the first index of x, else -1 -/
theorem index_int (v : Value) (x : Int) (xs : List Int) (w : World) (h : SI w v xs) :
    Calls Tryz.prog 96 #[v, .int .i64 x] w fun e w' => e = .returned (.int .i64 (findI (fun y => x == y) xs)) ∧ ∃ m, w' = w.drewN m := by
  obtain ⟨a, cap, rfl, h1, h2, h3⟩ := h
  have H3 := Lib.hid h3; clear h3
  have hm : xs.length ≤ 9223372036854775807 := by unfold maxLen at h2; omega
  go_enter Tryz.func96, Tryz.ntmps96
  go_wp2
  go_loop [8] (fun i => ∃ k : Nat, k ≤ xs.length ∧ i = .int .i64 k ∧ Hid (∀ j, j < k → (x == gi xs j) = false)) (fun i => xs.length - (intOf i).toNat)
  case atStart => exact ⟨0, Nat.zero_le _, rfl, fun j hj => by omega⟩
  case round =>
    obtain ⟨k, hk, rfl, hj⟩ := hrel
    by_cases hlt : k < xs.length
    · obtain ⟨b, off, ha, hc⟩ := H3.out k hlt
      rw [ha]
      go_wp2_with fail
      · have hx : (x == gi xs k) = true := by simp_all
        go_ret
        exact ⟨ret_int (findI_hit _ xs k hlt hj.out hx).symm, 0, rfl⟩
      · have hx : (x == gi xs k) = false := by simp_all
        have HX := Lib.hid hx
        go_round
        case rel =>
          refine ⟨k+1, by omega, by go_num, ?_⟩
          intro j hjk
          by_cases e : j = k
          · subst e; exact HX.out
          · exact hj.out j (by omega)
        case measure => simp [intOf]; omega
    · go_wp2_with fail
      go_ret
      exact ⟨ret_int (findI_miss _ xs (fun j h => hj.out j (by omega))).symm, 0, rfl⟩

theorem contains_int (v : Value) (x : Int) (xs : List Int) (w : World) (h : SI w v xs) :
    Calls Tryz.prog 68 #[v, .int .i64 x] w fun e w' => e = .returned (.bool (xs.any fun y => x == y)) ∧ ∃ m, w' = w.drewN m := by
  have HH := Lib.hid h; clear h
  go_enter Tryz.func68, Tryz.ntmps68
  go_wp2_with fail
  refine (index_int v x xs w HH.out).mono ?_
  rintro e w1 ⟨rfl, m1, rfl⟩
  have HZ := Lib.hid (findI_any (fun y => x == y) xs)
  go_wp2_with fail
  go_ret
  exact ⟨ret_bool HZ.out, m1, rfl⟩
end Go.Proofs.YtehbnckdllbmgaaGreatDoor
