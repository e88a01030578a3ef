/- Contracts: slices.IndexFunc, slices.ContainsFunc over rows of integers. -/
import Derived.Test.YtpbmmdoodmbneaaGreatDoorLib
namespace Go.Proofs.YtpbmmdoodmbneaaGreatDoor
open Go.RowKit

/-- A function value that answers a predicate of one row. -/
def FnR (fv : Value) (W0 : World) (p : List Int → Bool) : Prop :=
  ∃ F caps, fv = .func (.func F) #[] caps ∧ (∀ args w, (callFunc F args).run Tryz.prog w = .ok (.enter F args) w) ∧
    ∀ v row n, SI W0 v row → Calls Tryz.prog F (#[v] ++ caps) (W0.drewN n) fun e w'' => e = .returned (.bool (p row)) ∧ ∃ m, w'' = W0.drewN m

def findR (p : List Int → Bool) (xs : List (List Int)) : Int := match xs.findIdx? p with | some i => i | none => -1
theorem findR_hit (p : List Int → Bool) (xs : List (List Int)) (k : Nat) (hk : k < xs.length) (h1 : ∀ j, j < k → p (ri xs j) = false) (h2 : p (ri xs k) = true) : findR p xs = k := by
  have : xs.findIdx? p = some k := by
    rw [List.findIdx?_eq_some_iff_getElem]
    refine ⟨hk, by rw [ri_lt hk] at h2; simpa using h2, fun j hj => ?_⟩
    have := h1 j hj
    rw [ri_lt (show j < xs.length by omega)] at this
    simp [this]
  simp [findR, this]
theorem findR_miss (p : List Int → Bool) (xs : List (List Int)) (h1 : ∀ j, j < xs.length → p (ri xs j) = false) : findR p xs = -1 := by
  have : xs.findIdx? p = none := by
    rw [List.findIdx?_eq_none_iff]
    intro x hx
    obtain ⟨j, hj, rfl⟩ := mem_ri hx
    exact h1 j hj
  simp [findR, this]
theorem findR_any (p : List Int → Bool) (xs : List (List Int)) : decide (0 ≤ findR p xs) = xs.any p := by
  rw [Bool.eq_iff_iff, decide_eq_true_eq]
  simp only [findR]
  cases hh : xs.findIdx? p with
  | none => rw [List.findIdx?_eq_none_iff] at hh; simp; intro x hx; simpa using hh x hx
  | some i => rw [List.findIdx?_eq_some_iff_getElem] at hh; obtain ⟨h1, h2, _⟩ := hh; simp; exact ⟨_, List.getElem_mem h1, h2⟩

set_option maxHeartbeats 400000 in
theorem indexFunc_row (fv v : Value) (p : List Int → Bool) (xs : List (List Int)) (w : World) (h : SS w v xs) (hf : FnR fv w p) :
    Calls Tryz.prog 81 #[v, fv] w fun e w' => e = .returned (.int .i64 (findR p xs)) ∧ ∃ m, w' = w.drewN m := by
  obtain ⟨F, caps, rfl, hcf, hf⟩ := hf
  obtain ⟨vs, ⟨a, cap, rfl, h1, h2, h3⟩, h4⟩ := h
  have HF := Lib.hid hf; clear hf
  have H3 := Lib.hid h3; clear h3
  have H4 := Lib.hid h4; clear h4
  have hm : xs.length ≤ 9223372036854775807 := by unfold maxLen at h2; omega
  go_enter Tryz.func81, Tryz.ntmps81
  go_wp2
  go_loopw [8] (fun i wr => ∃ k : Nat, k ≤ xs.length ∧ i = .int .i64 k ∧ (∃ m, wr = w.drewN m) ∧ Hid (∀ j, j < k → p (ri xs j) = false)) (fun i _ => xs.length - (intOf i).toNat)
  case atStart => exact ⟨0, Nat.zero_le _, rfl, ⟨0, rfl⟩, fun j hj => by omega⟩
  case round =>
    obtain ⟨k, hk, rfl, ⟨m, rfl⟩, hj⟩ := hrel
    by_cases hlt : k < xs.length
    · obtain ⟨b, off, ha, hc⟩ := H3.out k hlt
      rw [ha]
      go_wp2_with fail
      refine (HF.out _ (ri xs k) _ (H4.out k hlt)).mono ?_
      rintro e w1 ⟨rfl, _, rfl⟩
      generalize hx : p (ri xs k) = x
      have HX := Lib.hid hx; clear hx
      cases x
      · go_wp2_with fail
        go_roundw
        case rel =>
          refine ⟨k+1, by omega, by go_num, ⟨_, rfl⟩, ?_⟩
          intro j hjk
          by_cases e : j = k
          · subst e; exact HX.out
          · exact hj.out j (by omega)
        case measure => simp [intOf]; omega
      · go_wp2_with fail
        go_ret
        exact ⟨ret_int (findR_hit p xs k hlt hj.out HX.out).symm, _, rfl⟩
    · go_wp2_with fail
      go_ret
      exact ⟨ret_int (findR_miss p xs (fun j h => hj.out j (by omega))).symm, m, rfl⟩

theorem containsFunc_row (fv v : Value) (p : List Int → Bool) (xs : List (List Int)) (w : World) (h : SS w v xs) (hf : FnR fv w p) :
    Calls Tryz.prog 56 #[v, fv] w fun e w' => e = .returned (.bool (xs.any p)) ∧ ∃ m, w' = w.drewN m := by
  have HH := Lib.hid h; clear h
  go_enter Tryz.func56, Tryz.ntmps56
  go_wp2_with fail
  refine (indexFunc_row fv v p xs w HH.out hf).mono ?_
  rintro e w1 ⟨rfl, _, rfl⟩
  have HZ := Lib.hid (findR_any p xs)
  go_wp2_with fail
  go_ret
  exact ⟨ret_bool HZ.out, _, rfl⟩
end Go.Proofs.YtpbmmdoodmbneaaGreatDoor
