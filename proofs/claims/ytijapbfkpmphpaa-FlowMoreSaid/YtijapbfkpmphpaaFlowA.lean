/- Contracts: flow.check, flow.right and what they call; the reference's shop, has, distinct. -/
import Derived.Test.YtijapbfkpmphpaaLib
import Derived.Test.YtijapbfkpmphpaaFlowSpec
namespace Go.Proofs.Ytijapbfkpmphpaa
open Go.RowKit

/-- A function value that answers a predicate of one row. -/
def FnR (fv : Value) (W0 : World) (p : List Int → Bool) : Prop :=
  ∃ F caps, fv = .func (.func F) #[] caps ∧ (∀ args w, (callFunc F args).run Try.prog w = .ok (.enter F args) w) ∧
    ∀ v row n, SI W0 v row → Calls Try.prog F (#[v] ++ caps) (W0.drewN n) fun e w'' => e = .returned (.bool (p row)) ∧ ∃ m, w'' = W0.drewN m

def findR (p : List Int → Bool) (xs : List (List Int)) : Int := match xs.findIdx? p with | some i => i | none => -1
theorem findR_hit (p : List Int → Bool) (xs : List (List Int)) (k : Nat) (hk : k < xs.length) (h1 : ∀ j, j < k → p (ri xs j) = false) (h2 : p (ri xs k) = true) : findR p xs = k := by
  have : xs.findIdx? p = some k := by
    rw [List.findIdx?_eq_some_iff_getElem]
    refine ⟨hk, by rw [ri_lt hk] at h2; simpa using h2, fun j hj => ?_⟩
    have := h1 j hj
    rw [ri_lt (show j < xs.length by omega)] at this
    simp [this]
  simp [findR, this]
theorem findR_miss (p : List Int → Bool) (xs : List (List Int)) (h1 : ∀ j, j < xs.length → p (ri xs j) = false) : findR p xs = -1 := by
  have : xs.findIdx? p = none := by
    rw [List.findIdx?_eq_none_iff]
    intro x hx
    obtain ⟨j, hj, rfl⟩ := mem_ri hx
    exact h1 j hj
  simp [findR, this]
theorem findR_any (p : List Int → Bool) (xs : List (List Int)) : decide (0 ≤ findR p xs) = xs.any p := by
  rw [Bool.eq_iff_iff, decide_eq_true_eq]
  simp only [findR]
  cases hh : xs.findIdx? p with
  | none => rw [List.findIdx?_eq_none_iff] at hh; simp; intro x hx; simpa using hh x hx
  | some i => rw [List.findIdx?_eq_some_iff_getElem] at hh; obtain ⟨h1, h2, _⟩ := hh; simp; exact ⟨_, List.getElem_mem h1, h2⟩

set_option maxHeartbeats 400000 in
theorem indexFunc_row (fv v : Value) (p : List Int → Bool) (xs : List (List Int)) (w : World) (h : SS w v xs) (hf : FnR fv w p) :
    Calls Try.prog 55 #[v, fv] w fun e w' => e = .returned (.int .i64 (findR p xs)) ∧ ∃ m, w' = w.drewN m := by
  obtain ⟨F, caps, rfl, hcf, hf⟩ := hf
  obtain ⟨vs, ⟨a, cap, rfl, h1, h2, h3⟩, h4⟩ := h
  have HF := Lib.hid hf; clear hf
  have H3 := Lib.hid h3; clear h3
  have H4 := Lib.hid h4; clear h4
  have hm : xs.length ≤ 9223372036854775807 := by unfold maxLen at h2; omega
  go_enter Try.func55, Try.ntmps55
  go_wp2
  go_loopw [8] (fun i wr => ∃ k : Nat, k ≤ xs.length ∧ i = .int .i64 k ∧ (∃ m, wr = w.drewN m) ∧ Hid (∀ j, j < k → p (ri xs j) = false)) (fun i _ => xs.length - (intOf i).toNat)
  case atStart => exact ⟨0, Nat.zero_le _, rfl, ⟨0, rfl⟩, fun j hj => by omega⟩
  case round =>
    obtain ⟨k, hk, rfl, ⟨m, rfl⟩, hj⟩ := hrel
    by_cases hlt : k < xs.length
    · obtain ⟨b, off, ha, hc⟩ := H3.out k hlt
      rw [ha]
      go_wp2_with fail
      refine (HF.out _ (ri xs k) _ (H4.out k hlt)).mono ?_
      rintro e w1 ⟨rfl, _, rfl⟩
      generalize hx : p (ri xs k) = x
      have HX := Lib.hid hx; clear hx
      cases x
      · go_wp2_with fail
        go_roundw
        case rel =>
          refine ⟨k+1, by omega, by go_num, ⟨_, rfl⟩, ?_⟩
          intro j hjk
          by_cases e : j = k
          · subst e; exact HX.out
          · exact hj.out j (by omega)
        case measure => simp [intOf]; omega
      · go_wp2_with fail
        go_ret
        exact ⟨ret_int (findR_hit p xs k hlt hj.out HX.out).symm, _, rfl⟩
    · go_wp2_with fail
      go_ret
      exact ⟨ret_int (findR_miss p xs (fun j h => hj.out j (by omega))).symm, m, rfl⟩

theorem containsFunc_row (fv v : Value) (p : List Int → Bool) (xs : List (List Int)) (w : World) (h : SS w v xs) (hf : FnR fv w p) :
    Calls Try.prog 47 #[v, fv] w fun e w' => e = .returned (.bool (xs.any p)) ∧ ∃ m, w' = w.drewN m := by
  have HH := Lib.hid h; clear h
  go_enter Try.func47, Try.ntmps47
  go_wp2_with fail
  refine (indexFunc_row fv v p xs w HH.out hf).mono ?_
  rintro e w1 ⟨rfl, _, rfl⟩
  have HZ := Lib.hid (findR_any p xs)
  go_wp2_with fail
  go_ret
  exact ⟨ret_bool HZ.out, _, rfl⟩

theorem check1_any (v : Value) (row : List Int) (w : World) (h : SI w v row) : Calls Try.prog 48 #[v] w fun e w' => e = .returned (.bool (long8 row)) ∧ ∃ m, w' = w.drewN m := by
  obtain ⟨a, cap, rfl, h1, h2, h3⟩ := h
  have H3 := Lib.hid h3; clear h3
  have hm : row.length ≤ 9223372036854775807 := by unfold maxLen at h2; omega
  go_enter Try.func48, Try.ntmps48
  go_wp2_with fail
  go_ret
  exact ⟨ret_bool (by simp [long8]), 0, rfl⟩

theorem check2_any (n : Int) (w : World) : Calls Try.prog 50 #[.int .i64 n] w fun e w' => e = .returned (.bool (badNum n)) ∧ ∃ m, w' = w.drewN m := by
  go_enter Try.func50, Try.ntmps50
  go_wp2_with fail
  all_goals (go_ret; refine ⟨ret_bool ?_, 0, rfl⟩; simp [badNum])
  all_goals omega

theorem fnR_check1 (w : World) : FnR (.func (.func 48) #[] #[]) w long8 :=
  ⟨_, _, rfl, fun _ _ => rfl, fun v row n h => (check1_any v row (w.drewN n) (h.drewN n)).mono fun _ _ ⟨he, m, hm⟩ => ⟨he, n + m, by rw [hm, World.drewN_drewN]⟩⟩
theorem fnP_check2 (w : World) : FnP (.func (.func 50) #[] #[]) w (fun _ => True) badNum :=
  ⟨_, _, rfl, fun _ _ => rfl, fun x n _ => (check2_any x (w.drewN n)).mono fun _ _ ⟨he, m, hm⟩ => ⟨he, n + m, by rw [hm, World.drewN_drewN]⟩⟩

set_option maxHeartbeats 1000000 in
theorem check_any (v : Value) (p : List (List Int)) (w : World) (h : SS w v p) :
    Calls Try.prog 27 #[v] w fun e w' => e = .returned (.int .i64 (checkE p)) ∧ ∃ m, w' = w.drewN m := by
  have HH := Lib.hid h
  obtain ⟨vs, ⟨a, cap, rfl, h1, h2, h3⟩, h4⟩ := h
  have H3 := Lib.hid h3; clear h3
  have H4 := Lib.hid h4; clear h4
  have hm : p.length ≤ 9223372036854775807 := by unfold maxLen at h2; omega
  by_cases hL : 32 < p.length
  · go_enter Try.func27, Try.ntmps27
    go_wp2_with fail
    go_ret
    exact ⟨ret_int (checkE_long hL).symm, 0, rfl⟩
  have hL' : decide (32 < (p.length : Int)) = false := by simp; omega
  go_enter Try.func27, Try.ntmps27
  go_wp2_with fail
  refine (containsFunc_row _ _ long8 p w HH.out (fnR_check1 w)).mono ?_
  rintro e w1 ⟨rfl, m0, rfl⟩
  generalize hx : p.any long8 = x
  have HX := Lib.hid hx; clear hx
  cases x
  rotate_left
  · go_wp2_with fail
    go_ret
    exact ⟨ret_int (checkE_long8 HX.out).symm, m0, rfl⟩
  go_wp2_with fail
  go_loopw [16] (fun i wr => ∃ k : Nat, k ≤ p.length ∧ i = .int .i64 k ∧ (∃ m, wr = w.drewN m) ∧ Hid (∀ j, j < k → badRow (ri p 0).length (ri p j) = false)) (fun i _ => p.length - (intOf i).toNat)
  case atStart => exact ⟨0, Nat.zero_le _, rfl, ⟨m0, rfl⟩, fun j hj => by omega⟩
  case round =>
    obtain ⟨k, hk, rfl, ⟨m, rfl⟩, hj⟩ := hrel
    by_cases hlt : k < p.length
    · have hz : 0 < p.length := by omega
      obtain ⟨b, off, ha, hcs⟩ := Sl.at H3.out hlt
      have hc0 := hcs 0 hz
      have hc := hcs k hlt
      clear hcs
      rw [Nat.add_zero] at hc0
      obtain ⟨ak, capk, ek, _, m1, _⟩ := H4.out k hlt
      obtain ⟨a0, cap0, e0, _, m2, _⟩ := H4.out 0 hz
      rw [ek] at hc
      rw [e0] at hc0
      clear ek e0
      generalize hn0 : (ri p 0).length = n0 at *
      generalize hnk : (ri p k).length = nk at *
      have HN0 := Lib.hid hn0; clear hn0
      have HNk := Lib.hid hnk; clear hnk
      rw [ha]
      by_cases c1 : nk = 0
      · have hz' : ((nk : Int) == 0) = true := by simp; omega
        have C1 := Lib.hid c1; clear c1
        go_wp2_with fail
        go_ret
        exact ⟨ret_int (checkE_shape hL HX.out (any_ri_true hlt (badRow_zero (HNk.out.trans C1.out)))).symm, m, rfl⟩
      · have hz' : ((nk : Int) == 0) = false := by simp; omega
        by_cases c2 : nk = n0
        · have hz2 : ((nk : Int) != (n0 : Int)) = false := by simp; omega
          have C2 := Lib.hid c2; clear c2
          have C1 := Lib.hid c1; clear c1
          go_wp2_with fail
          go_roundw
          case rel =>
            refine ⟨k+1, by omega, by go_num, ⟨m, rfl⟩, ?_⟩
            intro j hjk
            by_cases e : j = k
            · subst e; exact badRow_ok (by rw [HNk.out]; exact C1.out) (HNk.out.trans C2.out)
            · exact hj.out j (by omega)
          case measure => simp [intOf]; omega
        · have hz2 : ((nk : Int) != (n0 : Int)) = true := by simp; omega
          have C2 := Lib.hid c2; clear c2
          have C1 := Lib.hid c1; clear c1
          go_wp2_with fail
          go_ret
          exact ⟨ret_int (checkE_shape hL HX.out (any_ri_true hlt (badRow_ne (by rw [HNk.out, HN0.out]; exact C2.out)))).symm, m, rfl⟩
    · have HS := Lib.hid (any_ri_false (p := p) (f := badRow (ri p 0).length) (fun j h => hj.out j (by omega)))
      go_wp2_with fail
      go_loopw [35] (fun i wr => ∃ k : Nat, k ≤ p.length ∧ i = .int .i64 k ∧ (∃ m, wr = w.drewN m) ∧ Hid (∀ j, j < k → (ri p j).any badNum = false)) (fun i _ => p.length - (intOf i).toNat)
      case atStart => exact ⟨0, Nat.zero_le _, rfl, ⟨m, rfl⟩, fun j hj => by omega⟩
      case round =>
        obtain ⟨k, hk, rfl, ⟨m, rfl⟩, hj⟩ := hrel
        by_cases hlt : k < p.length
        · obtain ⟨b, off, ha, hc⟩ := H3.out k hlt
          rw [ha]
          go_wp2_with fail
          refine (containsFunc_int _ _ _ badNum _ _ ((H4.out k hlt).drewN _) (fnP_check2 _) (fun _ _ => trivial)).mono ?_
          rintro e w1 ⟨rfl, _, rfl⟩
          generalize hx : (ri p k).any badNum = x
          have HX2 := Lib.hid hx; clear hx
          cases x
          · go_wp2_with fail
            go_roundw
            case rel =>
              refine ⟨k+1, by omega, by go_num, ⟨_, rfl⟩, ?_⟩
              intro j hjk
              by_cases e : j = k
              · subst e; exact HX2.out
              · exact hj.out j (by omega)
            case measure => simp [intOf]; omega
          · go_wp2_with fail
            go_ret
            exact ⟨ret_int (checkE_range hL HX.out HS.out (any_ri_true (f := fun r => r.any badNum) hlt HX2.out)).symm, _, rfl⟩
        · have HT := Lib.hid (any_ri_false (p := p) (f := fun r => r.any badNum) (fun j h => hj.out j (by omega)))
          go_wp2_with fail
          go_ret
          exact ⟨ret_int (checkE_ok hL HX.out HS.out HT.out).symm, m, rfl⟩
end Go.Proofs.Ytijapbfkpmphpaa
