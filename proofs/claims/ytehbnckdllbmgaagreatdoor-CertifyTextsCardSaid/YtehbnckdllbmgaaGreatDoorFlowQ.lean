/- Contracts: Best of flow and of the reference. -/
import Derived.Test.YtehbnckdllbmgaaGreatDoorLib
import Derived.Test.YtehbnckdllbmgaaGreatDoorFlowSpec
import Derived.Test.YtehbnckdllbmgaaGreatDoorOwn
import Derived.StillTailTactics
import Derived.Test.YtehbnckdllbmgaaGreatDoorFlowSpec2
import Derived.Test.YtehbnckdllbmgaaGreatDoorApp
import Derived.Deep.RegionHeld3
import Derived.Laws.EntriesVeiled
set_option linter.unusedSimpArgs false
set_option linter.unusedVariables false

/- Contracts: flow.check, flow.right and what they call; the reference's shop, has, distinct. -/
namespace Go.Proofs.YtehbnckdllbmgaaGreatDoor
open Go.RowKit

/-- A function value that answers a predicate of one row. -/
def FnR (fv : Value) (W0 : World) (p : List Int → Bool) : Prop :=
  ∃ F caps, fv = .func (.func F) #[] caps ∧ (∀ args w, (callFunc F args).run Tryz.prog w = .ok (.enter F args) w) ∧
    ∀ v row n, SI W0 v row → Calls Tryz.prog F (#[v] ++ caps) (W0.drewN n) fun e w'' => e = .returned (.bool (p row)) ∧ ∃ m, w'' = W0.drewN m

def findR (p : List Int → Bool) (xs : List (List Int)) : Int := match xs.findIdx? p with | some i => i | none => -1
theorem findR_hit (p : List Int → Bool) (xs : List (List Int)) (k : Nat) (hk : k < xs.length) (h1 : ∀ j, j < k → p (ri xs j) = false) (h2 : p (ri xs k) = true) : findR p xs = k := by
  have : xs.findIdx? p = some k := by
    rw [List.findIdx?_eq_some_iff_getElem]
    refine ⟨hk, by rw [ri_lt hk] at h2; simpa using h2, fun j hj => ?_⟩
    have := h1 j hj
    rw [ri_lt (show j < xs.length by omega)] at this
    simp [this]
  simp [findR, this]
theorem findR_miss (p : List Int → Bool) (xs : List (List Int)) (h1 : ∀ j, j < xs.length → p (ri xs j) = false) : findR p xs = -1 := by
  have : xs.findIdx? p = none := by
    rw [List.findIdx?_eq_none_iff]
    intro x hx
    obtain ⟨j, hj, rfl⟩ := mem_ri hx
    exact h1 j hj
  simp [findR, this]
theorem findR_any (p : List Int → Bool) (xs : List (List Int)) : decide (0 ≤ findR p xs) = xs.any p := by
  rw [Bool.eq_iff_iff, decide_eq_true_eq]
  simp only [findR]
  cases hh : xs.findIdx? p with
  | none => rw [List.findIdx?_eq_none_iff] at hh; simp; intro x hx; simpa using hh x hx
  | some i => rw [List.findIdx?_eq_some_iff_getElem] at hh; obtain ⟨h1, h2, _⟩ := hh; simp; exact ⟨_, List.getElem_mem h1, h2⟩

set_option maxHeartbeats 400000 in
theorem indexFunc_row (fv v : Value) (p : List Int → Bool) (xs : List (List Int)) (w : World) (h : SS w v xs) (hf : FnR fv w p) :
    Calls Tryz.prog 121 #[v, fv] w fun e w' => e = .returned (.int .i64 (findR p xs)) ∧ ∃ m, w' = w.drewN m := by
  obtain ⟨F, caps, rfl, hcf, hf⟩ := hf
  obtain ⟨vs, ⟨a, cap, rfl, h1, h2, h3⟩, h4⟩ := h
  have HF := Lib.hid hf; clear hf
  have H3 := Lib.hid h3; clear h3
  have H4 := Lib.hid h4; clear h4
  have hm : xs.length ≤ 9223372036854775807 := by unfold maxLen at h2; omega
  go_enter Tryz.func121, Tryz.ntmps121
  go_wp2
  go_loopw [8] (fun i wr => ∃ k : Nat, k ≤ xs.length ∧ i = .int .i64 k ∧ (∃ m, wr = w.drewN m) ∧ Hid (∀ j, j < k → p (ri xs j) = false)) (fun i _ => xs.length - (intOf i).toNat)
  case atStart => exact ⟨0, Nat.zero_le _, rfl, ⟨0, rfl⟩, fun j hj => by omega⟩
  case round =>
    obtain ⟨k, hk, rfl, ⟨m, rfl⟩, hj⟩ := hrel
    by_cases hlt : k < xs.length
    · obtain ⟨b, off, ha, hc⟩ := H3.out k hlt
      rw [ha]
      go_wp2_with fail
      refine (HF.out _ (ri xs k) _ (H4.out k hlt)).mono ?_
      rintro e w1 ⟨rfl, _, rfl⟩
      generalize hx : p (ri xs k) = x
      have HX := Lib.hid hx; clear hx
      cases x
      · go_wp2_with fail
        go_roundw
        case rel =>
          refine ⟨k+1, by omega, by go_num, ⟨_, rfl⟩, ?_⟩
          intro j hjk
          by_cases e : j = k
          · subst e; exact HX.out
          · exact hj.out j (by omega)
        case measure => simp [intOf]; omega
      · go_wp2_with fail
        go_ret
        exact ⟨ret_int (findR_hit p xs k hlt hj.out HX.out).symm, _, rfl⟩
    · go_wp2_with fail
      go_ret
      exact ⟨ret_int (findR_miss p xs (fun j h => hj.out j (by omega))).symm, m, rfl⟩

theorem containsFunc_row (fv v : Value) (p : List Int → Bool) (xs : List (List Int)) (w : World) (h : SS w v xs) (hf : FnR fv w p) :
    Calls Tryz.prog 92 #[v, fv] w fun e w' => e = .returned (.bool (xs.any p)) ∧ ∃ m, w' = w.drewN m := by
  have HH := Lib.hid h; clear h
  go_enter Tryz.func92, Tryz.ntmps92
  go_wp2_with fail
  refine (indexFunc_row fv v p xs w HH.out hf).mono ?_
  rintro e w1 ⟨rfl, _, rfl⟩
  have HZ := Lib.hid (findR_any p xs)
  go_wp2_with fail
  go_ret
  exact ⟨ret_bool HZ.out, _, rfl⟩

theorem check1_any (v : Value) (row : List Int) (w : World) (h : SI w v row) : Calls Tryz.prog 93 #[v] w fun e w' => e = .returned (.bool (long8 row)) ∧ ∃ m, w' = w.drewN m := by
  obtain ⟨a, cap, rfl, h1, h2, h3⟩ := h
  have H3 := Lib.hid h3; clear h3
  have hm : row.length ≤ 9223372036854775807 := by unfold maxLen at h2; omega
  go_enter Tryz.func93, Tryz.ntmps93
  go_wp2_with fail
  go_ret
  exact ⟨ret_bool (by simp [long8]), 0, rfl⟩

theorem check2_any (n : Int) (w : World) : Calls Tryz.prog 95 #[.int .i64 n] w fun e w' => e = .returned (.bool (badNum n)) ∧ ∃ m, w' = w.drewN m := by
  go_enter Tryz.func95, Tryz.ntmps95
  go_wp2_with fail
  all_goals (go_ret; refine ⟨ret_bool ?_, 0, rfl⟩; simp [badNum])
  all_goals omega

set_option maxRecDepth 100000 in
theorem fnR_check1 (w : World) : FnR (.func (.func 93) #[] #[]) w long8 :=
  ⟨_, _, rfl, fun _ _ => rfl, fun v row n h => (check1_any v row (w.drewN n) (h.drewN n)).mono fun _ _ ⟨he, m, hm⟩ => ⟨he, n + m, by rw [hm, World.drewN_drewN]⟩⟩
set_option maxRecDepth 100000 in
theorem fnP_check2 (w : World) : FnP (.func (.func 95) #[] #[]) w (fun _ => True) badNum :=
  ⟨_, _, rfl, fun _ _ => rfl, fun x n _ => (check2_any x (w.drewN n)).mono fun _ _ ⟨he, m, hm⟩ => ⟨he, n + m, by rw [hm, World.drewN_drewN]⟩⟩

set_option maxHeartbeats 1000000 in
theorem check_any (v : Value) (p : List (List Int)) (w : World) (h : SS w v p) :
    Calls Tryz.prog 63 #[v] w fun e w' => e = .returned (.int .i64 (checkE p)) ∧ ∃ m, w' = w.drewN m := by
  have HH := Lib.hid h
  obtain ⟨vs, ⟨a, cap, rfl, h1, h2, h3⟩, h4⟩ := h
  have H3 := Lib.hid h3; clear h3
  have H4 := Lib.hid h4; clear h4
  have hm : p.length ≤ 9223372036854775807 := by unfold maxLen at h2; omega
  by_cases hL : 32 < p.length
  · go_enter Tryz.func63, Tryz.ntmps63
    go_wp2_with fail
    go_ret
    exact ⟨ret_int (checkE_long hL).symm, 0, rfl⟩
  have hL' : decide (32 < (p.length : Int)) = false := by simp; omega
  go_enter Tryz.func63, Tryz.ntmps63
  go_wp2_with fail
  refine (containsFunc_row _ _ long8 p w HH.out (fnR_check1 w)).mono ?_
  rintro e w1 ⟨rfl, m0, rfl⟩
  generalize hx : p.any long8 = x
  have HX := Lib.hid hx; clear hx
  cases x
  rotate_left
  · go_wp2_with fail
    go_ret
    exact ⟨ret_int (checkE_long8 HX.out).symm, m0, rfl⟩
  go_wp2_with fail
  go_loopw [16] (fun i wr => ∃ k : Nat, k ≤ p.length ∧ i = .int .i64 k ∧ (∃ m, wr = w.drewN m) ∧ Hid (∀ j, j < k → badRow (ri p 0).length (ri p j) = false)) (fun i _ => p.length - (intOf i).toNat)
  case atStart => exact ⟨0, Nat.zero_le _, rfl, ⟨m0, rfl⟩, fun j hj => by omega⟩
  case round =>
    obtain ⟨k, hk, rfl, ⟨m, rfl⟩, hj⟩ := hrel
    by_cases hlt : k < p.length
    · have hz : 0 < p.length := by omega
      obtain ⟨b, off, ha, hcs⟩ := Sl.at H3.out hlt
      have hc0 := hcs 0 hz
      have hc := hcs k hlt
      clear hcs
      rw [Nat.add_zero] at hc0
      obtain ⟨ak, capk, ek, _, m1, _⟩ := H4.out k hlt
      obtain ⟨a0, cap0, e0, _, m2, _⟩ := H4.out 0 hz
      rw [ek] at hc
      rw [e0] at hc0
      clear ek e0
      generalize hn0 : (ri p 0).length = n0 at *
      generalize hnk : (ri p k).length = nk at *
      have HN0 := Lib.hid hn0; clear hn0
      have HNk := Lib.hid hnk; clear hnk
      rw [ha]
      by_cases c1 : nk = 0
      · have hz' : ((nk : Int) == 0) = true := by simp; omega
        have C1 := Lib.hid c1; clear c1
        go_wp2_with fail
        go_ret
        exact ⟨ret_int (checkE_shape hL HX.out (any_ri_true hlt (badRow_zero (HNk.out.trans C1.out)))).symm, m, rfl⟩
      · have hz' : ((nk : Int) == 0) = false := by simp; omega
        by_cases c2 : nk = n0
        · have hz2 : ((nk : Int) != (n0 : Int)) = false := by simp; omega
          have C2 := Lib.hid c2; clear c2
          have C1 := Lib.hid c1; clear c1
          go_wp2_with fail
          go_roundw
          case rel =>
            refine ⟨k+1, by omega, by go_num, ⟨m, rfl⟩, ?_⟩
            intro j hjk
            by_cases e : j = k
            · subst e; exact badRow_ok (by rw [HNk.out]; exact C1.out) (HNk.out.trans C2.out)
            · exact hj.out j (by omega)
          case measure => simp [intOf]; omega
        · have hz2 : ((nk : Int) != (n0 : Int)) = true := by simp; omega
          have C2 := Lib.hid c2; clear c2
          have C1 := Lib.hid c1; clear c1
          go_wp2_with fail
          go_ret
          exact ⟨ret_int (checkE_shape hL HX.out (any_ri_true hlt (badRow_ne (by rw [HNk.out, HN0.out]; exact C2.out)))).symm, m, rfl⟩
    · have HS := Lib.hid (any_ri_false (p := p) (f := badRow (ri p 0).length) (fun j h => hj.out j (by omega)))
      go_wp2_with fail
      go_loopw [35] (fun i wr => ∃ k : Nat, k ≤ p.length ∧ i = .int .i64 k ∧ (∃ m, wr = w.drewN m) ∧ Hid (∀ j, j < k → (ri p j).any badNum = false)) (fun i _ => p.length - (intOf i).toNat)
      case atStart => exact ⟨0, Nat.zero_le _, rfl, ⟨m, rfl⟩, fun j hj => by omega⟩
      case round =>
        obtain ⟨k, hk, rfl, ⟨m, rfl⟩, hj⟩ := hrel
        by_cases hlt : k < p.length
        · obtain ⟨b, off, ha, hc⟩ := H3.out k hlt
          rw [ha]
          go_wp2_with fail
          refine (containsFunc_int _ _ _ badNum _ _ ((H4.out k hlt).drewN _) (fnP_check2 _) (fun _ _ => trivial)).mono ?_
          rintro e w1 ⟨rfl, _, rfl⟩
          generalize hx : (ri p k).any badNum = x
          have HX2 := Lib.hid hx; clear hx
          cases x
          · go_wp2_with fail
            go_roundw
            case rel =>
              refine ⟨k+1, by omega, by go_num, ⟨_, rfl⟩, ?_⟩
              intro j hjk
              by_cases e : j = k
              · subst e; exact HX2.out
              · exact hj.out j (by omega)
            case measure => simp [intOf]; omega
          · go_wp2_with fail
            go_ret
            exact ⟨ret_int (checkE_range hL HX.out HS.out (any_ri_true (f := fun r => r.any badNum) hlt HX2.out)).symm, _, rfl⟩
        · have HT := Lib.hid (any_ri_false (p := p) (f := fun r => r.any badNum) (fun j h => hj.out j (by omega)))
          go_wp2_with fail
          go_ret
          exact ⟨ret_int (checkE_ok hL HX.out HS.out HT.out).symm, m, rfl⟩
end Go.Proofs.YtehbnckdllbmgaaGreatDoor

/- Contracts: flow.right; the reference's shop, has, distinct. -/
namespace Go.Proofs.YtehbnckdllbmgaaGreatDoor
open Go.RowKit

set_option maxHeartbeats 400000 in
theorem right_any (v u : Value) (p : List (List Int)) (l : List Int) (w : World) (h : SS w v p) (g : SI w u l) :
    Calls Tryz.prog 73 #[v, u] w fun e w' => e = .returned (.bool (rightB p.length l)) ∧ ∃ m, w' = w.drewN m := by
  obtain ⟨vs, ⟨a, cap, rfl, h1, h2, h3⟩, h4⟩ := h
  have G := Lib.hid g
  obtain ⟨a', cap', rfl, g1, g2, g3⟩ := g
  have G3 := Lib.hid g3; clear g3 h3 h4
  have hm : p.length ≤ 9223372036854775807 := by unfold maxLen at h2; omega
  have hm' : l.length ≤ 9223372036854775807 := by unfold maxLen at g2; omega
  go_enter Tryz.func73, Tryz.ntmps73
  go_wp2_with fail
  go_loopw [9] (fun i wr => ∃ k : Nat, k ≤ l.length ∧ i = .int .i64 k ∧ (∃ m, wr = w.drewN m) ∧ Hid (∀ j, j < k → badJob p.length l j = false)) (fun i _ => l.length - (intOf i).toNat)
  case atStart => exact ⟨0, Nat.zero_le _, rfl, ⟨0, rfl⟩, fun j hj => by omega⟩
  case round =>
    obtain ⟨k, hk, rfl, ⟨m, rfl⟩, hj⟩ := hrel
    by_cases hlt : k < l.length
    · obtain ⟨b, off, ha, hc⟩ := G3.out k hlt
      rw [ha]
      have GT := SI.take (w := w) (cap := cap') (xs := l) (a := some ⟨b, off, none⟩) (k := k) (by rw [← ha]; exact G.out) (by omega)
      generalize hx : gi l k = x at *
      have HX := Lib.hid hx; clear hx ha
      have bad : ∀ c, badJob p.length l k = c → Hid (badJob p.length l k = c) := fun _ h => h
      have e0 : badJob p.length l k = (decide (x < 0) || decide ((p.length : Int) ≤ x) || (l.take k).any (fun y => x == y)) := by rw [← HX.out]; rfl
      have E0 := Lib.hid e0; clear e0 bad
      by_cases c1 : x < 0
      · have C1 := Lib.hid c1
        go_wp2_with fail
        go_ret
        exact ⟨ret_bool (rightB_bad hlt (by rw [E0.out]; simp [C1.out])).symm, _, rfl⟩
      by_cases c2 : (p.length : Int) ≤ x
      · have C2 := Lib.hid c2
        go_wp2_with fail
        go_ret
        exact ⟨ret_bool (rightB_bad hlt (by rw [E0.out]; simp [C2.out])).symm, _, rfl⟩
      go_wp2_with fail
      refine (contains_int _ _ _ _ (GT.drewN _)).mono ?_
      rintro e w1 ⟨rfl, m1, rfl⟩
      generalize hy : ((l.take k).any fun y => x == y) = y at *
      have HY := Lib.hid hy; clear hy
      cases y
      · go_wp2_with fail
        go_roundw
        case rel => exact ⟨k+1, by omega, by go_num, ⟨_, rfl⟩, upto hj.out (by rw [E0.out]; simp; omega)⟩
        case measure => simp [intOf]; omega
      · go_wp2_with fail
        go_ret
        exact ⟨ret_bool (rightB_bad hlt (by rw [E0.out]; simp)).symm, _, rfl⟩
    · go_wp2_with fail
      go_ret
      exact ⟨ret_bool (rightB_good (fun j h => hj.out j (by omega))).symm, _, rfl⟩

theorem has_any (v : Value) (x : Int) (l : List Int) (w : World) (h : SI w v l) :
    Calls Tryz.prog 97 #[v, .int .i64 x] w fun e w' => e = .returned (.bool (l.any fun y => x == y)) ∧ ∃ m, w' = w.drewN m := by
  obtain ⟨a, cap, rfl, h1, h2, h3⟩ := h
  have H3 := Lib.hid h3; clear h3
  have hm : l.length ≤ 9223372036854775807 := by unfold maxLen at h2; omega
  go_enter Tryz.func97, Tryz.ntmps97
  go_wp2_with fail
  go_loop [5] (fun i => ∃ k : Nat, k ≤ l.length ∧ i = .int .i64 k ∧ Hid (∀ j, j < k → (x == gi l j) = false)) (fun i => l.length - (intOf i).toNat)
  case atStart => exact ⟨0, Nat.zero_le _, rfl, fun j hj => by omega⟩
  case round =>
    obtain ⟨k, hk, rfl, hj⟩ := hrel
    by_cases hlt : k < l.length
    · obtain ⟨b, off, ha, hc⟩ := H3.out k hlt
      rw [ha]
      generalize hy : (gi l k == x) = y
      have HY := Lib.hid hy
      have HZ := Lib.hid (show (x == gi l k) = y by rw [← hy, Bool.eq_iff_iff]; simp only [beq_iff_eq]; exact eq_comm)
      cases y
      · go_wp2_with fail
        go_round
        case rel => exact ⟨k+1, by omega, by go_num, upto hj.out HZ.out⟩
        case measure => simp [intOf]; omega
      · go_wp2_with fail
        go_ret
        exact ⟨ret_bool (any_gi_true (f := fun y => x == y) hlt HZ.out).symm, 0, rfl⟩
    · go_wp2_with fail
      go_ret
      exact ⟨ret_bool (any_gi_false (f := fun y => x == y) (fun j h => hj.out j (by omega))).symm, 0, rfl⟩
end Go.Proofs.YtehbnckdllbmgaaGreatDoor

/- Contracts: the reference's shop, distinct. -/
namespace Go.Proofs.YtehbnckdllbmgaaGreatDoor
open Go.RowKit

set_option maxHeartbeats 1000000 in
theorem distinct_any (v u : Value) (p : List (List Int)) (l : List Int) (w : World) (h : SS w v p) (g : SI w u l) :
    Calls Tryz.prog 71 #[v, u] w fun e w' => e = .returned (.bool (rightB p.length l)) ∧ ∃ m, w' = w.drewN m := by
  obtain ⟨vs, ⟨a, cap, rfl, h1, h2, h3⟩, h4⟩ := h
  have G := Lib.hid g
  obtain ⟨a', cap', rfl, g1, g2, g3⟩ := g
  have G3 := Lib.hid g3; clear g3 h3 h4
  have hm : p.length ≤ 9223372036854775807 := by unfold maxLen at h2; omega
  have hm' : l.length ≤ 9223372036854775807 := by unfold maxLen at g2; omega
  go_enter Tryz.func71, Tryz.ntmps71
  go_wp2_with fail
  go_loopw [5] (fun i wr => ∃ k : Nat, k ≤ l.length ∧ i = .int .i64 k ∧ (∃ m, wr = w.drewN m) ∧ Hid (∀ j, j < k → badJob p.length l j = false)) (fun i _ => l.length - (intOf i).toNat)
  case atStart => exact ⟨0, Nat.zero_le _, rfl, ⟨0, rfl⟩, fun j hj => by omega⟩
  case round =>
    obtain ⟨k, hk, rfl, ⟨m, rfl⟩, hj⟩ := hrel
    by_cases hlt : k < l.length
    · obtain ⟨b, off, ha, hc⟩ := G3.out k hlt
      rw [ha]
      have GT := (SI.take (w := w) (cap := cap') (xs := l) (a := some ⟨b, off, none⟩) (k := k) (by rw [← ha]; exact G.out) (by omega))
      generalize hx : gi l k = x at *
      have HX := Lib.hid hx; clear hx ha
      have e0 : badJob p.length l k = (decide (x < 0) || decide ((p.length : Int) ≤ x) || (l.take k).any (fun y => x == y)) := by rw [← HX.out]; rfl
      have E0 := Lib.hid e0; clear e0
      have i1 : (0 : Int) ≤ k := by omega
      have i2 : (k : Int) < l.length := by omega
      by_cases c1 : x < 0
      · have C1 : decide (x < 0) = true := by simpa using c1
        clear c1
        go_wp2_with fail
        go_quiet (fail)
        go_wp2_with fail
        go_ret
        exact ⟨ret_bool (rightB_bad hlt (by rw [E0.out]; simp [C1])).symm, (by first | exact ⟨_, rfl⟩ | exact dn2 _ _ _)⟩
      have C1 : decide (x < 0) = false := by simpa using c1
      by_cases c2 : (p.length : Int) ≤ x
      · have C2 : decide ((p.length : Int) ≤ x) = true := by simpa using c2
        clear c1 c2
        go_wp2_with fail
        go_quiet (fail)
        go_wp2_with fail
        go_ret
        exact ⟨ret_bool (rightB_bad hlt (by rw [E0.out]; simp [C2])).symm, (by first | exact ⟨_, rfl⟩ | exact dn2 _ _ _)⟩
      have C2 : decide ((p.length : Int) ≤ x) = false := by simpa using c2
      clear c1 c2
      go_wp2_with fail
      go_quiet ((go_at_call 97; exact quiet_dd (has_any _ _ _ _ (GT.drewN _))))
      generalize hy : ((l.take k).any fun y => x == y) = y at *
      have HY := Lib.hid hy; clear hy
      cases y
      · go_wp2_with fail
        go_roundw
        case rel => exact ⟨k+1, by omega, by go_num, (by first | exact ⟨_, rfl⟩ | exact dn2 _ _ _), upto hj.out (by rw [E0.out, C1, C2]; rfl)⟩
        case measure => simp [intOf]; omega
      · go_wp2_with fail
        go_ret
        exact ⟨ret_bool (rightB_bad hlt (by rw [E0.out]; simp)).symm, (by first | exact ⟨_, rfl⟩ | exact dn2 _ _ _)⟩
    · go_wp2_with fail
      go_ret
      exact ⟨ret_bool (rightB_good (fun j h => hj.out j (by omega))).symm, (by first | exact ⟨_, rfl⟩ | exact dn2 _ _ _)⟩

set_option maxHeartbeats 2000000 in
theorem shop_any (v : Value) (p : List (List Int)) (w : World) (h : SS w v p) :
    Calls Tryz.prog 70 #[v] w fun e w' => e = .returned (.int .i64 (checkE p)) ∧ ∃ m, w' = w.drewN m := by
  obtain ⟨vs, ⟨a, cap, rfl, h1, h2, h3⟩, h4⟩ := h
  have H3 := Lib.hid h3; clear h3
  have H4 := Lib.hid h4; clear h4
  have hm : p.length ≤ 9223372036854775807 := by unfold maxLen at h2; omega
  by_cases hL : 32 < p.length
  · go_enter Tryz.func70, Tryz.ntmps70
    go_wp2_with fail
    go_ret
    exact ⟨ret_int (checkE_long hL).symm, 0, rfl⟩
  have hL' : decide (32 < (p.length : Int)) = false := by simp; omega
  go_enter Tryz.func70, Tryz.ntmps70
  go_wp2_with fail
  go_loop [3] (fun i => ∃ k : Nat, k ≤ p.length ∧ i = .int .i64 k ∧ Hid (∀ j, j < k → long8 (ri p j) = false)) (fun i => p.length - (intOf i).toNat)
  case atStart => exact ⟨0, Nat.zero_le _, rfl, fun j hj => by omega⟩
  case round =>
    obtain ⟨k, hk, rfl, hj⟩ := hrel
    by_cases hlt : k < p.length
    · obtain ⟨b, off, ha, hc⟩ := H3.out k hlt
      obtain ⟨ak, capk, ek, _, m1, _⟩ := H4.out k hlt
      rw [ek] at hc
      clear ek
      have e0 : long8 (ri p k) = decide (8 < ((ri p k).length : Int)) := rfl
      generalize (ri p k).length = nk at *
      have E0 := Lib.hid e0; clear e0
      rw [ha]
      by_cases c1 : 8 < (nk : Int)
      · go_wp2_with fail
        go_ret
        exact ⟨ret_int (checkE_long8 (any_ri_true hlt (by rw [E0.out]; simpa using c1))).symm, 0, rfl⟩
      · go_wp2_with fail
        go_round
        case rel => exact ⟨k+1, by omega, by go_num, upto hj.out (by rw [E0.out]; simpa using c1)⟩
        case measure => simp [intOf]; omega
    · have HX := Lib.hid (any_ri_false (p := p) (f := long8) (fun j h => hj.out j (by omega)))
      clear hj
      go_wp2_with fail
      go_loopw [4] (fun i wr => ∃ k : Nat, k ≤ p.length ∧ i = .int .i64 k ∧ (∃ m, wr = w.drewN m) ∧ Hid (∀ j, j < k → badRow (ri p 0).length (ri p j) = false)) (fun i _ => p.length - (intOf i).toNat)
      case atStart => exact ⟨0, Nat.zero_le _, rfl, ⟨0, rfl⟩, fun j hj => by omega⟩
      case round =>
        obtain ⟨k, hk, rfl, ⟨m, rfl⟩, hj⟩ := hrel
        by_cases hlt : k < p.length
        · have hz : 0 < p.length := by omega
          obtain ⟨b, off, ha, hcs⟩ := Sl.at H3.out hlt
          have hc0 := hcs 0 hz
          have hc := hcs k hlt
          clear hcs
          rw [Nat.add_zero] at hc0
          obtain ⟨ak, capk, ek, _, m1, _⟩ := H4.out k hlt
          obtain ⟨a0, cap0, e0, _, m2, _⟩ := H4.out 0 hz
          rw [ek] at hc
          rw [e0] at hc0
          clear ek e0
          generalize hn0 : (ri p 0).length = n0 at *
          generalize hnk : (ri p k).length = nk at *
          have HN0 := Lib.hid hn0; clear hn0
          have HNk := Lib.hid hnk; clear hnk
          rw [ha]
          have i1 : (0 : Int) ≤ k := by omega
          have i2 : (k : Int) < p.length := by omega
          by_cases c1 : nk = 0
          · have hz' : ((nk : Int) == 0) = true := by simp; omega
            have C1 := Lib.hid c1; clear c1
            go_wp2_with fail
            go_quiet (fail)
            go_wp2_with fail
            go_ret
            exact ⟨ret_int (checkE_shape hL HX.out (any_ri_true hlt (badRow_zero (HNk.out.trans C1.out)))).symm, (by first | exact ⟨_, rfl⟩ | exact dn2 _ _ _)⟩
          · have hz' : ((nk : Int) == 0) = false := by simp; omega
            by_cases c2 : nk = n0
            · have hz2 : ((nk : Int) != (n0 : Int)) = false := by simp; omega
              have C2 := Lib.hid c2; clear c2
              have C1 := Lib.hid c1; clear c1
              go_wp2_with fail
              go_quiet (fail)
              go_wp2_with fail
              go_roundw
              case rel => exact ⟨k+1, by omega, by go_num, (by first | exact ⟨_, rfl⟩ | exact dn2 _ _ _), upto hj.out (badRow_ok (by rw [HNk.out]; exact C1.out) (HNk.out.trans C2.out))⟩
              case measure => simp [intOf]; omega
            · have hz2 : ((nk : Int) != (n0 : Int)) = true := by simp; omega
              have C2 := Lib.hid c2; clear c2
              have C1 := Lib.hid c1; clear c1
              go_wp2_with fail
              go_quiet (fail)
              go_wp2_with fail
              go_ret
              exact ⟨ret_int (checkE_shape hL HX.out (any_ri_true hlt (badRow_ne (by rw [HNk.out, HN0.out]; exact C2.out)))).symm, (by first | exact ⟨_, rfl⟩ | exact dn2 _ _ _)⟩
        · have HS := Lib.hid (any_ri_false (p := p) (f := badRow (ri p 0).length) (fun j h => hj.out j (by omega)))
          clear hj
          go_wp2_with fail
          go_loopw [5] (fun i wr => ∃ k : Nat, k ≤ p.length ∧ i = .int .i64 k ∧ (∃ m, wr = w.drewN m) ∧ Hid (∀ j, j < k → (ri p j).any badNum = false)) (fun i _ => p.length - (intOf i).toNat)
          case atStart => exact ⟨0, Nat.zero_le _, rfl, ⟨_, rfl⟩, fun j hj => by omega⟩
          case round =>
            obtain ⟨k, hk, rfl, ⟨m, rfl⟩, hj⟩ := hrel
            by_cases hlt : k < p.length
            · obtain ⟨b, off, ha, hc⟩ := H3.out k hlt
              obtain ⟨ak, capk, ek, _, m1, hs⟩ := H4.out k hlt
              have HS2 := Lib.hid hs; clear hs
              rw [ek] at hc
              clear ek
              have hmk : (ri p k).length ≤ 9223372036854775807 := by unfold maxLen at m1; omega
              rw [ha]
              clear ha
              go_wp2_with fail
              go_loop [6] (fun i => ∃ s : Nat, s ≤ (ri p k).length ∧ i = .int .i64 s ∧ Hid (∀ j, j < s → badNum (gi (ri p k) j) = false)) (fun i => (ri p k).length - (intOf i).toNat)
              case atStart => exact ⟨0, Nat.zero_le _, rfl, fun j hj => by omega⟩
              case round =>
                obtain ⟨s, hs, rfl, hjs⟩ := hrel
                by_cases hlt2 : s < (ri p k).length
                · obtain ⟨b2, off2, ha2, hc2⟩ := HS2.out s hlt2
                  rw [ha2] at hc
                  have e0 : badNum (gi (ri p k) s) = (decide (gi (ri p k) s < 0) || decide (100000 < gi (ri p k) s)) := rfl
                  have E0 := Lib.hid e0; clear e0
                  by_cases c1 : gi (ri p k) s < 0
                  · have C1 : decide (gi (ri p k) s < 0) = true := by simpa using c1
                    go_wp2_with fail
                    go_ret
                    exact ⟨ret_int (checkE_range hL HX.out HS.out (any_ri_true (f := fun r => r.any badNum) hlt (any_gi_true hlt2 (by rw [E0.out]; simp [C1])))).symm, (by first | exact ⟨_, rfl⟩ | exact dn2 _ _ _)⟩
                  have C1 : decide (gi (ri p k) s < 0) = false := by simpa using c1
                  by_cases c2 : 100000 < gi (ri p k) s
                  · have C2 : decide (100000 < gi (ri p k) s) = true := by simpa using c2
                    go_wp2_with fail
                    go_ret
                    exact ⟨ret_int (checkE_range hL HX.out HS.out (any_ri_true (f := fun r => r.any badNum) hlt (any_gi_true hlt2 (by rw [E0.out]; simp [C2])))).symm, (by first | exact ⟨_, rfl⟩ | exact dn2 _ _ _)⟩
                  have C2 : decide (100000 < gi (ri p k) s) = false := by simpa using c2
                  go_wp2_with fail
                  go_round
                  case rel => exact ⟨s+1, by omega, by go_num, upto hjs.out (by rw [E0.out]; simp only [C1, C2]; rfl)⟩
                  case measure => simp [intOf]; omega
                · have HN := Lib.hid (any_gi_false (p := ri p k) (f := badNum) (fun j h => hjs.out j (by omega)))
                  go_wp2_with fail
                  go_roundw
                  case rel => exact ⟨k+1, by omega, by go_num, ⟨_, rfl⟩, upto hj.out HN.out⟩
                  case measure => simp [intOf]; omega
            · have HT := Lib.hid (any_ri_false (p := p) (f := fun r => r.any badNum) (fun j h => hj.out j (by omega)))
              go_wp2_with fail
              go_ret
              exact ⟨ret_int (checkE_ok hL HX.out HS.out HT.out).symm, _, rfl⟩
end Go.Proofs.YtehbnckdllbmgaaGreatDoor

/- Contracts: the reference's times. -/
namespace Go.Proofs.YtehbnckdllbmgaaGreatDoor
open Go.RowKit

/-- where the time of a job at a station begins -/
def fromV (p : List (List Int)) (l : List Int) (k : Nat) : Nat → Int
  | 0 => prevT p l k 0
  | s + 1 => max (prevT p l k (s + 1)) (tm p l k s)
theorem tm_from (p l k s) : tm p l k s = fromV p l k s + gi (jobRow p l k) s := by
  rw [tm_eq]; cases s with
  | zero => rfl
  | succ s => simp only [rowT, fromV]; rw [tm_eq]

theorem fromV_pos (p l k) {s : Nat} (h : 0 < s) : fromV p l k s = max (prevT p l k s) (tm p l k (s - 1)) := by
  cases s with
  | zero => omega
  | succ s => rfl
theorem fromV_zero (p l k) {s : Nat} (h : s = 0) : fromV p l k s = prevT p l k s := by subst h; rfl

theorem prevT_bounds {p : List (List Int)} {l : List Int} (hg : Good p) (hl : rightB p.length l = true) {k : Nat} (hk : k < l.length) {s : Nat} (hs : s < (jobRow p l k).length) : 0 ≤ prevT p l k s ∧ prevT p l k s ≤ k * 800000 := by
  cases k with
  | zero => simp [prevT]
  | succ k =>
    have hj := rightB_job hl hk
    have hj' := rightB_job hl (show k < l.length by omega)
    have h8 := hg.st _ hj.2.2
    have h8' := hg.st _ hj'.2.2
    have := tm_bounds hg hl k (by omega) s (by unfold jobRow at *; omega)
    simp only [prevT]; omega

theorem timesL_take_succ {p : List (List Int)} {l : List Int} {k : Nat} (hk : k < l.length) : (timesL p l).take (k + 1) = (timesL p l).take k ++ [rowL p l k] := by
  rw [take_succ_ri (by simpa [timesL] using hk), timesL_ri hk]

set_option maxHeartbeats 2000000 in
theorem times_any (v u : Value) (p : List (List Int)) (l : List Int) (w : World) (h : SS w v p) (g : SI w u l) (hg : Good p) (hl : rightB p.length l = true) (hl32 : l.length ≤ 32) :
    Calls Tryz.prog 123 #[v, u] w (RetS w (timesL p l)) := by
  obtain ⟨vs, ⟨a, cap, rfl, h1, h2, h3⟩, h4⟩ := h
  obtain ⟨a', cap', rfl, g1, g2, g3⟩ := g
  have H3 := Lib.hid h3; clear h3
  have H4 := Lib.hid h4; clear h4
  have G3 := Lib.hid g3; clear g3
  have hm : p.length ≤ 9223372036854775807 := by unfold maxLen at h2; omega
  have hm' : l.length ≤ 9223372036854775807 := by unfold maxLen at g2; omega
  obtain ⟨iI, hi, hz0, hz1, hz2⟩ := info_parts Tryz_infoInt
  obtain ⟨iS, hiS, hz0S, hz1S, hz2S⟩ := info_parts Tryz_infoInts
  have HI := Lib.hid hi; have HZ0 := Lib.hid hz0; have HZ1 := Lib.hid hz1; have HZ2 := Lib.hid hz2
  have HIS := Lib.hid hiS; have HZ0S := Lib.hid hz0S; have HZ1S := Lib.hid hz1S; have HZ2S := Lib.hid hz2S
  clear hi hz0 hz1 hz2 hiS hz0S hz1S hz2S
  have HG := Lib.hid hg; clear hg
  have HL := Lib.hid hl; clear hl
  go_enter Tryz.func123, Tryz.ntmps123
  go_wp2_with fail
  go_loopw [5, 6] (fun t i wr => ∃ k : Nat, k ≤ l.length ∧ i = .int .i64 k ∧ Below w.heap.size w wr ∧ Hid (OwnT wr w.heap.size t ((timesL p l).take k))) (fun _ i _ => l.length - (intOf i).toNat)
  case atStart => exact ⟨0, Nat.zero_le _, rfl, Below.refl _ _, OwnT_nil _ _⟩
  case round =>
    obtain ⟨k, hk, rfl, hbel, hown⟩ := hrel
    by_cases hlt : k < l.length
    · have hj := rightB_job HL.out hlt
      obtain ⟨b, off, ha, hc⟩ := G3.out k hlt
      have hc := cell_keep hbel hc
      have HJ : Hid (jobRow p l k = ri p (gi l k).toNat) := rfl
      generalize hx : gi l k = x at *
      have HX := Lib.hid hx; clear hx
      obtain ⟨j, rfl⟩ := Int.eq_ofNat_of_zero_le hj.1
      simp only [Int.toNat_natCast] at HJ hj
      obtain ⟨b2, off2, ha2, hc2⟩ := H3.out j hj.2.2
      have hc2 := cell_keep hbel hc2
      obtain ⟨ak, capk, ek, n1, n2, hrow⟩ := H4.out j hj.2.2
      rw [ek] at hc2
      clear ek
      have h8 := HG.out.st _ hj.2.2
      have HN := Lib.hid (HG.out.num _ hj.2.2)
      have HR := Lib.hid hrow; clear hrow
      generalize ri p j = row at *
      have hn8 : row.length ≤ 8 := by omega
      have hn1 : 1 ≤ row.length := by omega
      clear h8
      rw [ha, ha2]
      clear ha ha2
      go_wp2_with (at_make; refine wpList_make_full _ rfl _ _ 24 rfl wr.heap.size 3 iI (.int .i64 0) 1 Tryz.underlying24 HI.out HZ0.out HZ1.out _ _ _ _ row.length rfl rfl rfl rfl ?c1 ?c2 (Nat.le_refl _) ?_)
      case c1 => rw [HZ2.out]; omega
      case c2 => unfold maxLen; omega
      intro w1 hown1 hgrow1
      rw [← part_zero (tm p l k)] at hown1
      have HO1 := Lib.hid hown1; clear hown1
      have HB1 := Lib.hid (grownBy_below hgrow1); clear hgrow1
      have HBN : Hid (∀ s, s < row.length → 0 ≤ prevT p l k s ∧ prevT p l k s ≤ k * 800000) := fun s hs => prevT_bounds HG.out HL.out hlt (by rw [show jobRow p l k = row from HJ.out]; exact hs)
      have HTB : Hid (∀ s, s < row.length → 0 ≤ tm p l k s ∧ tm p l k s ≤ (k + 1) * 800000) := fun s hs => tm_bounds HG.out HL.out k hlt s (by rw [show jobRow p l k = row from HJ.out]; exact hs)
      have HTF : Hid (∀ s, tm p l k s = fromV p l k s + gi row s) := fun s => by rw [tm_from, show jobRow p l k = row from HJ.out]
      have hkk : k ≤ 31 := by omega
      obtain ⟨wo, rfl⟩ : ∃ wo : World, wo = wr := ⟨_, rfl⟩
      go_wp2_with fail
      go_loopw [8] (fun i w2 => ∃ s : Nat, s ≤ row.length ∧ i = .int .i64 s ∧ Hid (Below wo.heap.size wo w2) ∧ Hid (w2.ownsRow wo.heap.size 3 1 (.slice (some ⟨wo.heap.size, 0, none⟩) row.length row.length) row.length ((part (tm p l k) s row.length).map (Value.int .i64)))) (fun i _ => row.length - (intOf i).toNat)
      case atStart => exact ⟨0, Nat.zero_le _, rfl, HB1, HO1⟩
      case round =>
        obtain ⟨s, hs, rfl, hb2, ho2⟩ := hrel
        by_cases hlt2 : s < row.length
        · by_cases hk0 : 0 < k
          · have hk1 : 1 ≤ k := by omega
            have hkB : decide (0 < (k : Int)) = true := by simp; omega
            have hlk : k - 1 < ((timesL p l).take k).length := by simp [timesL]; omega
            have hrk : ri ((timesL p l).take k) (k - 1) = rowL p l (k - 1) := by
              rw [ri_lt hlk, List.getElem_take, ← ri_lt, timesL_ri (by omega)]
            have hlr : (rowL p l (k - 1)).length = row.length := by
              rw [rowL_length]
              have hj0 := rightB_job HL.out (show k - 1 < l.length by omega)
              have a1 := HG.out.st _ hj0.2.2
              have a2 := HG.out.st _ hj.2.2
              have a3 : (jobRow p l k).length = row.length := by rw [show jobRow p l k = row from HJ.out]
              have a4 : (jobRow p l k).length = (ri p (gi l k).toNat).length := rfl
              have a5 := HX.out
              rw [a5, Int.toNat_natCast] at a4
              unfold jobRow; omega
            obtain ⟨gt, capt, gr, capr, et, tc1, tc2, tcell, tc3, rcell⟩ := hown.out.look hlk (by rw [hrk, hlr]; omega)
            have hlt0 : ((timesL p l).take k).length = k := by simp [timesL]; omega
            rw [hrk] at tcell tc3 rcell
            rw [hlr] at tcell tc3 rcell
            rw [hlt0] at et tc1
            have tcell := cell_keep hb2.out tcell
            have rc := cell_keep hb2.out (rcell s hlt2)
            have HPS : Hid (gi (rowL p l (k - 1)) s = prevT p l k s) := by
              rw [rowL_gi (by rw [← rowL_length, hlr]; exact hlt2)]
              show _ = _
              cases k with
              | zero => omega
              | succ k => rfl
            have hpv := HBN.out s hlt2
            rw [← HPS.out] at hpv
            generalize gi (rowL p l (k - 1)) s = z at *
            clear rcell hlt0 hlr hrk hlk
            rw [et]
            clear et
            have hc := cell_keep hb2.out hc
            have hc2 := cell_keep hb2.out hc2
            obtain ⟨b3, off3, ha3, hc3⟩ := HR.out s hlt2
            have hc3 := cell_keep hb2.out (cell_keep hbel hc3)
            rw [ha3] at hc2
            clear ha3
            have hcs := part_cell ho2.out hlt2
            have hfz := ho2.out.frozenAt s
            have hb := HN.out s hlt2
            have ht := HTB.out s hlt2
            have htf := HTF.out s
            have HTFs := Lib.hid htf
            rw [htf] at ht
            clear htf
            generalize gi row s = y at *
            rw [if_neg (by omega)] at hcs
            by_cases hs0 : 0 < s
            · have hsB : decide (0 < (s : Int)) = true := by simp; omega
              have hcp := part_cell ho2.out (show s - 1 < row.length by omega)
              rw [if_pos (by omega)] at hcp
              have htp := HTB.out (s - 1) (by omega)
              have hs1 : 1 ≤ s := by omega
              go_wp2_with fail
              go_roundw
              case rel => exact ⟨s + 1, by omega, by go_num, hb2.out.setCell (Nat.le_refl _) _, part_store ho2.out (by rw [HTFs.out, fromV_pos _ _ _ hs0, ← HPS.out, gmax])⟩
              case measure => simp [intOf]; omega
            · have hsB : decide (0 < (s : Int)) = false := by simp; omega
              go_wp2_with fail
              go_roundw
              case rel => exact ⟨s + 1, by omega, by go_num, hb2.out.setCell (Nat.le_refl _) _, part_store ho2.out (by rw [HTFs.out, fromV_zero _ _ _ (by omega), ← HPS.out])⟩
              case measure => simp [intOf]; omega
          · have HPV : Hid (∀ s, prevT p l k s = 0) := fun s => by rw [show k = 0 by omega]; rfl
            have hkB : decide (0 < (k : Int)) = false := by simp; omega
            have hc := cell_keep hb2.out hc
            have hc2 := cell_keep hb2.out hc2
            obtain ⟨b3, off3, ha3, hc3⟩ := HR.out s hlt2
            have hc3 := cell_keep hb2.out (cell_keep hbel hc3)
            rw [ha3] at hc2
            clear ha3
            have hcs := part_cell ho2.out hlt2
            have hfz := ho2.out.frozenAt s
            have hb := HN.out s hlt2
            have ht := HTB.out s hlt2
            have htf := HTF.out s
            have HTFs := Lib.hid htf
            rw [htf] at ht
            clear htf
            generalize gi row s = y at *
            rw [if_neg (by omega)] at hcs
            by_cases hs0 : 0 < s
            · have hsB : decide (0 < (s : Int)) = true := by simp; omega
              have hcp := part_cell ho2.out (show s - 1 < row.length by omega)
              rw [if_pos (by omega)] at hcp
              have htp := HTB.out (s - 1) (by omega)
              have hs1 : 1 ≤ s := by omega
              go_wp2_with fail
              go_roundw
              case rel => exact ⟨s + 1, by omega, by go_num, hb2.out.setCell (Nat.le_refl _) _, part_store ho2.out (by rw [HTFs.out, fromV_pos _ _ _ hs0, HPV.out, gmax])⟩
              case measure => simp [intOf]; omega
            · have hsB : decide (0 < (s : Int)) = false := by simp; omega
              go_wp2_with fail
              go_roundw
              case rel => exact ⟨s + 1, by omega, by go_num, hb2.out.setCell (Nat.le_refl _) _, part_store ho2.out (by rw [HTFs.out, fromV_zero _ _ _ (by omega), HPV.out, Int.zero_add])⟩
              case measure => simp [intOf]; omega
        · have hsl : s = row.length := by omega
          have ho3 := ho2.out
          rw [hsl, part_full] at ho3
          have HRL : rowL p l k = (List.range row.length).map (tm p l k) := by rw [rowL, show jobRow p l k = row from HJ.out]
          have hlr : (rowL p l k).length = row.length := by rw [HRL]; simp
          have HOI : OwnI wr w.heap.size (.slice (some ⟨wo.heap.size, 0, none⟩) row.length row.length) (rowL p l k) := by
            unfold OwnI
            rw [hlr, HRL]
            exact owns_mono ho3 hbel.size
          have HOI := Lib.hid HOI
          clear ho3 HRL hlr hsl
          obtain ⟨tvs, ht1, ht2⟩ := hown.out.below hb2.out
          have HT1 := Lib.hid ht1
          have HT2 := Lib.hid ht2
          clear ht2
          rename_i HOI' _ _
          have hsz := hb2.out.size
          have hsz2 := hbel.size
          have hln : ((timesL p l).take k).length ≤ 32 := by simp [timesL]; omega
          go_wp2_with (at_builtin; refine wpList_append_own _ rfl _ _ 22 rfl w.heap.size 24 iS (.slice none 0 0) 1 24 Tryz.underlying22 HIS.out HZ0S.out HZ1S.out HZ2S.out rfl (by decide) _ _ _ rfl (ht1.alloc _) ⟨wr.heap.size, 0, none⟩ 1 1 [.slice (some ⟨wo.heap.size, 0, none⟩) row.length row.length] rfl rfl ?c1 ?c2 ?c3 ?c4 ?c5 ?_)
          case c1 => exact one_new _ _ _
          case c2 => exact one_ok _ rfl
          case c3 => unfold maxLen; omega
          case c4 => omega
          case c5 => simp; omega
          intro v' w3 hown' hgrow _
          rw [← List.length_take] at hown'
          have HP := OwnT.push (w1 := wr.alloc (.cells #[.slice (some ⟨wo.heap.size, 0, none⟩) row.length row.length] 24)) ht1 HT2.out HOI.out ((Below.refl _ _).alloc (Nat.le_refl _) _) hgrow hown'
          rw [← timesL_take_succ hlt] at HP
          have HP := Lib.hid HP
          have hbl : Below w.heap.size w w3 := by
            refine (hbel.trans ((hb2.out.mono hsz2).alloc (by omega) _)).grown hgrow (by simp; omega) ?_
            intro k hk
            exact (ht1.lt k hk).1
          clear hown' hgrow ht1
          go_wp2_with fail
          go_roundw
          case rel => exact ⟨k + 1, by omega, by go_num, hbl, HP.out⟩
          case measure => simp [intOf]; omega
    · have hkl : k = l.length := by omega
      have hfin := hown.out.ss
      rw [hkl, List.take_of_length_le (by simp [timesL])] at hfin
      have HF := Lib.hid hfin
      clear hfin hkl
      go_wp2_with fail
      go_ret
      exact ⟨_, rfl, HF.out, hbel⟩
end Go.Proofs.YtehbnckdllbmgaaGreatDoor

/- Contracts: flow.finish. -/
namespace Go.Proofs.YtehbnckdllbmgaaGreatDoor
open Go.RowKit

set_option maxHeartbeats 2000000 in
theorem finish_any (v u : Value) (p : List (List Int)) (l : List Int) (w : World) (h : SS w v p) (g : SI w u l) (hg : Good p) (hl : rightB p.length l = true) (hl32 : l.length ≤ 32) :
    Calls Tryz.prog 65 #[v, u] w (RetS w (timesL p l)) := by
  obtain ⟨vs, ⟨a, cap, rfl, h1, h2, h3⟩, h4⟩ := h
  obtain ⟨a', cap', rfl, g1, g2, g3⟩ := g
  have H3 := Lib.hid h3; clear h3
  have H4 := Lib.hid h4; clear h4
  have G3 := Lib.hid g3; clear g3
  have hm : p.length ≤ 9223372036854775807 := by unfold maxLen at h2; omega
  have hm' : l.length ≤ 9223372036854775807 := by unfold maxLen at g2; omega
  obtain ⟨iI, hi, hz0, hz1, hz2⟩ := info_parts Tryz_infoInt
  obtain ⟨iS, hiS, hz0S, hz1S, hz2S⟩ := info_parts Tryz_infoInts
  have HI := Lib.hid hi; have HZ0 := Lib.hid hz0; have HZ1 := Lib.hid hz1; have HZ2 := Lib.hid hz2
  have HIS := Lib.hid hiS; have HZ0S := Lib.hid hz0S; have HZ1S := Lib.hid hz1S; have HZ2S := Lib.hid hz2S
  clear hi hz0 hz1 hz2 hiS hz0S hz1S hz2S
  have HG := Lib.hid hg; clear hg
  have HL := Lib.hid hl; clear hl
  go_enter Tryz.func65, Tryz.ntmps65
  go_wp2_with fail
  go_loopw [5, 13] (fun t i wr => ∃ k : Nat, k ≤ l.length ∧ i = .int .i64 k ∧ Below w.heap.size w wr ∧ Hid (OwnT wr w.heap.size t ((timesL p l).take k))) (fun _ i _ => l.length - (intOf i).toNat)
  case atStart => exact ⟨0, Nat.zero_le _, rfl, Below.refl _ _, OwnT_nil _ _⟩
  case round =>
    obtain ⟨k, hk, rfl, hbel, hown⟩ := hrel
    by_cases hlt : k < l.length
    · have hj := rightB_job HL.out hlt
      obtain ⟨b, off, ha, hc⟩ := G3.out k hlt
      have hc := cell_keep hbel hc
      have HJ : Hid (jobRow p l k = ri p (gi l k).toNat) := rfl
      generalize hx : gi l k = x at *
      have HX := Lib.hid hx; clear hx
      obtain ⟨j, rfl⟩ := Int.eq_ofNat_of_zero_le hj.1
      simp only [Int.toNat_natCast] at HJ hj
      obtain ⟨b2, off2, ha2, hc2⟩ := H3.out j hj.2.2
      have hc2 := cell_keep hbel hc2
      obtain ⟨ak, capk, ek, n1, n2, hrow⟩ := H4.out j hj.2.2
      rw [ek] at hc2
      clear ek
      have h8 := HG.out.st _ hj.2.2
      have HN := Lib.hid (HG.out.num _ hj.2.2)
      have HR := Lib.hid hrow; clear hrow
      generalize ri p j = row at *
      have hn8 : row.length ≤ 8 := by omega
      have hn1 : 1 ≤ row.length := by omega
      clear h8
      rw [ha, ha2]
      clear ha ha2
      go_wp2_with (at_make; refine wpList_make_full _ rfl _ _ 24 rfl wr.heap.size 3 iI (.int .i64 0) 1 Tryz.underlying24 HI.out HZ0.out HZ1.out _ _ _ _ row.length rfl rfl rfl rfl ?c1 ?c2 (Nat.le_refl _) ?_)
      case c1 => rw [HZ2.out]; omega
      case c2 => unfold maxLen; omega
      intro w1 hown1 hgrow1
      rw [← part_zero (tm p l k)] at hown1
      have HO1 := Lib.hid hown1; clear hown1
      have HB1 := Lib.hid (grownBy_below hgrow1); clear hgrow1
      have HBN : Hid (∀ s, s < row.length → 0 ≤ prevT p l k s ∧ prevT p l k s ≤ k * 800000) := fun s hs => prevT_bounds HG.out HL.out hlt (by rw [show jobRow p l k = row from HJ.out]; exact hs)
      have HTB : Hid (∀ s, s < row.length → 0 ≤ tm p l k s ∧ tm p l k s ≤ (k + 1) * 800000) := fun s hs => tm_bounds HG.out HL.out k hlt s (by rw [show jobRow p l k = row from HJ.out]; exact hs)
      have HTF : Hid (∀ s, tm p l k s = fromV p l k s + gi row s) := fun s => by rw [tm_from, show jobRow p l k = row from HJ.out]
      have hkk : k ≤ 31 := by omega
      obtain ⟨wo, rfl⟩ : ∃ wo : World, wo = wr := ⟨_, rfl⟩
      have hc2w := cell_keep HB1.out hc2
      go_wp2_with fail
      clear hc2w
      go_loopw [29] (fun i w2 => ∃ s : Nat, s ≤ row.length ∧ i = .int .i64 s ∧ Hid (Below wo.heap.size wo w2) ∧ Hid (w2.ownsRow wo.heap.size 3 1 (.slice (some ⟨wo.heap.size, 0, none⟩) row.length row.length) row.length ((part (tm p l k) s row.length).map (Value.int .i64)))) (fun i _ => row.length - (intOf i).toNat)
      case atStart => exact ⟨0, Nat.zero_le _, rfl, HB1, HO1⟩
      case round =>
        obtain ⟨s, hs, rfl, hb2, ho2⟩ := hrel
        by_cases hlt2 : s < row.length
        · by_cases hk0 : 0 < k
          · have hk1 : 1 ≤ k := by omega
            have hkB : decide (0 < (k : Int)) = true := by simp; omega
            have hlk : k - 1 < ((timesL p l).take k).length := by simp [timesL]; omega
            have hrk : ri ((timesL p l).take k) (k - 1) = rowL p l (k - 1) := by
              rw [ri_lt hlk, List.getElem_take, ← ri_lt, timesL_ri (by omega)]
            have hlr : (rowL p l (k - 1)).length = row.length := by
              rw [rowL_length]
              have hj0 := rightB_job HL.out (show k - 1 < l.length by omega)
              have a1 := HG.out.st _ hj0.2.2
              have a2 := HG.out.st _ hj.2.2
              have a3 : (jobRow p l k).length = row.length := by rw [show jobRow p l k = row from HJ.out]
              have a4 : (jobRow p l k).length = (ri p (gi l k).toNat).length := rfl
              have a5 := HX.out
              rw [a5, Int.toNat_natCast] at a4
              unfold jobRow; omega
            obtain ⟨gt, capt, gr, capr, et, tc1, tc2, tcell, tc3, rcell⟩ := hown.out.look hlk (by rw [hrk, hlr]; omega)
            have hlt0 : ((timesL p l).take k).length = k := by simp [timesL]; omega
            rw [hrk] at tcell tc3 rcell
            rw [hlr] at tcell tc3 rcell
            rw [hlt0] at et tc1
            have tcell := cell_keep hb2.out tcell
            have rc := cell_keep hb2.out (rcell s hlt2)
            have HPS : Hid (gi (rowL p l (k - 1)) s = prevT p l k s) := by
              rw [rowL_gi (by rw [← rowL_length, hlr]; exact hlt2)]
              show _ = _
              cases k with
              | zero => omega
              | succ k => rfl
            have hpv := HBN.out s hlt2
            rw [← HPS.out] at hpv
            generalize gi (rowL p l (k - 1)) s = z at *
            clear rcell hlt0 hlr hrk hlk
            rw [et]
            clear et
            have hc := cell_keep hb2.out hc
            have hc2 := cell_keep hb2.out hc2
            obtain ⟨b3, off3, ha3, hc3⟩ := HR.out s hlt2
            have hc3 := cell_keep hb2.out (cell_keep hbel hc3)
            rw [ha3] at hc2 ⊢
            clear ha3
            have HP0 := Lib.hid (PartS.start ho2.out hlt2)
            have hcs := HP0.out.cell hlt2
            have hfz := HP0.out.frozen s
            have hb := HN.out s hlt2
            have ht := HTB.out s hlt2
            have htf := HTF.out s
            have HTFs := Lib.hid htf
            rw [htf] at ht
            clear htf
            generalize gi row s = y at *
            by_cases hs0 : 0 < s
            · have hsB : decide (0 < (s : Int)) = true := by simp; omega
              have hs1 : 1 ≤ s := by omega
              have htp := HTB.out (s - 1) (by omega)
              have i1 : (0:Int) ≤ s - 1 := by omega
              have hcp := HP0.out.cell' (show s - 1 < s by omega) (by omega)
              go_wp2_with fail
              obtain ⟨wx, hwx⟩ : ∃ wx : World, wx = (wr.setCell ⟨wo.heap.size, s, none⟩ (.int .i64 z)) := ⟨_, rfl⟩
              have HP1 := Lib.hid (show PartS wx wo.heap.size wo.heap.size row.length row.length (tm p l k) s z from by rw [hwx]; exact HP0.out.store z)
              have hb3 := Lib.hid (show Below wo.heap.size wo wx from by rw [hwx]; exact hb2.out.setCell (Nat.le_refl _) _)
              rw [← hwx]
              clear hwx hc hc2 hc3 hcs hfz hcp
              have q1 := HP1.out.cell hlt2
              have q2 := HP1.out.cell' (show s - 1 < s by omega) (by omega)
              have q3 := HP1.out.frozen s
              go_region
              go_wp2_with fail
              go_roundw
              case rel => exact ⟨s + 1, by omega, by go_num, ((hb3.out.setCell (Nat.le_refl _) _).drew.setCell (Nat.le_refl _) _), (HP1.out.store _).drew.store _ |>.done (by rw [HTFs.out, fromV_pos _ _ _ hs0, ← HPS.out, gmax])⟩
              case measure => simp [intOf]; omega
            · have hsB : decide (0 < (s : Int)) = false := by simp; omega
              go_wp2_with fail
              go_roundw
              case rel => exact ⟨s + 1, by omega, by go_num, ((hb2.out.setCell (Nat.le_refl _) _).setCell (Nat.le_refl _) _), (HP0.out.store z).store _ |>.done (by rw [HTFs.out, fromV_zero _ _ _ (by omega), ← HPS.out])⟩
              case measure => simp [intOf]; omega
          · have HPV : Hid (∀ s, prevT p l k s = 0) := fun s => by rw [show k = 0 by omega]; rfl
            have hkB : decide (0 < (k : Int)) = false := by simp; omega
            have hc := cell_keep hb2.out hc
            have hc2 := cell_keep hb2.out hc2
            obtain ⟨b3, off3, ha3, hc3⟩ := HR.out s hlt2
            have hc3 := cell_keep hb2.out (cell_keep hbel hc3)
            rw [ha3] at hc2 ⊢
            clear ha3
            have HP0 := Lib.hid (PartS.start ho2.out hlt2)
            have hcs := HP0.out.cell hlt2
            have hfz := HP0.out.frozen s
            have hb := HN.out s hlt2
            have ht := HTB.out s hlt2
            have htf := HTF.out s
            have HTFs := Lib.hid htf
            rw [htf] at ht
            clear htf
            generalize gi row s = y at *
            by_cases hs0 : 0 < s
            · have hsB : decide (0 < (s : Int)) = true := by simp; omega
              have hs1 : 1 ≤ s := by omega
              have htp := HTB.out (s - 1) (by omega)
              have i1 : (0:Int) ≤ s - 1 := by omega
              have hcp := HP0.out.cell' (show s - 1 < s by omega) (by omega)
              go_wp2_with fail
              obtain ⟨wx, hwx⟩ : ∃ wx : World, wx = wr := ⟨_, rfl⟩
              have HP1 := Lib.hid (show PartS wx wo.heap.size wo.heap.size row.length row.length (tm p l k) s 0 from by rw [hwx]; exact HP0.out)
              have hb3 := Lib.hid (show Below wo.heap.size wo wx from by rw [hwx]; exact hb2.out)
              rw [← hwx]
              clear hwx hc hc2 hc3 hcs hfz hcp
              have q1 := HP1.out.cell hlt2
              have q2 := HP1.out.cell' (show s - 1 < s by omega) (by omega)
              have q3 := HP1.out.frozen s
              go_region
              go_wp2_with fail
              go_roundw
              case rel => exact ⟨s + 1, by omega, by go_num, ((hb3.out.setCell (Nat.le_refl _) _).drew.setCell (Nat.le_refl _) _), (HP1.out.store _).drew.store _ |>.done (by rw [HTFs.out, fromV_pos _ _ _ hs0, HPV.out, gmax])⟩
              case measure => simp [intOf]; omega
            · have hsB : decide (0 < (s : Int)) = false := by simp; omega
              go_wp2_with fail
              go_roundw
              case rel => exact ⟨s + 1, by omega, by go_num, (hb2.out.setCell (Nat.le_refl _) _), (HP0.out).store _ |>.done (by rw [HTFs.out, fromV_zero _ _ _ (by omega), HPV.out, Int.zero_add])⟩
              case measure => simp [intOf]; omega
        · have hsl : s = row.length := by omega
          have ho3 := ho2.out
          rw [hsl, part_full] at ho3
          have HRL : rowL p l k = (List.range row.length).map (tm p l k) := by rw [rowL, show jobRow p l k = row from HJ.out]
          have hlr : (rowL p l k).length = row.length := by rw [HRL]; simp
          have HOI : OwnI wr w.heap.size (.slice (some ⟨wo.heap.size, 0, none⟩) row.length row.length) (rowL p l k) := by
            unfold OwnI
            rw [hlr, HRL]
            exact owns_mono ho3 hbel.size
          have HOI := Lib.hid HOI
          clear ho3 HRL hlr hsl
          obtain ⟨tvs, ht1, ht2⟩ := hown.out.below hb2.out
          have HT1 := Lib.hid ht1
          have HT2 := Lib.hid ht2
          clear ht2
          rename_i HOI' _ _
          have hsz := hb2.out.size
          have hsz2 := hbel.size
          have hln : ((timesL p l).take k).length ≤ 32 := by simp [timesL]; omega
          go_wp2_with (at_builtin; refine wpList_append_own _ rfl _ _ 22 rfl w.heap.size 24 iS (.slice none 0 0) 1 24 Tryz.underlying22 HIS.out HZ0S.out HZ1S.out HZ2S.out rfl (by decide) _ _ _ rfl (ht1.alloc _) ⟨wr.heap.size, 0, none⟩ 1 1 [.slice (some ⟨wo.heap.size, 0, none⟩) row.length row.length] rfl rfl ?c1 ?c2 ?c3 ?c4 ?c5 ?_)
          case c1 => exact one_new _ _ _
          case c2 => exact one_ok _ rfl
          case c3 => unfold maxLen; omega
          case c4 => omega
          case c5 => simp; omega
          intro v' w3 hown' hgrow _
          rw [← List.length_take] at hown'
          have HP := OwnT.push (w1 := wr.alloc (.cells #[.slice (some ⟨wo.heap.size, 0, none⟩) row.length row.length] 24)) ht1 HT2.out HOI.out ((Below.refl _ _).alloc (Nat.le_refl _) _) hgrow hown'
          rw [← timesL_take_succ hlt] at HP
          have HP := Lib.hid HP
          have hbl : Below w.heap.size w w3 := by
            refine (hbel.trans ((hb2.out.mono hsz2).alloc (by omega) _)).grown hgrow (by simp; omega) ?_
            intro k hk
            exact (ht1.lt k hk).1
          clear hown' hgrow ht1
          go_wp2_with fail
          go_roundw
          case rel => exact ⟨k + 1, by omega, by go_num, hbl, HP.out⟩
          case measure => simp [intOf]; omega
    · have hkl : k = l.length := by omega
      have hfin := hown.out.ss
      rw [hkl, List.take_of_length_le (by simp [timesL])] at hfin
      have HF := Lib.hid hfin
      clear hfin hkl
      go_wp2_with fail
      go_ret
      exact ⟨_, rfl, HF.out, hbel⟩
end Go.Proofs.YtehbnckdllbmgaaGreatDoor

/- Contracts: flow.last, flow.bound; the reference's last, length, bound. -/
namespace Go.Proofs.YtehbnckdllbmgaaGreatDoor
open Go.RowKit

theorem last_any (v : Value) (t : List (List Int)) (s : Nat) (w : World) (h : SS w v t) (hs : t.length ≠ 0 → s < (ri t (t.length - 1)).length) :
    Calls Tryz.prog 62 #[v, .int .i64 s] w fun e w' => e = .returned (.int .i64 (lastOf t s)) ∧ ∃ m, w' = w.drewN m := by
  obtain ⟨vs, ⟨a, cap, rfl, h1, h2, h3⟩, h4⟩ := h
  have hm : t.length ≤ 9223372036854775807 := by unfold maxLen at h2; omega
  by_cases h0 : t.length = 0
  · have hf := Lib.hid (show lastOf t s = 0 by simp [lastOf, h0])
    have h0' : ((t.length : Int) == 0) = true := by rw [beq_iff_eq]; omega
    clear h0 h3 h4 hs
    go_enter Tryz.func62, Tryz.ntmps62
    go_wp2_with fail
    go_ret
    exact ⟨ret_int hf.out.symm, 0, rfl⟩
  · have hf := Lib.hid (show lastOf t s = gi (ri t (t.length - 1)) s by simp [lastOf, h0])
    have h0' : ((t.length : Int) == 0) = false := by rw [beq_eq_false_iff_ne]; omega
    have hs := hs h0
    have hl1 : t.length - 1 < t.length := by omega
    obtain ⟨b, off, rfl, hc⟩ := h3 (t.length - 1) hl1
    obtain ⟨ak, capk, ek, n1, n2, hrow⟩ := h4 (t.length - 1) hl1
    obtain ⟨b2, off2, rfl, hc2⟩ := hrow s hs
    rw [ek] at hc
    have h01 : 1 ≤ t.length := by omega
    clear h0 h3 h4 ek hrow
    have hsm : s ≤ 9223372036854775807 := by unfold maxLen at n2; omega
    go_enter Tryz.func62, Tryz.ntmps62
    go_wp2_with fail
    go_ret
    exact ⟨ret_int hf.out.symm, 0, rfl⟩

theorem rlast_any (v u : Value) (p : List (List Int)) (l : List Int) (s : Nat) (w : World) (h : SS w v p) (g : SI w u l) (hg : Good p) (hl : rightB p.length l = true) (hs : l.length ≠ 0 → s < (ri p 0).length) :
    Calls Tryz.prog 98 #[v, u, .int .i64 s] w fun e w' => e = .returned (.int .i64 (lastV p l s)) ∧ Below w.heap.size w w' := by
  have hn := rightB_len hl
  have h32 := hg.len
  have H := Lib.hid h; clear h
  have G := Lib.hid g
  obtain ⟨a, cap, rfl, h1, h2, h3⟩ := g
  clear h3
  have hm : l.length ≤ 9223372036854775807 := by omega
  by_cases h0 : l.length = 0
  · have hf := Lib.hid (show lastV p l s = 0 by simp [lastV, h0])
    have h0' : ((l.length : Int) == 0) = true := by rw [beq_iff_eq]; omega
    clear h0
    go_enter Tryz.func98, Tryz.ntmps98
    go_wp2_with fail
    go_ret
    exact ⟨ret_int hf.out.symm, Below.refl _ _⟩
  · have h0' : ((l.length : Int) == 0) = false := by rw [beq_eq_false_iff_ne]; omega
    have hs := hs h0
    have h8 := (hg.st 0 (by have := rightB_job hl (show 0 < l.length by omega); omega)).2.1
    have hrl : ∀ k, k < l.length → s < (jobRow p l k).length := fun k hk => by rw [jobRow_st hg hl hk]; exact hs
    have hf := Lib.hid (lastOf_times hrl)
    have hlr : (ri (timesL p l) (l.length - 1)).length = (jobRow p l (l.length - 1)).length := by rw [timesL_ri (by omega), rowL_length]
    have hsl : s < (ri (timesL p l) (l.length - 1)).length := by rw [hlr]; exact hrl _ (by omega)
    have h01 : 1 ≤ l.length := by omega
    have HG := Lib.hid hg
    have HL := Lib.hid hl
    have HR := Lib.hid hsl
    clear h0 hrl hlr hsl hg hl
    go_enter Tryz.func98, Tryz.ntmps98
    go_wp2_with fail
    refine (times_any _ _ p l w H.out G.out HG.out HL.out (by omega)).mono ?_
    rintro e w1 ⟨vt, rfl, hst, hb1⟩
    obtain ⟨vs, ⟨at', capt, rfl, t1, t2, t3⟩, t4⟩ := hst
    have hl1 : l.length - 1 < (timesL p l).length := by rw [timesL_length]; omega
    obtain ⟨b, off, rfl, hc⟩ := t3 (l.length - 1) hl1
    obtain ⟨ak, capk, ek, n1, n2, hrow⟩ := t4 (l.length - 1) hl1
    obtain ⟨b2, off2, rfl, hc2⟩ := hrow s HR.out
    rw [ek] at hc
    clear t3 t4 ek hrow hl1
    have hsr := HR.out
    have hv : gi (ri (timesL p l) (l.length - 1)) s = lastV p l s := by
      rw [← hf.out, lastOf, if_neg (by rw [timesL_length]; omega), timesL_length]
    have HV := Lib.hid hv
    clear hv
    rw [timesL_length] at t1 ⊢
    generalize ri (timesL p l) (l.length - 1) = row at *
    go_wp2_with fail
    go_ret
    exact ⟨ret_int HV.out, hb1⟩
end Go.Proofs.YtehbnckdllbmgaaGreatDoor

/- Contracts: flow.bound and the reference's bound. -/
namespace Go.Proofs.YtehbnckdllbmgaaGreatDoor
open Go.RowKit

set_option maxHeartbeats 1000000 in
theorem fbound_any (v u vt : Value) (p : List (List Int)) (l : List Int) (s : Nat) (w : World) (h : SS w v p) (g : SI w u l) (ht : SS w vt (timesL p l)) (hg : Good p) (hl : rightB p.length l = true) (hs : s < (ri p 0).length) :
    Calls Tryz.prog 67 #[v, u, vt, .int .i64 s] w fun e w' => e = .returned (.int .i64 (boundV p l s)) ∧ ∃ m, w' = w.drewN m := by
  have h32 := hg.len
  have HLA := Lib.hid (last_any vt (timesL p l) s w ht (fun hn => by
    rw [timesL_length] at hn ⊢
    rw [timesL_ri (by omega), rowL_length, jobRow_st hg hl (by omega)]; exact hs))
  have HLE := Lib.hid (lastOf_times (p := p) (l := l) (s := s) (fun k hk => by rw [jobRow_st hg hl hk]; exact hs))
  have HBB := Lib.hid (fun j hj => bst_bounds (pre := l) hg (n0 := lastV p l s) (lastV_bounds hg hl hs) hs j hj)
  have HLB := Lib.hid (lastV_bounds hg hl hs)
  have HRB := Lib.hid (fun j hj => restV_bounds hg (j := j) hj s)
  have HDT := Lib.hid (fun j hj t => dropTake_bounds hg (j := j) hj s t)
  have HST := Lib.hid hg.st
  have HNM := Lib.hid hg.num
  have G := Lib.hid g
  obtain ⟨vs, ⟨a, cap, rfl, h1, h2, h3⟩, h4⟩ := h
  have H3 := Lib.hid h3; have H4 := Lib.hid h4
  clear h3 h4 ht g hg hl
  have hm : p.length ≤ 32 := h32
  go_enter Tryz.func67, Tryz.ntmps67
  go_wp2_with fail
  refine HLA.out.mono ?_
  rintro e w1 ⟨rfl, m0, rfl⟩
  rw [HLE.out]
  go_wp2_with fail
  go_loopw [9, 10, 21] (fun n tl i wr => ∃ k : Nat, k ≤ p.length ∧ i = .int .i64 k ∧ (∃ m, wr = w.drewN m) ∧ n = .int .i64 (bst p l s (lastV p l s) k).1 ∧ tl = .int .i64 (bst p l s (lastV p l s) k).2) (fun _ _ i _ => p.length - (intOf i).toNat)
  case atStart => exact ⟨0, Nat.zero_le _, rfl, ⟨_, rfl⟩, rfl, rfl⟩
  case round =>
    obtain ⟨k, hk, rfl, ⟨m, rfl⟩, rfl, rfl⟩ := hrel
    have hbb := HBB.out k hk
    by_cases hlt : k < p.length
    · obtain ⟨b, off, ha, hc⟩ := H3.out k hlt
      obtain ⟨ak, capk, ek, n1, n2, hrow⟩ := H4.out k hlt
      rw [ek] at hc
      have hsk : s < (ri p k).length := by have := HST.out k hlt; omega
      have hr8 : (ri p k).length ≤ 8 := (HST.out k hlt).2.1
      have hrb := HRB.out k hlt
      have hlb := HLB.out
      have hx := HNM.out k hlt s hsk
      obtain ⟨b2, off2, ha2, hcs2⟩ := Sl.at hrow hsk
      have hc2 := hcs2 s hsk
      have HC2 := Lib.hid hcs2
      clear hrow ek hcs2
      rw [ha2] at hc
      rw [ha]
      clear ha
      have HDK := Lib.hid (HDT.out k hlt)
      have HNK := Lib.hid (HNM.out k hlt)
      go_wp2_with fail
      refine (contains_int _ _ _ _ (G.out.drewN _)).mono ?_
      rintro e w1 ⟨rfl, m1, rfl⟩
      cases hy : l.any (fun y => (k : Int) == y)
      · have HY := Lib.hid (bst_take (p := p) (s := s) (n0 := lastV p l s) hy)
        clear hy
        generalize hrow : ri p k = row at *
        have HROW := Lib.hid hrow; clear hrow
        generalize (bst p l s (lastV p l s) k).1 = n at *
        generalize (bst p l s (lastV p l s) k).2 = tl at *
        go_wp2_with fail
        all_goals
          go_loop [13, 40] (fun r i => ∃ t : Nat, t ≤ row.length - (s + 1) ∧ i = .int .i64 t ∧ r = .int .i64 ((row.drop (s + 1)).take t).sum) (fun _ i => (row.length - (s + 1)) - (intOf i).toNat)
          case atStart => exact ⟨0, Nat.zero_le _, rfl, by simp⟩
          case round =>
            obtain ⟨t, ht, rfl, rfl⟩ := hrel
            have hd := HDK.out t
            by_cases hlt2 : t < row.length - (s + 1)
            · first
                | (exfalso; omega)
                | (have hc3 := HC2.out (s + 1 + t) (by omega)
                   rw [← Nat.add_assoc] at hc3
                   have hx3 := HNK.out (s + 1 + t) (by omega)
                   have HDS := Lib.hid (dropTake_succ hlt2)
                   go_wp2_with fail
                   go_round
                   case rel => exact ⟨t + 1, by omega, by go_num, by rw [HDS.out]⟩
                   case measure => simp [intOf]; omega)
            · have HDE := Lib.hid (dropTake_end hlt2)
              rw [HDE.out] at hd ⊢
              by_cases c1 : tl < 0
              · have C1 : decide (tl < 0) = true := by simpa using c1
                have HT : Hid ((if tl < 0 ∨ restV row s < tl then restV row s else tl) = restV row s) := if_pos (Or.inl c1)
                go_wp2_with fail
                go_roundw
                case rel => exact ⟨k + 1, by omega, by go_num, ⟨_, rfl⟩, by rw [HY.out], by rw [HY.out]; simp only []; rw [HT.out]⟩
                case measure => simp [intOf]; omega
              have C1 : decide (tl < 0) = false := by simpa using c1
              by_cases c2 : restV row s < tl
              · have C2 : decide (restV row s < tl) = true := by simpa using c2
                have HT : Hid ((if tl < 0 ∨ restV row s < tl then restV row s else tl) = restV row s) := if_pos (Or.inr c2)
                go_wp2_with fail
                go_roundw
                case rel => exact ⟨k + 1, by omega, by go_num, ⟨_, rfl⟩, by rw [HY.out], by rw [HY.out]; simp only []; rw [HT.out]⟩
                case measure => simp [intOf]; omega
              have C2 : decide (restV row s < tl) = false := by simpa using c2
              have HT : Hid ((if tl < 0 ∨ restV row s < tl then restV row s else tl) = tl) := if_neg (by omega)
              go_wp2_with fail
              go_roundw
              case rel => exact ⟨k + 1, by omega, by go_num, ⟨_, rfl⟩, by rw [HY.out], by rw [HY.out]; simp only []; rw [HT.out]⟩
              case measure => simp [intOf]; omega
      · have HY := Lib.hid (bst_skip (p := p) (s := s) (n0 := lastV p l s) hy)
        clear hy
        go_wp2_with fail
        go_roundw
        case rel => exact ⟨k + 1, by omega, by go_num, ⟨_, rfl⟩, by rw [HY.out], by rw [HY.out]⟩
        case measure => simp [intOf]; omega
    · have hkl : k = p.length := by omega
      have hlb := HLB.out
      have HV : Hid (boundV p l s = (bst p l s (lastV p l s) k).1 + max (bst p l s (lastV p l s) k).2 0) := by rw [hkl]; rfl
      clear hkl
      generalize (bst p l s (lastV p l s) k).1 = n at *
      generalize (bst p l s (lastV p l s) k).2 = tl at *
      go_wp2_with fail
      all_goals (go_ret; exact ⟨ret_int (by rw [HV.out]; omega), _, rfl⟩)

set_option maxHeartbeats 1000000 in
theorem rbound_any (v u : Value) (p : List (List Int)) (l : List Int) (s : Nat) (w : World) (h : SS w v p) (g : SI w u l) (hg : Good p) (hl : rightB p.length l = true) (hs : s < (ri p 0).length) :
    Calls Tryz.prog 72 #[v, u, .int .i64 s] w fun e w' => e = .returned (.int .i64 (boundV p l s)) ∧ Below w.heap.size w w' := by
  have h32 := hg.len
  have HLA := Lib.hid (rlast_any v u p l s w h g hg hl (fun _ => hs))
  have HBB := Lib.hid (fun j hj => bst_bounds (pre := l) hg (n0 := lastV p l s) (lastV_bounds hg hl hs) hs j hj)
  have HLB := Lib.hid (lastV_bounds hg hl hs)
  have HRB := Lib.hid (fun j hj => restV_bounds hg (j := j) hj s)
  have HDT := Lib.hid (fun j hj t => dropTake_bounds hg (j := j) hj s t)
  have HST := Lib.hid hg.st
  have HNM := Lib.hid hg.num
  have G := Lib.hid g
  obtain ⟨vs, ⟨a, cap, rfl, h1, h2, h3⟩, h4⟩ := h
  have H3 := Lib.hid h3; have H4 := Lib.hid h4
  clear h3 h4 g hg hl
  have hm : p.length ≤ 32 := h32
  go_enter Tryz.func72, Tryz.ntmps72
  go_wp2_with fail
  refine HLA.out.mono ?_
  rintro e w1 ⟨rfl, hb1⟩
  go_wp2_with fail
  go_loopw [7, 8, 9] (fun n tl i wr => ∃ k : Nat, k ≤ p.length ∧ i = .int .i64 k ∧ Below w.heap.size w wr ∧ n = .int .i64 (bst p l s (lastV p l s) k).1 ∧ tl = .int .i64 (bst p l s (lastV p l s) k).2) (fun _ _ i _ => p.length - (intOf i).toNat)
  case atStart => exact ⟨0, Nat.zero_le _, rfl, hb1, rfl, rfl⟩
  case round =>
    obtain ⟨k, hk, rfl, hbel, rfl, rfl⟩ := hrel
    clear hb1
    have hbb := HBB.out k hk
    by_cases hlt : k < p.length
    · obtain ⟨b, off, ha, hc⟩ := H3.out k hlt
      obtain ⟨ak, capk, ek, n1, n2, hrow⟩ := H4.out k hlt
      rw [ek] at hc
      have hc := cell_keep hbel hc
      have hsk : s < (ri p k).length := by have := HST.out k hlt; omega
      have hr8 : (ri p k).length ≤ 8 := (HST.out k hlt).2.1
      have hrb := HRB.out k hlt
      have hlb := HLB.out
      have hx := HNM.out k hlt s hsk
      obtain ⟨b2, off2, ha2, hcs2⟩ := Sl.at hrow hsk
      have hc2 := cell_keep hbel (hcs2 s hsk)
      have HC2 := Lib.hid hcs2
      clear hrow ek hcs2
      rw [ha2] at hc
      rw [ha]
      clear ha
      have HDK := Lib.hid (HDT.out k hlt)
      have HNK := Lib.hid (HNM.out k hlt)
      go_wp2_with fail
      refine (has_any _ _ _ _ (G.out.keep hbel)).mono ?_
      rintro e w1 ⟨rfl, m1, rfl⟩
      have hbel := below_drewN' hbel m1
      cases hy : l.any (fun y => (k : Int) == y)
      · have HY := Lib.hid (bst_take (p := p) (s := s) (n0 := lastV p l s) hy)
        clear hy
        generalize hrow : ri p k = row at *
        have HROW := Lib.hid hrow; clear hrow
        generalize (bst p l s (lastV p l s) k).1 = n at *
        generalize (bst p l s (lastV p l s) k).2 = tl at *
        go_wp2_with fail
        all_goals
          go_loop [10, 11] (fun r i => ∃ t : Nat, t ≤ row.length - (s + 1) ∧ i = .int .i64 ((s : Int) + 1 + t) ∧ r = .int .i64 ((row.drop (s + 1)).take t).sum) (fun _ i => row.length - (intOf i).toNat)
          case atStart => exact ⟨0, Nat.zero_le _, by go_num, by simp⟩
          case round =>
            obtain ⟨t, ht, rfl, rfl⟩ := hrel
            have hd := HDK.out t
            by_cases hlt2 : t < row.length - (s + 1)
            · first
                | (exfalso; omega)
                | (have hc3 := cell_keep hbel (HC2.out (s + 1 + t) (by omega))
                   have hx3 := HNK.out (s + 1 + t) (by omega)
                   have HDS := Lib.hid (dropTake_succ hlt2)
                   go_wp2_with fail
                   go_round
                   case rel => exact ⟨t + 1, by omega, by go_num, by rw [HDS.out]⟩
                   case measure => simp [intOf]; omega)
            · have HDE := Lib.hid (dropTake_end hlt2)
              rw [HDE.out] at hd ⊢
              by_cases c1 : tl < 0
              · have C1 : decide (tl < 0) = true := by simpa using c1
                have HT : Hid ((if tl < 0 ∨ restV row s < tl then restV row s else tl) = restV row s) := if_pos (Or.inl c1)
                go_wp2_with fail
                go_roundw
                case rel => exact ⟨k + 1, by omega, by go_num, hbel, by rw [HY.out], by rw [HY.out]; simp only []; rw [HT.out]⟩
                case measure => simp [intOf]; omega
              have C1 : decide (tl < 0) = false := by simpa using c1
              by_cases c2 : restV row s < tl
              · have C2 : decide (restV row s < tl) = true := by simpa using c2
                have HT : Hid ((if tl < 0 ∨ restV row s < tl then restV row s else tl) = restV row s) := if_pos (Or.inr c2)
                go_wp2_with fail
                go_roundw
                case rel => exact ⟨k + 1, by omega, by go_num, hbel, by rw [HY.out], by rw [HY.out]; simp only []; rw [HT.out]⟩
                case measure => simp [intOf]; omega
              have C2 : decide (restV row s < tl) = false := by simpa using c2
              have HT : Hid ((if tl < 0 ∨ restV row s < tl then restV row s else tl) = tl) := if_neg (by omega)
              go_wp2_with fail
              go_roundw
              case rel => exact ⟨k + 1, by omega, by go_num, hbel, by rw [HY.out], by rw [HY.out]; simp only []; rw [HT.out]⟩
              case measure => simp [intOf]; omega
      · have HY := Lib.hid (bst_skip (p := p) (s := s) (n0 := lastV p l s) hy)
        clear hy
        go_wp2_with fail
        go_roundw
        case rel => exact ⟨k + 1, by omega, by go_num, hbel, by rw [HY.out], by rw [HY.out]⟩
        case measure => simp [intOf]; omega
    · have hkl : k = p.length := by omega
      have hlb := HLB.out
      have HV : Hid (boundV p l s = (bst p l s (lastV p l s) k).1 + max (bst p l s (lastV p l s) k).2 0) := by rw [hkl]; rfl
      clear hkl
      generalize (bst p l s (lastV p l s) k).1 = n at *
      generalize (bst p l s (lastV p l s) k).2 = tl at *
      go_wp2_with fail
      all_goals (go_ret; exact ⟨ret_int (by rw [HV.out]; omega), hbel⟩)
end Go.Proofs.YtehbnckdllbmgaaGreatDoor

/- Contracts: Finish, Makespan, Bound of flow and of the reference. -/
namespace Go.Proofs.YtehbnckdllbmgaaGreatDoor
open Go.RowKit

theorem finishE_bad {p : List (List Int)} {l : List Int} (h : checkE p ≠ 0) : finishE p l = checkE p := by simp [finishE, h]
theorem finishE_arg {p : List (List Int)} {l : List Int} (h : checkE p = 0) (h2 : l.length ≠ p.length ∨ rightB p.length l = false) : finishE p l = 2 := by unfold finishE; rw [if_neg (by simp [h]), if_pos h2]
theorem finishE_ok {p : List (List Int)} {l : List Int} (h : checkE p = 0) (h1 : l.length = p.length) (h2 : rightB p.length l = true) : finishE p l = 0 := by simp [finishE, h, h1, h2]
theorem finishE_zero {p : List (List Int)} {l : List Int} (h : finishE p l = 0) : checkE p = 0 ∧ l.length = p.length ∧ rightB p.length l = true := by
  by_cases h0 : checkE p = 0
  · by_cases h1 : l.length ≠ p.length ∨ rightB p.length l = false
    · rw [finishE_arg h0 h1] at h; simp at h
    · refine ⟨h0, ?_, ?_⟩
      · exact Decidable.not_not.1 (fun e => h1 (.inl e))
      · exact Bool.not_eq_false _ ▸ fun e => h1 (.inr e)
  · rw [finishE_bad h0] at h; exact absurd h h0
theorem finishV_err {p : List (List Int)} {l : List Int} (h : finishE p l ≠ 0) : finishV p l = [] := by simp [finishV, h]
theorem finishV_ok {p : List (List Int)} {l : List Int} (h : finishE p l = 0) : finishV p l = timesL p l := by simp [finishV, h]

set_option maxHeartbeats 400000 in
theorem Finish_any (v u : Value) (p : List (List Int)) (l : List Int) (w : World) (h : SS w v p) (g : SI w u l) :
    Calls Tryz.prog 61 #[v, u] w (RetSE w (finishV p l) (finishE p l)) := by
  have H := Lib.hid h
  have G := Lib.hid g
  obtain ⟨vs, ⟨a, cap, rfl, h1, h2, h3⟩, h4⟩ := h
  obtain ⟨a', cap', rfl, g1, g2, g3⟩ := g
  clear h3 h4 g3
  have hm : p.length ≤ 9223372036854775807 := by unfold maxLen at h2; omega
  have hm' : l.length ≤ 9223372036854775807 := by unfold maxLen at g2; omega
  go_enter Tryz.func61, Tryz.ntmps61
  go_wp2_with fail
  refine (check_any _ p w H.out).mono ?_
  rintro e w1 ⟨rfl, m1, rfl⟩
  by_cases c0 : checkE p = 0
  rotate_left
  · have hE := Lib.hid (finishE_bad (l := l) c0)
    have hV := Lib.hid (finishV_err (show finishE p l ≠ 0 by rw [hE.out]; exact c0))
    have hb : (checkE p != 0) = true := by simpa using c0
    clear c0
    go_wp2_with fail
    go_ret2
    exact retSE rfl hE.out.symm (SS_nil _) hV.out.symm (below_drewN' (Below.refl _ _) _)
  have hb : (checkE p != 0) = false := by simpa using c0
  have C0 := Lib.hid c0
  clear c0
  by_cases c1 : l.length = p.length
  rotate_left
  · have hE := Lib.hid (finishE_arg C0.out (.inl c1))
    have hV := Lib.hid (finishV_err (show finishE p l ≠ 0 by rw [hE.out]; decide))
    have hb1 : ((l.length : Int) != (p.length : Int)) = true := by rw [bne_iff_ne]; omega
    clear c1
    go_wp2_with fail
    go_ret2
    exact retSE rfl hE.out.symm (SS_nil _) hV.out.symm (below_drewN' (Below.refl _ _) _)
  have hb1 : ((l.length : Int) != (p.length : Int)) = false := by rw [bne_eq_false_iff_eq]; omega
  have C1 := Lib.hid c1
  clear c1
  go_wp2_with fail
  refine (right_any _ _ p l _ (H.out.drewN _) (G.out.drewN _)).mono ?_
  rintro e w1 ⟨rfl, m2, rfl⟩
  cases c2 : rightB p.length l
  · have hE := Lib.hid (finishE_arg C0.out (.inr c2))
    have hV := Lib.hid (finishV_err (show finishE p l ≠ 0 by rw [hE.out]; decide))
    clear c2
    go_wp2_with fail
    go_ret2
    exact retSE rfl hE.out.symm (SS_nil _) hV.out.symm (below_drewN' (Below.refl _ _) _)
  · have hE := Lib.hid (finishE_ok C0.out C1.out c2)
    have hV := Lib.hid (finishV_ok hE.out)
    have hg := Lib.hid (checkE_zero C0.out)
    have C2 := Lib.hid c2
    clear c2
    go_wp2_with fail
    refine (finish_any _ _ p l _ (H.out.drewN _) (G.out.drewN _) hg.out C2.out (by have := hg.out.len; have := C1.out; omega)).mono ?_
    rintro e w2 ⟨vt, rfl, hst, hb2⟩
    go_wp2_with fail
    go_ret2
    exact retSE rfl hE.out.symm hst hV.out.symm ((below_drewN' (Below.refl _ _) _).trans hb2)

set_option maxHeartbeats 400000 in
theorem rFinish_any (v u : Value) (p : List (List Int)) (l : List Int) (w : World) (h : SS w v p) (g : SI w u l) :
    Calls Tryz.prog 112 #[v, u] w (RetSE w (finishV p l) (finishE p l)) := by
  have H := Lib.hid h
  have G := Lib.hid g
  obtain ⟨vs, ⟨a, cap, rfl, h1, h2, h3⟩, h4⟩ := h
  obtain ⟨a', cap', rfl, g1, g2, g3⟩ := g
  clear h3 h4 g3
  have hm : p.length ≤ 9223372036854775807 := by unfold maxLen at h2; omega
  have hm' : l.length ≤ 9223372036854775807 := by unfold maxLen at g2; omega
  go_enter Tryz.func112, Tryz.ntmps112
  go_wp2_with fail
  refine (shop_any _ p w H.out).mono ?_
  rintro e w1 ⟨rfl, m1, rfl⟩
  by_cases c0 : checkE p = 0
  rotate_left
  · have hE := Lib.hid (finishE_bad (l := l) c0)
    have hV := Lib.hid (finishV_err (show finishE p l ≠ 0 by rw [hE.out]; exact c0))
    have hb : (checkE p != 0) = true := by simpa using c0
    clear c0
    go_wp2_with fail
    go_ret2
    exact retSE rfl hE.out.symm (SS_nil _) hV.out.symm (below_drewN' (Below.refl _ _) _)
  have hb : (checkE p != 0) = false := by simpa using c0
  have C0 := Lib.hid c0
  clear c0
  by_cases c1 : l.length = p.length
  rotate_left
  · have hE := Lib.hid (finishE_arg C0.out (.inl c1))
    have hV := Lib.hid (finishV_err (show finishE p l ≠ 0 by rw [hE.out]; decide))
    have hb1 : ((l.length : Int) != (p.length : Int)) = true := by rw [bne_iff_ne]; omega
    clear c1
    go_wp2_with fail
    go_ret2
    exact retSE rfl hE.out.symm (SS_nil _) hV.out.symm (below_drewN' (Below.refl _ _) _)
  have hb1 : ((l.length : Int) != (p.length : Int)) = false := by rw [bne_eq_false_iff_eq]; omega
  have C1 := Lib.hid c1
  clear c1
  go_wp2_with fail
  refine (distinct_any _ _ p l _ (H.out.drewN _) (G.out.drewN _)).mono ?_
  rintro e w1 ⟨rfl, m2, rfl⟩
  cases c2 : rightB p.length l
  · have hE := Lib.hid (finishE_arg C0.out (.inr c2))
    have hV := Lib.hid (finishV_err (show finishE p l ≠ 0 by rw [hE.out]; decide))
    clear c2
    go_wp2_with fail
    go_ret2
    exact retSE rfl hE.out.symm (SS_nil _) hV.out.symm (below_drewN' (Below.refl _ _) _)
  · have hE := Lib.hid (finishE_ok C0.out C1.out c2)
    have hV := Lib.hid (finishV_ok hE.out)
    have hg := Lib.hid (checkE_zero C0.out)
    have C2 := Lib.hid c2
    clear c2
    go_wp2_with fail
    refine (times_any _ _ p l _ (H.out.drewN _) (G.out.drewN _) hg.out C2.out (by have := hg.out.len; have := C1.out; omega)).mono ?_
    rintro e w2 ⟨vt, rfl, hst, hb2⟩
    go_wp2_with fail
    go_ret2
    exact retSE rfl hE.out.symm hst hV.out.symm ((below_drewN' (Below.refl _ _) _).trans hb2)

theorem rlength_any (v u : Value) (p : List (List Int)) (l : List Int) (w : World) (h : SS w v p) (g : SI w u l) (hg : Good p) (hl : rightB p.length l = true) :
    Calls Tryz.prog 113 #[v, u] w fun e w' => e = .returned (.int .i64 (lastV p l ((ri p 0).length - 1))) ∧ Below w.heap.size w w' := by
  have hn := rightB_len hl
  have h32 := hg.len
  have H := Lib.hid h
  have G := Lib.hid g
  obtain ⟨a', cap', rfl, g1, g2, g3⟩ := g
  clear g3
  obtain ⟨vs, ⟨a, cap, rfl, h1, h2, h3⟩, h4⟩ := h
  by_cases h0 : l.length = 0
  · have hf := Lib.hid (show lastV p l ((ri p 0).length - 1) = 0 by simp [lastV, h0])
    have h0' : ((l.length : Int) == 0) = true := by rw [beq_iff_eq]; omega
    clear h0 h3 h4
    go_enter Tryz.func113, Tryz.ntmps113
    go_wp2_with fail
    go_ret
    exact ⟨ret_int hf.out.symm, Below.refl _ _⟩
  · have h0' : ((l.length : Int) == 0) = false := by rw [beq_eq_false_iff_ne]; omega
    have hp0 : 0 < p.length := by omega
    have hst := hg.st 0 hp0
    obtain ⟨b, off, rfl, hc⟩ := h3 0 hp0
    obtain ⟨ak, capk, ek, n1, n2, hrow⟩ := h4 0 hp0
    rw [ek, Nat.add_zero] at hc
    have h1r : 1 ≤ (ri p 0).length := hst.1
    have h8r : (ri p 0).length ≤ 8 := hst.2.1
    have HR := Lib.hid (rlast_any _ _ p l ((ri p 0).length - 1) w H.out G.out hg hl (fun _ => by omega))
    clear h0 h3 h4 ek hrow hst hg hl
    have he : (((ri p 0).length - 1 : Nat) : Int) = ((ri p 0).length : Int) - 1 := by omega
    rw [he] at HR
    clear he
    go_enter Tryz.func113, Tryz.ntmps113
    go_wp2_with fail
    refine HR.out.mono ?_
    rintro e w1 ⟨rfl, hb1⟩
    go_wp2_with fail
    go_ret
    exact ⟨rfl, hb1⟩
end Go.Proofs.YtehbnckdllbmgaaGreatDoor

/- Contracts: Makespan, Bound of flow and of the reference. -/
namespace Go.Proofs.YtehbnckdllbmgaaGreatDoor
open Go.RowKit

theorem lastV_nil {p : List (List Int)} {l : List Int} {s : Nat} (h : l.length = 0) : lastV p l s = 0 := by simp [lastV, h]
theorem spanV_err {p : List (List Int)} {l : List Int} (h : finishE p l ≠ 0) : spanV p l = 0 := by simp [spanV, h]
theorem spanV_ok {p : List (List Int)} {l : List Int} (h : finishE p l = 0) : spanV p l = lastV p l ((ri p 0).length - 1) := by simp [spanV, h]

set_option maxHeartbeats 400000 in
theorem rMakespan_any (v u : Value) (p : List (List Int)) (l : List Int) (w : World) (h : SS w v p) (g : SI w u l) :
    Calls Tryz.prog 79 #[v, u] w (RetNE w (spanV p l) (finishE p l)) := by
  have H := Lib.hid h; clear h
  have G := Lib.hid g; clear g
  go_enter Tryz.func79, Tryz.ntmps79
  go_wp2_with fail
  refine (rFinish_any _ _ p l w H.out G.out).mono ?_
  rintro e w1 ⟨vt, rfl, hst, hb1⟩
  clear hst
  by_cases c0 : finishE p l = 0
  · have hb : (finishE p l != 0) = false := by simpa using c0
    have hV := Lib.hid (spanV_ok c0)
    have hz := finishE_zero c0
    have HG := Lib.hid (checkE_zero hz.1)
    have HL := Lib.hid hz.2.2
    have C0 := Lib.hid c0
    clear c0 hz
    go_wp2_with fail
    refine (rlength_any _ _ p l w1 (H.out.keep hb1) (G.out.keep hb1) HG.out HL.out).mono ?_
    rintro e w2 ⟨rfl, hb2⟩
    go_wp2_with fail
    go_ret2
    exact retNE rfl C0.out.symm hV.out.symm (ext_trans hb1 hb2)
  · have hb : (finishE p l != 0) = true := by simpa using c0
    have hV := Lib.hid (spanV_err c0)
    clear c0
    go_wp2_with fail
    go_ret2
    exact retNE rfl rfl hV.out.symm hb1

set_option maxHeartbeats 400000 in
theorem Makespan_any (v u : Value) (p : List (List Int)) (l : List Int) (w : World) (h : SS w v p) (g : SI w u l) :
    Calls Tryz.prog 29 #[v, u] w (RetNE w (spanV p l) (finishE p l)) := by
  have H := Lib.hid h
  have G := Lib.hid g; clear g
  obtain ⟨vs, ⟨a, cap, rfl, h1, h2, h3⟩, h4⟩ := h
  go_enter Tryz.func29, Tryz.ntmps29
  have H3 := Lib.hid h3; have H4 := Lib.hid h4
  clear h3 h4
  go_wp2_with fail
  refine (Finish_any _ _ p l w H.out G.out).mono ?_
  rintro e w1 ⟨vt, rfl, hst, hb1⟩
  by_cases c0 : finishE p l = 0
  · have hb : (finishE p l != 0) = false := by simpa using c0
    have hV := Lib.hid (spanV_ok c0)
    have hz := finishE_zero c0
    have HG := Lib.hid (checkE_zero hz.1)
    have HL := Lib.hid hz.2.2
    have h32 := HG.out.len
    have C0 := Lib.hid c0
    rw [finishV_ok c0] at hst
    have HST := Lib.hid hst
    obtain ⟨ts, ⟨at', capt, rfl, t1, t2, t3⟩, t4⟩ := hst
    have T1 := timesL_length p l
    rw [T1] at t1 ⊢
    have hlp := hz.2.1
    clear t3 t4 c0 hz
    by_cases hl0 : l.length = 0
    · have hl0' : ((l.length : Int) == 0) = true := by rw [beq_iff_eq]; omega
      have hf := Lib.hid (lastV_nil (p := p) (s := (ri p 0).length - 1) hl0)
      clear hl0 hlp T1
      go_wp2_with fail
      go_ret2
      exact retNE rfl rfl (by rw [hV.out, hf.out]) hb1
    · have hl0' : ((l.length : Int) == 0) = false := by rw [beq_eq_false_iff_ne]; omega
      have hp0 : 0 < p.length := by omega
      have hst := HG.out.st 0 hp0
      obtain ⟨b, off, rfl, hc⟩ := H3.out 0 hp0
      obtain ⟨ak, capk, ek, n1, n2, hrow⟩ := H4.out 0 hp0
      rw [ek, Nat.add_zero] at hc
      have hc := cell_keep hb1 hc
      have h1r : 1 ≤ (ri p 0).length := hst.1
      have h8r : (ri p 0).length ≤ 8 := hst.2.1
      have hrl : ∀ k, k < l.length → (ri p 0).length - 1 < (jobRow p l k).length := fun k hk => by rw [jobRow_st HG.out HL.out hk]; omega
      have HF := Lib.hid (lastOf_times hrl)
      have HLA := Lib.hid (last_any _ (timesL p l) ((ri p 0).length - 1) w1 HST.out (fun _ => by
        rw [T1, timesL_ri (by omega), rowL_length]; exact hrl _ (by omega)))
      have he : (((ri p 0).length - 1 : Nat) : Int) = ((ri p 0).length : Int) - 1 := by omega
      rw [he, T1] at HLA
      clear he hrow ek hst hrl hl0 T1
      have HLP := Lib.hid hlp; clear hlp
      go_wp2_with fail
      refine HLA.out.mono ?_
      rintro e w2 ⟨rfl, m, rfl⟩
      go_wp2_with fail
      go_ret2
      exact retNE rfl C0.out.symm (by rw [hV.out, HF.out]) (below_drewN' hb1 _)
  · have hb : (finishE p l != 0) = true := by simpa using c0
    have hV := Lib.hid (spanV_err c0)
    clear c0 hst
    go_wp2_with fail
    go_ret2
    exact retNE rfl rfl hV.out.symm hb1

theorem boundE_bad {p : List (List Int)} {l : List Int} {s : Int} (h : checkE p ≠ 0) : boundE p l s = checkE p := by simp [boundE, h]
theorem boundE_arg {p : List (List Int)} {l : List Int} {s : Int} (h : checkE p = 0) (h2 : rightB p.length l = false ∨ p.length = 0 ∨ s < 0 ∨ (ri p 0).length ≤ s) : boundE p l s = 2 := by
  unfold boundE; rw [if_neg (by simp [h]), if_pos h2]
theorem boundE_ok {p : List (List Int)} {l : List Int} {s : Int} (h : checkE p = 0) (h2 : ¬ (rightB p.length l = false ∨ p.length = 0 ∨ s < 0 ∨ (ri p 0).length ≤ s)) : boundE p l s = 0 := by
  unfold boundE; rw [if_neg (by simp [h]), if_neg h2]
theorem boundR_err {p : List (List Int)} {l : List Int} {s : Int} (h : boundE p l s ≠ 0) : boundR p l s = 0 := by simp [boundR, h]
theorem boundR_ok {p : List (List Int)} {l : List Int} {s : Int} (h : boundE p l s = 0) : boundR p l s = boundV p l s.toNat := by simp [boundR, h]

set_option maxHeartbeats 800000 in
theorem Bound_any (v u : Value) (p : List (List Int)) (l : List Int) (s : Int) (w : World) (h : SS w v p) (g : SI w u l) :
    Calls Tryz.prog 35 #[v, u, .int .i64 s] w (RetNE w (boundR p l s) (boundE p l s)) := by
  have H := Lib.hid h
  have G := Lib.hid g; clear g
  obtain ⟨vs, ⟨a, cap, rfl, h1, h2, h3⟩, h4⟩ := h
  have H3 := Lib.hid h3; have H4 := Lib.hid h4
  clear h3 h4
  have hm : p.length ≤ 9223372036854775807 := by unfold maxLen at h2; omega
  go_enter Tryz.func35, Tryz.ntmps35
  go_wp2_with fail
  refine (check_any _ p w H.out).mono ?_
  rintro e w1 ⟨rfl, m1, rfl⟩
  by_cases c0 : checkE p = 0
  rotate_left
  · have hE := Lib.hid (boundE_bad (l := l) (s := s) c0)
    have hV := Lib.hid (boundR_err (show boundE p l s ≠ 0 by rw [hE.out]; exact c0))
    have hb : (checkE p != 0) = true := by simpa using c0
    clear c0
    go_wp2_with fail
    go_ret2
    exact retNE rfl hE.out.symm hV.out.symm (below_drewN' (Below.refl _ _) _)
  have hb : (checkE p != 0) = false := by simpa using c0
  have C0 := Lib.hid c0
  clear c0
  go_wp2_with fail
  refine (right_any _ _ p l _ (H.out.drewN _) (G.out.drewN _)).mono ?_
  rintro e w1 ⟨rfl, m2, rfl⟩
  cases c2 : rightB p.length l
  · have hE := Lib.hid (boundE_arg (s := s) C0.out (.inl c2))
    have hV := Lib.hid (boundR_err (show boundE p l s ≠ 0 by rw [hE.out]; decide))
    clear c2
    go_wp2_with fail
    go_ret2
    exact retNE rfl hE.out.symm hV.out.symm (below_drewN' (Below.refl _ _) _)
  have C2 := Lib.hid c2
  clear c2
  by_cases c3 : p.length = 0
  · have hE := Lib.hid (boundE_arg (l := l) (s := s) C0.out (.inr (.inl c3)))
    have hV := Lib.hid (boundR_err (show boundE p l s ≠ 0 by rw [hE.out]; decide))
    have hb3 : ((p.length : Int) == 0) = true := by rw [beq_iff_eq]; omega
    clear c3
    go_wp2_with fail
    go_ret2
    exact retNE rfl hE.out.symm hV.out.symm (below_drewN' (Below.refl _ _) _)
  have hb3 : ((p.length : Int) == 0) = false := by rw [beq_eq_false_iff_ne]; omega
  by_cases c4 : s < 0
  · have hE := Lib.hid (boundE_arg (l := l) C0.out (.inr (.inr (.inl c4))))
    have hV := Lib.hid (boundR_err (show boundE p l s ≠ 0 by rw [hE.out]; decide))
    have hb4 : decide (s < 0) = true := by simpa using c4
    clear c3
    go_wp2_with fail
    go_ret2
    exact retNE rfl hE.out.symm hV.out.symm (below_drewN' (Below.refl _ _) _)
  have hb4 : decide (s < 0) = false := by simpa using c4
  have hp0 : 0 < p.length := by omega
  obtain ⟨b, off, ha, hc⟩ := H3.out 0 hp0
  have HS0 := Lib.hid (H4.out 0 hp0)
  obtain ⟨ak, capk, ek, n1, n2, hrow⟩ := H4.out 0 hp0
  rw [ek, Nat.add_zero] at hc
  clear hrow ek
  have hmr : (ri p 0).length ≤ 9223372036854775807 := by unfold maxLen at n2; omega
  rw [ha] at H H3 ⊢
  clear ha
  by_cases c5 : ((ri p 0).length : Int) ≤ s
  · have hE := Lib.hid (boundE_arg (l := l) C0.out (.inr (.inr (.inr c5))))
    have hV := Lib.hid (boundR_err (show boundE p l s ≠ 0 by rw [hE.out]; decide))
    have hb5 : decide (((ri p 0).length : Int) ≤ s) = true := by simpa using c5
    clear c3 c4
    go_wp2_with fail
    go_ret2
    exact retNE rfl hE.out.symm hV.out.symm (below_drewN' (Below.refl _ _) _)
  have hb5 : decide (((ri p 0).length : Int) ≤ s) = false := by simpa using c5
  have hE := Lib.hid (boundE_ok (l := l) (s := s) C0.out (by rw [C2.out]; simp only [Bool.true_eq_false, false_or]; omega))
  have hV := Lib.hid (boundR_ok hE.out)
  have hg := Lib.hid (checkE_zero C0.out)
  have hs : s.toNat < (ri p 0).length := by omega
  obtain ⟨sn, hsn⟩ := Int.eq_ofNat_of_zero_le (show 0 ≤ s by omega)
  subst hsn
  clear c3 c4 c5
  go_wp2_with fail
  refine (finish_any _ _ p l _ (H.out.drewN _) (G.out.drewN _) hg.out C2.out (by have := hg.out.len; have := rightB_len C2.out; omega)).mono ?_
  rintro e w2 ⟨vt, rfl, hst, hb2⟩
  have HST := Lib.hid hst; clear hst
  have hb2' : Below w.heap.size w w2 := (below_drewN' (Below.refl _ _) _).trans hb2
  clear hb2
  go_wp2_with fail
  refine (fbound_any _ _ _ p l sn w2 (H.out.keep hb2') (G.out.keep hb2') HST.out hg.out C2.out hs).mono ?_
  rintro e w3 ⟨rfl, m3, rfl⟩
  go_wp2_with fail
  go_ret2
  exact retNE rfl hE.out.symm hV.out.symm (below_drewN' hb2' _)

set_option maxHeartbeats 800000 in
theorem rBound_any (v u : Value) (p : List (List Int)) (l : List Int) (s : Int) (w : World) (h : SS w v p) (g : SI w u l) :
    Calls Tryz.prog 34 #[v, u, .int .i64 s] w (RetNE w (boundR p l s) (boundE p l s)) := by
  have H := Lib.hid h
  have G := Lib.hid g; clear g
  obtain ⟨vs, ⟨a, cap, rfl, h1, h2, h3⟩, h4⟩ := h
  have H3 := Lib.hid h3; have H4 := Lib.hid h4
  clear h3 h4
  have hm : p.length ≤ 9223372036854775807 := by unfold maxLen at h2; omega
  go_enter Tryz.func34, Tryz.ntmps34
  go_wp2_with fail
  refine (shop_any _ p w H.out).mono ?_
  rintro e w1 ⟨rfl, m1, rfl⟩
  by_cases c0 : checkE p = 0
  rotate_left
  · have hE := Lib.hid (boundE_bad (l := l) (s := s) c0)
    have hV := Lib.hid (boundR_err (show boundE p l s ≠ 0 by rw [hE.out]; exact c0))
    have hb : (checkE p != 0) = true := by simpa using c0
    clear c0
    go_wp2_with fail
    go_ret2
    exact retNE rfl hE.out.symm hV.out.symm (below_drewN' (Below.refl _ _) _)
  have hb : (checkE p != 0) = false := by simpa using c0
  have C0 := Lib.hid c0
  clear c0
  by_cases c3 : p.length = 0
  · have hE := Lib.hid (boundE_arg (l := l) (s := s) C0.out (.inr (.inl c3)))
    have hV := Lib.hid (boundR_err (show boundE p l s ≠ 0 by rw [hE.out]; decide))
    have hb3 : ((p.length : Int) == 0) = true := by rw [beq_iff_eq]; omega
    clear c3
    go_wp2_with fail
    go_ret2
    exact retNE rfl hE.out.symm hV.out.symm (below_drewN' (Below.refl _ _) _)
  have hb3 : ((p.length : Int) == 0) = false := by rw [beq_eq_false_iff_ne]; omega
  go_wp2_with fail
  refine (distinct_any _ _ p l _ (H.out.drewN _) (G.out.drewN _)).mono ?_
  rintro e w1 ⟨rfl, m2, rfl⟩
  cases c2 : rightB p.length l
  · have hE := Lib.hid (boundE_arg (s := s) C0.out (.inl c2))
    have hV := Lib.hid (boundR_err (show boundE p l s ≠ 0 by rw [hE.out]; decide))
    clear c2
    go_wp2_with fail
    go_ret2
    exact retNE rfl hE.out.symm hV.out.symm (below_drewN' (Below.refl _ _) _)
  have C2 := Lib.hid c2
  clear c2
  by_cases c4 : s < 0
  · have hE := Lib.hid (boundE_arg (l := l) C0.out (.inr (.inr (.inl c4))))
    have hV := Lib.hid (boundR_err (show boundE p l s ≠ 0 by rw [hE.out]; decide))
    have hb4 : decide (s < 0) = true := by simpa using c4
    clear c3
    go_wp2_with fail
    go_ret2
    exact retNE rfl hE.out.symm hV.out.symm (below_drewN' (Below.refl _ _) _)
  have hb4 : decide (s < 0) = false := by simpa using c4
  have hp0 : 0 < p.length := by omega
  obtain ⟨b, off, ha, hc⟩ := H3.out 0 hp0
  have HS0 := Lib.hid (H4.out 0 hp0)
  obtain ⟨ak, capk, ek, n1, n2, hrow⟩ := H4.out 0 hp0
  rw [ek, Nat.add_zero] at hc
  clear hrow ek
  have hmr : (ri p 0).length ≤ 9223372036854775807 := by unfold maxLen at n2; omega
  rw [ha] at H H3 ⊢
  clear ha
  by_cases c5 : ((ri p 0).length : Int) ≤ s
  · have hE := Lib.hid (boundE_arg (l := l) C0.out (.inr (.inr (.inr c5))))
    have hV := Lib.hid (boundR_err (show boundE p l s ≠ 0 by rw [hE.out]; decide))
    have hb5 : decide (((ri p 0).length : Int) ≤ s) = true := by simpa using c5
    clear c3 c4
    go_wp2_with fail
    go_ret2
    exact retNE rfl hE.out.symm hV.out.symm (below_drewN' (Below.refl _ _) _)
  have hb5 : decide (((ri p 0).length : Int) ≤ s) = false := by simpa using c5
  have hE := Lib.hid (boundE_ok (l := l) (s := s) C0.out (by rw [C2.out]; simp only [Bool.true_eq_false, false_or]; omega))
  have hV := Lib.hid (boundR_ok hE.out)
  have hg := Lib.hid (checkE_zero C0.out)
  have hs : s.toNat < (ri p 0).length := by omega
  obtain ⟨sn, hsn⟩ := Int.eq_ofNat_of_zero_le (show 0 ≤ s by omega)
  subst hsn
  clear c3 c4 c5
  go_wp2_with fail
  refine (rbound_any _ _ p l sn _ (H.out.drewN _) (G.out.drewN _) hg.out C2.out hs).mono ?_
  rintro e w3 ⟨rfl, hb3⟩
  go_wp2_with fail
  go_ret2
  exact retNE rfl hE.out.symm hV.out.symm ((below_drewN' (Below.refl _ _) _).trans hb3)
end Go.Proofs.YtehbnckdllbmgaaGreatDoor

/- Contracts: the reference's Same, SameRows, Light. -/
namespace Go.Proofs.YtehbnckdllbmgaaGreatDoor
open Go.RowKit

theorem eq_gi {xs ys : List Int} {k : Nat} (hk : k < xs.length) (hl : xs.length = ys.length) (h : gi xs k ≠ gi ys k) : decide (xs = ys) = false := by
  rw [decide_eq_false_iff_not]; intro e; subst e; exact h rfl
theorem eq_gi_all {xs ys : List Int} (hl : xs.length = ys.length) (h : ∀ k, k < xs.length → gi xs k = gi ys k) : decide (xs = ys) = true := by
  rw [decide_eq_true_eq]; exact gi_ext hl h

theorem eq_ri {xs ys : List (List Int)} {k : Nat} (hk : k < xs.length) (h : decide (ri xs k = ri ys k) = false) : decide (xs = ys) = false := by
  rw [decide_eq_false_iff_not] at *; intro e; subst e; exact h rfl
theorem eq_ri_all {xs ys : List (List Int)} (hl : xs.length = ys.length) (h : ∀ k, k < xs.length → decide (ri xs k = ri ys k) = true) : decide (xs = ys) = true := by
  rw [decide_eq_true_eq]; exact ri_ext hl (fun i hi => by simpa using h i hi)

def lightB (p : List (List Int)) (most : Int) : Bool := decide (∀ j, j < p.length → (ri p j).length ≤ 12) && decide ((p.length : Int) ≤ most)

end Go.Proofs.YtehbnckdllbmgaaGreatDoor

/- Contract: the law's permutation. -/
namespace Go.Proofs.YtehbnckdllbmgaaGreatDoor
open Go.RowKit

theorem Tryz_infoBool : (Tryz.prog.info? 4).map (fun i => (i.zero, i.size, i.bytes)) = some (some (.bool false), 1, 1) := by kernel_rfl
def seenB (l : List Int) (k : Nat) (x : Int) : Bool := (l.take k).any fun y => x == y
def seenL (l : List Int) (k n : Nat) : List Value := (List.range n).map fun (i : Nat) => .bool (seenB l k (i : Int))
theorem seenL_zero (l : List Int) (n : Nat) : seenL l 0 n = (madeCells #[Value.bool false] n).toList := by
  rw [toList_madeCells_one]
  apply List.ext_getElem
  · simp [seenL]
  · intro i h1 h2; simp [seenL, seenB]
theorem seenL_get (l : List Int) (k : Nat) {n x : Nat} (h : x < n) : (seenL l k n)[x]? = some (.bool (seenB l k x)) := by simp [seenL, h]
theorem seenL_set (l : List Int) {k : Nat} (n x : Nat) (hk : k < l.length) (hx : gi l k = x) : (seenL l k n).set x (.bool true) = seenL l (k + 1) n := by
  apply List.ext_getElem
  · simp [seenL]
  · intro i h1 h2
    rw [List.getElem_set]
    simp only [seenL, List.getElem_map, List.getElem_range, seenB]
    rw [take_succ_gi hk, List.any_append, hx]
    split
    · rename_i e; subst e; simp
    · rename_i e
      have : ((i : Int) == (x : Int)) = false := by rw [beq_eq_false_iff_ne]; omega
      simp [this]

/-- a permutation of n jobs, n at most 60 -/
def permB (l : List Int) (n : Nat) : Bool := decide (l.length = n) && decide (n ≤ 60) && rightB n l

end Go.Proofs.YtehbnckdllbmgaaGreatDoor

/- The reference's search: its state in memory. -/
namespace Go.Proofs.YtehbnckdllbmgaaGreatDoor
open Go.RowKit

/-- the block of the search's record -/
def blockX (pv : Value) (left : Nat) (ov : Value) (span : Int) (found : Bool) : Obj := .cells #[pv, .int .i64 left, ov, .int .i64 span, .bool found] 109 (0, 0)
/-- the record at block X reads as the state st -/
def RepX (w : World) (B X : Nat) (pv : Value) (st : St) : Prop := ∃ ov, w.heap[X]? = some (blockX pv st.left ov st.span st.found) ∧ OwnI w B ov st.order

theorem grownBy_trans {a b c : World} {row : Option Nat} (h : a.grownBy b row) (k : b.grownBy c row) : a.grownBy c row :=
  ⟨k.os.trans h.os, k.tape.trans h.tape, k.output.trans h.output, Nat.le_trans h.size k.size, fun i hi hn => (k.block i (Nat.lt_of_lt_of_le hi h.size) hn).trans (h.block i hi hn)⟩
theorem grownBy_of_below {a b : World} (h : Below a.heap.size a b) (row : Option Nat) : a.grownBy b row := ⟨h.os, h.tape, h.output, h.size, fun k hk _ => h.block k hk⟩
theorem grownBy_setCell (w : World) (b o : Nat) (v : Value) : w.grownBy (w.setCell ⟨b, o, none⟩ v) (some b) :=
  ⟨rfl, rfl, rfl, by simp [World.setCell], fun k hk hn => Below.heap_setCell _ _ _ _ (fun e => hn (by simp [e]))⟩
theorem below_of_grownBy {w0 w w' : World} {X : Nat} (h : Below w0.heap.size w0 w) (hg : w.grownBy w' (some X)) (hX : w0.heap.size ≤ X) : Below w0.heap.size w0 w' :=
  h.grown hg h.size (fun k hk => by simp at hk; omega)
theorem own_ne_block {w : World} {B : Nat} {v : Value} {r : List Int} {X : Nat} {cur : Array Value} {T : TypeId} {fr : Nat × Nat} (h : OwnI w B v r) (hX : w.heap[X]? = some (.cells cur T fr)) (hT : 3 ≠ T) : v.ownBlock ≠ some X := by
  have h' : w.ownsRow B 3 1 v r.length (r.map (Value.int .i64)) := h
  rcases h'.2 with ⟨rfl, _⟩ | ⟨g, cap, cur', rfl, _, hg, _⟩
  · simp [Value.ownBlock]
  · simp only [Value.ownBlock, ne_eq, Option.some.injEq]
    intro e
    subst e
    rw [hX] at hg
    simp at hg
    exact hT hg.2.1.symm
theorem OwnI.grown {w w' : World} {B : Nat} {v : Value} {r : List Int} {X : Nat} (h : OwnI w B v r) (hg : w.grownBy w' (some X)) (hne : v.ownBlock ≠ some X) : OwnI w' B v r := World.ownsRow.kept h hg (.inr hne)

theorem RepX.ne {w : World} {B X : Nat} {pv : Value} {st : St} (h : RepX w B X pv st) {v : Value} {r : List Int} (hv : OwnI w B v r) : v.ownBlock ≠ some X := by
  obtain ⟨ov, hx, _⟩ := h
  exact own_ne_block hv hx (by decide)
theorem RepX.below {w w' : World} {B X : Nat} {pv : Value} {st : St} (h : RepX w B X pv st) (hb : Below w.heap.size w w') : RepX w' B X pv st := by
  obtain ⟨ov, hx, ho⟩ := h
  exact ⟨ov, by rw [hb.block X (lt_of_block hx)]; exact hx, ho.below hb⟩
theorem RepX.c0 {w : World} {B X : Nat} {pv : Value} {st : St} (h : RepX w B X pv st) : w.cell? ⟨X, 0, none⟩ = some pv := by obtain ⟨ov, hx, _⟩ := h; simp [World.cell?, hx, blockX]
theorem RepX.c1 {w : World} {B X : Nat} {pv : Value} {st : St} (h : RepX w B X pv st) : w.cell? ⟨X, 1, none⟩ = some (.int .i64 st.left) := by obtain ⟨ov, hx, _⟩ := h; simp [World.cell?, hx, blockX]
theorem RepX.c2 {w : World} {B X : Nat} {pv : Value} {st : St} (h : RepX w B X pv st) : ∃ ov, w.cell? ⟨X, 2, none⟩ = some ov ∧ OwnI w B ov st.order := by obtain ⟨ov, hx, ho⟩ := h; exact ⟨ov, by simp [World.cell?, hx, blockX], ho⟩
theorem RepX.c3 {w : World} {B X : Nat} {pv : Value} {st : St} (h : RepX w B X pv st) : w.cell? ⟨X, 3, none⟩ = some (.int .i64 st.span) := by obtain ⟨ov, hx, _⟩ := h; simp [World.cell?, hx, blockX]
theorem RepX.c4 {w : World} {B X : Nat} {pv : Value} {st : St} (h : RepX w B X pv st) : w.cell? ⟨X, 4, none⟩ = some (.bool st.found) := by obtain ⟨ov, hx, _⟩ := h; simp [World.cell?, hx, blockX]
theorem RepX.fz {w : World} {B X : Nat} {pv : Value} {st : St} (h : RepX w B X pv st) (i : Nat) : w.frozen? ⟨X, i, none⟩ = false := by obtain ⟨ov, hx, _⟩ := h; simp [World.frozen?, hx, blockX]
theorem RepX.setLeft {w : World} {B X : Nat} {pv : Value} {st : St} (h : RepX w B X pv st) (l : Nat) : RepX (w.setCell ⟨X, 1, none⟩ (.int .i64 l)) B X pv { st with left := l } := by
  have hne := fun {v r} (hv : OwnI w B v r) => h.ne hv
  obtain ⟨ov, hx, ho⟩ := h
  exact ⟨ov, heap_setCell_same w X 1 _ _ _ hx, ho.grown (grownBy_setCell _ _ _ _) (hne ho)⟩
theorem RepX.setBest {w : World} {B X : Nat} {pv : Value} {st : St} (h : RepX w B X pv st) {ov : Value} {r : List Int} (hv : OwnI w B ov r) (n : Int) :
    RepX (((w.setCell ⟨X, 2, none⟩ ov).setCell ⟨X, 3, none⟩ (.int .i64 n)).setCell ⟨X, 4, none⟩ (.bool true)) B X pv { st with order := r, span := n, found := true } := by
  have hne := h.ne hv
  obtain ⟨ov', hx, _⟩ := h
  have h1 := heap_setCell_same w X 2 _ _ ov hx
  have h2 := heap_setCell_same _ X 3 _ _ (.int .i64 n) h1
  have h3 := heap_setCell_same _ X 4 _ _ (.bool true) h2
  exact ⟨ov, h3, ((hv.grown (grownBy_setCell _ _ _ _) hne).grown (grownBy_setCell _ _ _ _) hne).grown (grownBy_setCell _ _ _ _) hne⟩

/-- what explore leaves -/
def PostX (w : World) (B X : Nat) (pv : Value) (p : List (List Int)) (f : Nat) (st : St) (pre : List Int) (e : Ending) (w' : World) : Prop :=
  w.grownBy w' (some X) ∧ match expl p f st pre with
    | some st' => e = .returned (.bool true) ∧ RepX w' B X pv st'
    | none => e = .returned (.bool false)
end Go.Proofs.YtehbnckdllbmgaaGreatDoor

/- Contract: the reference's explore. -/
namespace Go.Proofs.YtehbnckdllbmgaaGreatDoor
open Go.RowKit

set_option maxHeartbeats 1000000 in
set_option maxRecDepth 100000 in
theorem explore_leaf (w0 w : World) (X : Nat) (pv u : Value) (p : List (List Int)) (st : St) (pre : List Int) (hp : SS w0 pv p) (hb0 : Below w0.heap.size w0 w) (hX : w0.heap.size ≤ X)
    (hr : RepX w w0.heap.size X pv st) (hu : OwnI w w0.heap.size u pre) (hg : Good p) (hpre : rightB p.length pre = true) (hl : pre.length = p.length) :
    Calls Tryz.prog 82 #[.pointer (some ⟨X, 0, none⟩), u] w (PostX w w0.heap.size X pv p 0 st pre) := by
  have HP := Lib.hid hp
  have HU := Lib.hid hu
  have HR := Lib.hid hr
  have HG := Lib.hid hg
  have HPRE := Lib.hid hpre
  have h32 := hg.len
  obtain ⟨vs, ⟨a, cap, rfl, h1, h2, h3⟩, h4⟩ := hp
  obtain ⟨a', cap', rfl, g1, g2, g3⟩ := hu.si
  have hb : ((pre.length : Int) == (p.length : Int)) = true := by rw [beq_iff_eq]; omega
  have hp32 : pre.length ≤ 32 := by omega
  clear h3 h4 g3 hl hg hpre hu
  have c0 := hr.c0
  clear hr
  go_enter Tryz.func82, Tryz.ntmps82
  go_wp2_with fail
  refine (rlength_any _ _ p pre w (HP.out.keep hb0) HU.out.si HG.out HPRE.out).mono ?_
  rintro e w1 ⟨rfl, hb1⟩
  clear c0
  have HR1 := Lib.hid (HR.out.below hb1)
  have HU1 := Lib.hid (HU.out.below hb1)
  have c3 := HR1.out.c3
  have c4 := HR1.out.c4
  have HN : Hid (lenV p pre = lastV p pre ((ri p 0).length - 1)) := rfl
  have HNE := Lib.hid (HR1.out.ne HU1.out)
  have hXl : X < w1.heap.size := by obtain ⟨ov, hx, _⟩ := HR1.out; exact lt_of_block hx
  by_cases hc : st.found = false ∨ lastV p pre ((ri p 0).length - 1) < st.span
  · have HL := Lib.hid (leaf_hit (p := p) (pre := pre) hc)
    cases hf : st.found
    · rw [hf] at c4
      clear hf hc
      have cf := HR1.out.fz
      go_wp2_with (at_builtin; refine wpList_app_int rfl _ _ rfl w0.heap.size _ _ [] pre rfl rfl (OwnI_empty _ _ (Nat.le_trans hb0.size hb1.size)) (HU1.out.si.alloc _) (by simp; omega) (by have := hb0.size; have := hb1.size; simp; omega) ?_)
      intro v' w2 ho hgr _
      have hb2 : Below w1.heap.size w1 w2 := ((Below.refl _ _).alloc (Nat.le_refl _) _).grown hgr (by simp) (by simp [Value.ownBlock])
      obtain ⟨av, cv, ev, _, _, _⟩ := ho.si
      rw [ev] at ho ⊢
      clear ev
      have HO := Lib.hid ho
      have HB2 := Lib.hid hb2
      have HR2 := Lib.hid (HR1.out.below hb2)
      clear ho hgr hb2 c3 c4 cf
      obtain ⟨ov, c2, _⟩ := HR2.out.c2
      have c3 := HR2.out.c3
      have c4 := HR2.out.c4
      have cf := HR2.out.fz
      go_wp2_with fail
      go_ret
      refine ⟨grownBy_trans (grownBy_of_below (ext_trans hb1 HB2.out) _) (grownBy_trans (grownBy_trans (grownBy_setCell _ _ _ _) (grownBy_setCell _ _ _ _)) (grownBy_setCell _ _ _ _)), ?_⟩
      rw [expl_zero, HL.out]
      exact ⟨rfl, HR2.out.setBest HO.out _⟩
    · rw [hf] at c4
      have hlt : lastV p pre ((ri p 0).length - 1) < st.span := by rcases hc with hc | hc; rw [hf] at hc; cases hc; exact hc
      have hb4 : decide (lastV p pre ((ri p 0).length - 1) < st.span) = true := by simpa using hlt
      clear hf hc hlt
      have cf := HR1.out.fz
      go_wp2_with (at_builtin; refine wpList_app_int rfl _ _ rfl w0.heap.size _ _ [] pre rfl rfl (OwnI_empty _ _ (Nat.le_trans hb0.size hb1.size)) (HU1.out.si.alloc _) (by simp; omega) (by have := hb0.size; have := hb1.size; simp; omega) ?_)
      intro v' w2 ho hgr _
      have hb2 : Below w1.heap.size w1 w2 := ((Below.refl _ _).alloc (Nat.le_refl _) _).grown hgr (by simp) (by simp [Value.ownBlock])
      obtain ⟨av, cv, ev, _, _, _⟩ := ho.si
      rw [ev] at ho ⊢
      clear ev
      have HO := Lib.hid ho
      have HB2 := Lib.hid hb2
      have HR2 := Lib.hid (HR1.out.below hb2)
      clear ho hgr hb2 c3 c4 cf
      obtain ⟨ov, c2, _⟩ := HR2.out.c2
      have c3 := HR2.out.c3
      have c4 := HR2.out.c4
      have cf := HR2.out.fz
      go_wp2_with fail
      go_ret
      refine ⟨grownBy_trans (grownBy_of_below (ext_trans hb1 HB2.out) _) (grownBy_trans (grownBy_trans (grownBy_setCell _ _ _ _) (grownBy_setCell _ _ _ _)) (grownBy_setCell _ _ _ _)), ?_⟩
      rw [expl_zero, HL.out]
      exact ⟨rfl, HR2.out.setBest HO.out _⟩
  · have HL := Lib.hid (leaf_miss (p := p) (pre := pre) hc)
    have hf : st.found = true := by cases h : st.found; exact absurd (Or.inl h) hc; rfl
    have hlt : ¬ lastV p pre ((ri p 0).length - 1) < st.span := fun h => hc (.inr h)
    have hb4 : decide (lastV p pre ((ri p 0).length - 1) < st.span) = false := by simpa using hlt
    rw [hf] at c4
    clear hf hc hlt
    go_wp2_with fail
    go_ret
    refine ⟨grownBy_of_below hb1 _, ?_⟩
    rw [expl_zero, HL.out]
    exact ⟨rfl, HR1.out⟩

set_option maxHeartbeats 4000000 in
set_option maxRecDepth 100000 in
theorem explore_any (w0 : World) (X : Nat) (pv : Value) (p : List (List Int)) (hp : SS w0 pv p) (hX : w0.heap.size ≤ X) (hg : Good p) : ∀ (f : Nat) (st : St) (pre : List Int) (u : Value) (w : World),
    pre.length + f = p.length → rightB p.length pre = true → Below w0.heap.size w0 w → RepX w w0.heap.size X pv st → OwnI w w0.heap.size u pre →
    st.left ≤ 100000 → Calls Tryz.prog 82 #[.pointer (some ⟨X, 0, none⟩), u] w (PostX w w0.heap.size X pv p f st pre) := by
  intro f
  induction f with
  | zero => exact fun st pre u w hl hpre hb0 hr hu _ => explore_leaf w0 w X pv u p st pre hp hb0 hX hr hu hg hpre (by omega)
  | succ f ih =>
    intro st pre u w hl hpre hb0 hr hu hleft
    have IH := Lib.hid ih
    clear ih
    have HP := Lib.hid hp
    have HU := Lib.hid hu
    have HR := Lib.hid hr
    have HG := Lib.hid hg
    have HPRE := Lib.hid hpre
    have HNE := Lib.hid (hr.ne hu)
    have h32 := hg.len
    have hp0 : 0 < p.length := by omega
    have hst := hg.st 0 hp0
    have h8r : (ri p 0).length ≤ 8 := hst.2.1
    clear hst
    obtain ⟨vs, ⟨a, cap, rfl, h1, h2, h3⟩, h4⟩ := hp
    obtain ⟨a', cap', rfl, g1, g2, g3⟩ := hu.si
    obtain ⟨bp, op, rfl, hc0⟩ := h3 0 hp0
    obtain ⟨ak, capk, ek, n1, n2, hrow⟩ := h4 0 hp0
    rw [ek, Nat.add_zero] at hc0
    have hb : ((pre.length : Int) == (p.length : Int)) = false := by rw [beq_eq_false_iff_ne]; omega
    have hL := Lib.hid hl
    clear h3 h4 g3 hl hg hpre hu ek hrow
    have HC0 := Lib.hid (cell_keep hb0 hc0)
    clear hc0
    have c0 := hr.c0
    clear hr
    have hXl : X < w.heap.size := by obtain ⟨ov, hx, _⟩ := HR.out; exact lt_of_block hx
    go_enter Tryz.func82, Tryz.ntmps82
    go_wp2_with fail
    clear c0
    go_loopw [6] (fun i wr => ∃ s : Nat, s ≤ (ri p 0).length ∧ i = .int .i64 s ∧ Hid (Below w.heap.size w wr) ∧ Hid (∀ j, j < s → bnd p st pre j = false)) (fun i _ => (ri p 0).length - (intOf i).toNat)
    case atStart => exact ⟨0, Nat.zero_le _, rfl, Below.refl _ _, fun j hj => by omega⟩
    case round =>
      obtain ⟨s, hs, rfl, hbw, hjs⟩ := hrel
      have HR1 := Lib.hid (HR.out.below hbw.out)
      have HU1 := Lib.hid (HU.out.below hbw.out)
      have c0 := HR1.out.c0
      have cc := cell_keep hbw.out HC0.out
      by_cases hlt : s < (ri p 0).length
      · have c4 := HR1.out.c4
        cases hf : st.found
        · rw [hf] at c4
          go_wp2_with fail
          go_quiet (fail)
          go_wp2_with fail
          go_roundw
          case rel => exact ⟨s + 1, by omega, by go_num, below_drewN' hbw.out _, upto hjs.out (bnd_no hf)⟩
          case measure => simp [intOf]; omega
        · rw [hf] at c4
          have c3 := HR1.out.c3
          have HRB := Lib.hid (fun wz (hz : Below wr.heap.size wr wz) => rbound_any _ _ p pre s wz (HP.out.keep (hb0.trans (ext_trans hbw.out hz |>.mono hb0.size))) (HU1.out.below hz).si HG.out HPRE.out hlt)
          have hbv := Lib.hid hf
          clear hf
          by_cases hsp : st.span ≤ boundV p pre s
          · have hbs : decide (st.span ≤ boundV p pre s) = true := by simpa using hsp
            have HPR := Lib.hid (expl_pruned (f := f) (pruned_hit hbv.out hlt hsp))
            clear hsp
            go_wp2_with fail
            go_region_held3 (fun w' => w'.cell? ⟨X, 0, none⟩ = some (.slice (some ⟨bp, op, none⟩) p.length cap) ∧ w'.cell? ⟨X, 3, none⟩ = some (.int .i64 st.span) ∧ w'.cell? ⟨X, 4, none⟩ = some (.bool true))
              (first | exact ⟨c0, c3, c4⟩ | exact ⟨cell_keep hbx c0, cell_keep hbx c3, cell_keep hbx c4⟩)
              (first | (go_at_call 72; refine (HRB.out _ ((Below.refl _ _).drew)).mono ?_; rintro e wy ⟨rfl, hbx⟩))
            have hby : Below w.heap.size w wy := hbw.out.trans (((Below.refl _ _).drew.trans hbx).mono hbw.out.size)
            go_wp2_with fail
            go_ret
            refine ⟨grownBy_of_below hby _, ?_⟩
            rw [HPR.out]
            exact ⟨rfl, HR.out.below hby⟩
          · have hbs : decide (st.span ≤ boundV p pre s) = false := by simpa using hsp
            have HBL := Lib.hid (bnd_less hsp)
            clear hsp
            go_wp2_with fail
            go_region_held3 (fun w' => w'.cell? ⟨X, 0, none⟩ = some (.slice (some ⟨bp, op, none⟩) p.length cap) ∧ w'.cell? ⟨X, 3, none⟩ = some (.int .i64 st.span) ∧ w'.cell? ⟨X, 4, none⟩ = some (.bool true))
              (first | exact ⟨c0, c3, c4⟩ | exact ⟨cell_keep hbx c0, cell_keep hbx c3, cell_keep hbx c4⟩)
              (first | (go_at_call 72; refine (HRB.out _ ((Below.refl _ _).drew)).mono ?_; rintro e wy ⟨rfl, hbx⟩))
            have hby : Below w.heap.size w wy := hbw.out.trans (((Below.refl _ _).drew.trans hbx).mono hbw.out.size)
            go_wp2_with fail
            go_roundw
            case rel => exact ⟨s + 1, by omega, by go_num, hby, upto hjs.out HBL.out⟩
            case measure => simp [intOf]; omega
      · have HPM := Lib.hid (pruned_miss (st := st) (pre := pre) (fun j h => hjs.out j (by omega)))
        clear hjs
        have c1 := HR1.out.c1
        have cf := HR1.out.fz 1
        by_cases hl0 : st.left = 0
        · have hlb : ((st.left : Int) == 0) = true := by rw [beq_iff_eq]; omega
          have HPR := Lib.hid (expl_none (f := f) HPM.out hl0)
          clear hl0
          go_wp2_with fail
          go_ret
          refine ⟨grownBy_of_below hbw.out _, ?_⟩
          rw [HPR.out]
          rfl
        · have hlb : ((st.left : Int) == 0) = false := by rw [beq_eq_false_iff_ne]; omega
          have HPR := Lib.hid (expl_tries (f := f) HPM.out hl0)
          have hl1 : 1 ≤ st.left := by omega
          have hsl : ((st.left : Int) - 1) = ((st.left - 1 : Nat) : Int) := by omega
          have HSL := Lib.hid hsl
          clear hl0 hsl
          go_wp2_with fail
          rw [HSL.out]
          have HRS : Hid (RepX (wr.setCell ⟨X, 1, none⟩ (.int .i64 ((st.left - 1 : Nat) : Int))) w0.heap.size X _ (spend st)) := HR1.out.setLeft (st.left - 1)
          have HGW : Hid (w.grownBy (wr.setCell ⟨X, 1, none⟩ (.int .i64 ((st.left - 1 : Nat) : Int))) (some X)) := grownBy_trans (grownBy_of_below hbw.out _) (grownBy_setCell _ _ _ _)
          clear c0 c1 cf cc HR1 HU1 hbw HSL
          generalize wr.setCell ⟨X, 1, none⟩ (.int .i64 ((st.left - 1 : Nat) : Int)) = ws at *
          go_loopw [7] (fun i wr => ∃ j : Nat, j ≤ p.length ∧ i = .int .i64 j ∧ Hid (w.grownBy wr (some X)) ∧ Hid (∃ stj, tries (tryJob p f pre) j (spend st) = some stj ∧ stj.left ≤ 100000 ∧ RepX wr w0.heap.size X (.slice (some ⟨bp, op, none⟩) p.length cap) stj)) (fun i _ => p.length - (intOf i).toNat)
          case atStart => exact ⟨0, Nat.zero_le _, rfl, HGW, spend st, rfl, (by simp [spend]; omega), HRS.out⟩
          case round =>
            obtain ⟨j, hj, rfl, hgw, hst⟩ := hrel
            obtain ⟨stj, htr, hlj, hrj⟩ := hst.out
            have HTR := Lib.hid htr
            have HRJ := Lib.hid hrj
            have c0 := hrj.c0
            clear htr hrj hst
            have HUJ := Lib.hid (HU.out.grown hgw.out HNE.out)
            have HB0 := Lib.hid (below_of_grownBy hb0 hgw.out hX)
            by_cases hjl : j < p.length
            · go_wp2_with fail
              refine (has_any _ _ _ _ HUJ.out.si).mono ?_
              rintro e w1 ⟨rfl, m1, rfl⟩
              cases hh : pre.any (fun y => (j : Int) == y)
              · have HTJ := Lib.hid ((tries_succ HTR.out).trans (tryJob_new hh))
                have HPS := Lib.hid (rightB_snoc HPRE.out hjl hh)
                clear hh
                have hwz : Below wr.heap.size wr (wr.drewN m1) := below_drewN' (Below.refl _ _) _
                have hB0 : w0.heap.size ≤ wr.heap.size := HB0.out.size
                generalize wr.drewN m1 = wq at *
                have HUQ := Lib.hid (HUJ.out.below hwz)
                have HRQ := Lib.hid (HRJ.out.below hwz)
                have HBQ := Lib.hid (HB0.out.trans (hwz.mono hB0))
                have hGQ := Lib.hid (grownBy_trans hgw.out (grownBy_of_below hwz _))
                have hBq : w0.heap.size ≤ wq.heap.size := HBQ.out.size
                clear c0 hwz hgw HUJ HRJ HB0
                have hpl : pre.length ≤ 32 := by have := hL.out; omega
                go_wp2_with (at_builtin; refine wpList_app_int rfl (.tmp 104) (.tmp 105) rfl wq.heap.size _ _ [] pre rfl rfl (OwnI_empty _ _ (Nat.le_refl _)) (HUQ.out.si.alloc _) (by simp; omega) (by simp) ?_)
                intro v1 w2 ho1 hg1 _
                have hb2 : Below wq.heap.size wq w2 := ((Below.refl _ _).alloc (Nat.le_refl _) _).grown hg1 (by simp) (by simp [Value.ownBlock])
                have HO1 := Lib.hid ho1
                have HB2 := Lib.hid hb2
                have hB2 : wq.heap.size ≤ w2.heap.size := hb2.size
                clear ho1 hg1 hb2
                go_wp2_with (at_builtin; refine wpList_app_int rfl (.tmp 106) (.tmp 108) rfl wq.heap.size _ _ pre [(j : Int)] rfl rfl (HO1.out.alloc _) (SI_one _ _ _) (by simp; omega) (by simp; omega) ?_)
                intro v2 w3 ho2 hg2 _
                have hb3 : Below wq.heap.size wq w3 := (HB2.out.alloc hB2 _).grown hg2 (by simp; omega) (fun k hk => (World.ownsRow.lt HO1.out k hk).1)
                have HO2 := Lib.hid (ho2.mono hBq)
                have HB3 := Lib.hid hb3
                clear ho2 hg2 hb3 hB2
                go_wp2_with fail
                refine (IH.out stj (pre ++ [(j : Int)]) v2 w3 (by have := hL.out; simp; omega) HPS.out (HBQ.out.trans (HB3.out.mono hBq)) (HRQ.out.below HB3.out) HO2.out hlj).mono ?_
                rintro e w4 ⟨hg4, hm⟩
                have HG4 := Lib.hid (grownBy_trans (grownBy_trans hGQ.out (grownBy_of_below HB3.out _)) hg4)
                clear hg4
                cases hx : expl p f stj (pre ++ [(j : Int)]) with
                | none =>
                  rw [hx] at hm
                  have HTN := Lib.hid (tries_none (HTJ.out.trans hx) p.length (by omega))
                  clear hx
                  obtain rfl := hm
                  go_wp2_with fail
                  go_ret
                  refine ⟨HG4.out, ?_⟩
                  rw [HPR.out, HTN.out]
                  rfl
                | some st' =>
                  rw [hx] at hm
                  have HTS := Lib.hid (HTJ.out.trans hx)
                  have HLE := Lib.hid (expl_left p f _ _ _ hx)
                  clear hx
                  obtain ⟨rfl, hrep⟩ := hm
                  have HREP := Lib.hid hrep
                  clear hrep
                  go_wp2_with fail
                  go_roundw
                  case rel => exact ⟨j + 1, by omega, by go_num, HG4.out, st', HTS.out, Nat.le_trans HLE.out hlj, HREP.out⟩
                  case measure => simp [intOf]; omega
              · have HTJ := Lib.hid ((tries_succ HTR.out).trans (tryJob_has hh))
                clear hh
                go_wp2_with fail
                go_roundw
                case rel => exact ⟨j + 1, by omega, by go_num, grownBy_trans hgw.out (grownBy_of_below (below_drewN' (Below.refl _ _) _) _), stj, HTJ.out, hlj, HRJ.out.below (below_drewN' (Below.refl _ _) _)⟩
                case measure => simp [intOf]; omega
            · have hjp : j = p.length := by omega
              have HTE := HTR.out
              rw [hjp] at HTE
              have HTE := Lib.hid HTE
              clear hjp
              go_wp2_with fail
              go_ret
              refine ⟨hgw.out, ?_⟩
              rw [HPR.out, HTE.out]
              exact ⟨rfl, HRJ.out⟩
end Go.Proofs.YtehbnckdllbmgaaGreatDoor

/- flow.Best's search: its captured variables in memory. -/
namespace Go.Proofs.YtehbnckdllbmgaaGreatDoor
open Go.RowKit

/-- the closure -/
def srchF (X : Nat) : Value := .func (.func 64) #[] #[.pointer (some ⟨X, 0, none⟩), .pointer (some ⟨X + 4, 0, none⟩), .pointer (some ⟨X + 2, 0, none⟩), .pointer (some ⟨X + 1, 0, none⟩), .pointer (some ⟨X + 3, 0, none⟩), .pointer (some ⟨X + 5, 0, none⟩)]
/-- the captured variables lie in blocks X .. X + 5: the shop, the order, the span, the steps left, whether there is one, the closure -/
structure RepC (w : World) (X : Nat) (pv : Value) (st : St) (l : Int) (ov : Value) : Prop where
  b0 : w.heap[X]? = some (.cells #[pv] 22 (0, 0))
  b1 : w.heap[X + 1]? = some (.cells #[ov] 24 (0, 0))
  b2 : w.heap[X + 2]? = some (.cells #[.int .i64 st.span] 3 (0, 0))
  b3 : w.heap[X + 3]? = some (.cells #[.int .i64 l] 3 (0, 0))
  b4 : w.heap[X + 4]? = some (.cells #[.bool st.found] 4 (0, 0))
  b5 : w.heap[X + 5]? = some (.cells #[srchF X] 73 (0, 0))
  own : OwnI w (X + 6) ov st.order

/-- of the old blocks those outside X + 1 .. X + 4 are as they were -/
structure Chg (w w' : World) (X : Nat) : Prop where
  os : w'.os = w.os
  tape : w'.tape = w.tape
  output : w'.output = w.output
  size : w.heap.size ≤ w'.heap.size
  block : ∀ k, k < w.heap.size → (k ≤ X ∨ X + 5 ≤ k) → w'.heap[k]? = w.heap[k]?

theorem Chg.refl (w : World) (X : Nat) : Chg w w X := ⟨rfl, rfl, rfl, Nat.le_refl _, fun _ _ _ => rfl⟩
theorem Chg.trans {a b c : World} {X : Nat} (h : Chg a b X) (k : Chg b c X) : Chg a c X :=
  ⟨k.os.trans h.os, k.tape.trans h.tape, k.output.trans h.output, Nat.le_trans h.size k.size, fun i hi hn => (k.block i (Nat.lt_of_lt_of_le hi h.size) hn).trans (h.block i hi hn)⟩
theorem Chg.of_below {a b : World} {X : Nat} (h : Below a.heap.size a b) : Chg a b X := ⟨h.os, h.tape, h.output, h.size, fun k hk _ => h.block k hk⟩
theorem Chg.set (w : World) {X b : Nat} (o : Nat) (v : Value) (h1 : X + 1 ≤ b) (h2 : b < X + 5) : Chg w (w.setCell ⟨b, o, none⟩ v) X :=
  ⟨rfl, rfl, rfl, by simp [World.setCell], fun k hk hn => Below.heap_setCell _ _ _ _ (by simp only; omega)⟩
theorem Chg.below {w0 w w' : World} {X : Nat} (h : Below w0.heap.size w0 w) (hc : Chg w w' X) (hX : w0.heap.size ≤ X) : Below w0.heap.size w0 w' :=
  h.trans ⟨hc.os, hc.tape, hc.output, hc.size, fun k hk => hc.block k (Nat.lt_of_lt_of_le hk h.size) (.inl (by omega))⟩
theorem Chg.cell5 {w w' : World} {X : Nat} (hc : Chg w w' X) {v : Value} (h : w.cell? ⟨X + 5, 0, none⟩ = some v) : w'.cell? ⟨X + 5, 0, none⟩ = some v :=
  (World.cell?_of_block (w := w) (hc.block (X + 5) (World.block_lt_of_cell? w _ h) (.inr (by omega)))).trans h
theorem OwnI.chg {w w' : World} {X : Nat} {v : Value} {r : List Int} (h : OwnI w (X + 6) v r) (hc : Chg w w' X) : OwnI w' (X + 6) v r := by
  have h' : w.ownsRow (X + 6) 3 1 v r.length (r.map (Value.int .i64)) := h
  refine ⟨h'.1, ?_⟩
  rcases h'.2 with hn | ⟨g, cap, cur, hv, hb, hg, rest⟩
  · exact .inl hn
  · exact .inr ⟨g, cap, cur, hv, hb, by rw [hc.block g (lt_of_block hg) (.inr (by omega))]; exact hg, rest⟩
theorem RepC.below {w w' : World} {X : Nat} {pv : Value} {st : St} {l : Int} {ov : Value} (h : RepC w X pv st l ov) (hb : Below w.heap.size w w') : RepC w' X pv st l ov :=
  ⟨by rw [hb.block _ (lt_of_block h.b0)]; exact h.b0, by rw [hb.block _ (lt_of_block h.b1)]; exact h.b1, by rw [hb.block _ (lt_of_block h.b2)]; exact h.b2, by rw [hb.block _ (lt_of_block h.b3)]; exact h.b3,
    by rw [hb.block _ (lt_of_block h.b4)]; exact h.b4, by rw [hb.block _ (lt_of_block h.b5)]; exact h.b5, h.own.below hb⟩
theorem RepC.lt {w : World} {X : Nat} {pv : Value} {st : St} {l : Int} {ov : Value} (h : RepC w X pv st l ov) : X + 6 ≤ w.heap.size := lt_of_block h.b5
theorem set_other {w : World} {b k : Nat} {v : Value} (h : k ≠ b) : (w.setCell ⟨b, 0, none⟩ v).heap[k]? = w.heap[k]? := Below.heap_setCell _ _ _ _ h
theorem RepC.setLeft {w : World} {X : Nat} {pv : Value} {st : St} {l : Int} {ov : Value} (h : RepC w X pv st l ov) (l' : Int) (st' : St) (h1 : st'.span = st.span) (h2 : st'.found = st.found) (h3 : st'.order = st.order) :
    RepC (w.setCell ⟨X + 3, 0, none⟩ (.int .i64 l')) X pv st' l' ov :=
  ⟨by rw [set_other (by omega)]; exact h.b0, by rw [set_other (by omega)]; exact h.b1, by rw [set_other (by omega), h1]; exact h.b2, one_setCell h.b3,
    by rw [set_other (by omega), h2]; exact h.b4, by rw [set_other (by omega)]; exact h.b5, by rw [h3]; exact h.own.chg (Chg.set _ _ _ (by omega) (by omega))⟩
theorem RepC.setBest {w : World} {X : Nat} {pv : Value} {st : St} {l : Int} {ov : Value} (h : RepC w X pv st l ov) {ov' : Value} {r : List Int} (hv : OwnI w (X + 6) ov' r) (n : Int) :
    RepC (((w.setCell ⟨X + 1, 0, none⟩ ov').setCell ⟨X + 2, 0, none⟩ (.int .i64 n)).setCell ⟨X + 4, 0, none⟩ (.bool true)) X pv { st with order := r, span := n, found := true } l ov' := by
  refine ⟨?_, ?_, ?_, ?_, ?_, ?_, ?_⟩
  · rw [set_other (by omega), set_other (by omega), set_other (by omega)]; exact h.b0
  · rw [set_other (by omega), set_other (by omega)]; exact one_setCell h.b1
  · rw [set_other (by omega)]; exact one_setCell (by rw [set_other (by omega)]; exact h.b2)
  · rw [set_other (by omega), set_other (by omega), set_other (by omega)]; exact h.b3
  · exact one_setCell (by rw [set_other (by omega), set_other (by omega)]; exact h.b4)
  · rw [set_other (by omega), set_other (by omega), set_other (by omega)]; exact h.b5
  · exact (hv.chg (Chg.set _ _ _ (by omega) (by omega))).chg (Chg.set _ _ _ (by omega) (by omega)) |>.chg (Chg.set _ _ _ (by omega) (by omega))

section
variable {w : World} {X : Nat} {pv : Value} {st : St} {l : Int} {ov : Value} (h : RepC w X pv st l ov)
include h
theorem RepC.c0 : w.cell? ⟨X, 0, none⟩ = some pv := cell_of_one h.b0
theorem RepC.c1 : w.cell? ⟨X + 1, 0, none⟩ = some ov := cell_of_one h.b1
theorem RepC.c2 : w.cell? ⟨X + 2, 0, none⟩ = some (.int .i64 st.span) := cell_of_one h.b2
theorem RepC.c3 : w.cell? ⟨X + 3, 0, none⟩ = some (.int .i64 l) := cell_of_one h.b3
theorem RepC.c4 : w.cell? ⟨X + 4, 0, none⟩ = some (.bool st.found) := cell_of_one h.b4
theorem RepC.c5 : w.cell? ⟨X + 5, 0, none⟩ = some (.func (.func 64) #[] #[.pointer (some ⟨X, 0, none⟩), .pointer (some ⟨X + 4, 0, none⟩), .pointer (some ⟨X + 2, 0, none⟩), .pointer (some ⟨X + 1, 0, none⟩), .pointer (some ⟨X + 3, 0, none⟩), .pointer (some ⟨X + 5, 0, none⟩)]) := cell_of_one h.b5
theorem RepC.f1 : w.frozen? ⟨X + 1, 0, none⟩ = false := free_of_one h.b1
theorem RepC.f2 : w.frozen? ⟨X + 2, 0, none⟩ = false := free_of_one h.b2
theorem RepC.f3 : w.frozen? ⟨X + 3, 0, none⟩ = false := free_of_one h.b3
theorem RepC.f4 : w.frozen? ⟨X + 4, 0, none⟩ = false := free_of_one h.b4
end
theorem OwnI.some_form {w : World} {B : Nat} {v : Value} {r : List Int} (h : OwnI w B v r) : v = .slice none 0 0 ∨ ∃ a n c, v = .slice (some a) n c := by
  have h' : w.ownsRow B 3 1 v r.length (r.map (Value.int .i64)) := h
  rcases h'.2 with ⟨rfl, _⟩ | ⟨g, cap, cur, rfl, _⟩
  · exact .inl rfl
  · exact .inr ⟨_, _, _, rfl⟩

/-- what the search leaves -/
def PostC (w : World) (X : Nat) (pv : Value) (p : List (List Int)) (f : Nat) (st : St) (pre : List Int) (e : Ending) (w' : World) : Prop :=
  Chg w w' X ∧ match expl p f st pre with
    | some st' => e = .returned (.bool true) ∧ ∃ ov, RepC w' X pv st' st'.left ov
    | none => e = .returned (.bool false) ∧ ∃ stz lz ov, RepC w' X pv stz lz ov

theorem contains_no (v : Value) (x : Int) (xs : List Int) (w : World) (h : SI w v xs) (hn : xs.any (fun y => x == y) = false) :
    Calls Tryz.prog 68 #[v, .int .i64 x] w fun e w' => e = .returned (.bool false) ∧ ∃ m, w' = w.drewN m := by
  have := contains_int v x xs w h
  rw [hn] at this; exact this
theorem contains_yes (v : Value) (x : Int) (xs : List Int) (w : World) (h : SI w v xs) (hn : xs.any (fun y => x == y) = true) :
    Calls Tryz.prog 68 #[v, .int .i64 x] w fun e w' => e = .returned (.bool true) ∧ ∃ m, w' = w.drewN m := by
  have := contains_int v x xs w h
  rw [hn] at this; exact this
end Go.Proofs.YtehbnckdllbmgaaGreatDoor

/- Contract: flow.Best's search. -/
namespace Go.Proofs.YtehbnckdllbmgaaGreatDoor
open Go.RowKit

set_option maxHeartbeats 1000000 in
set_option maxRecDepth 100000 in
theorem search_leaf (w0 w : World) (X : Nat) (pv u ov : Value) (l : Int) (p : List (List Int)) (st : St) (pre : List Int) (hp : SS w0 pv p) (hb0 : Below w0.heap.size w0 w) (hX : w0.heap.size ≤ X)
    (hr : RepC w X pv st l ov) (hll : l = st.left) (hu : OwnI w (X + 6) u pre) (hg : Good p) (hpre : rightB p.length pre = true) (hl : pre.length = p.length) :
    Calls Tryz.prog 64 #[u, .pointer (some ⟨X, 0, none⟩), .pointer (some ⟨X + 4, 0, none⟩), .pointer (some ⟨X + 2, 0, none⟩), .pointer (some ⟨X + 1, 0, none⟩), .pointer (some ⟨X + 3, 0, none⟩), .pointer (some ⟨X + 5, 0, none⟩)] w (PostC w X pv p 0 st pre) := by
  have HP := Lib.hid hp
  have HU := Lib.hid hu
  have HR := Lib.hid hr
  have HG := Lib.hid hg
  have HPRE := Lib.hid hpre
  have HLL := Lib.hid hll
  have h32 := hg.len
  obtain ⟨vs, ⟨a, cap, rfl, h1, h2, h3⟩, h4⟩ := hp
  obtain ⟨a', cap', rfl, g1, g2, g3⟩ := hu.si
  have hb : ((pre.length : Int) == (p.length : Int)) = true := by rw [beq_iff_eq]; omega
  have hp32 : pre.length ≤ 32 := by omega
  have H3 := Lib.hid h3
  have H4 := Lib.hid h4
  have HPL := Lib.hid hl
  clear h3 h4 g3 hl hg hpre hu hll
  have c0 := hr.c0
  clear hr
  go_enter Tryz.func64, Tryz.ntmps64
  go_wp2_with fail
  refine (finish_any _ _ p pre w (HP.out.keep hb0) HU.out.si HG.out HPRE.out hp32).mono ?_
  rintro e w1 ⟨vt, rfl, hst, hb1⟩
  clear c0
  have HT := Lib.hid hst
  have HR1 := Lib.hid (HR.out.below hb1)
  have HU1 := Lib.hid (HU.out.below hb1)
  clear hst
  have c0 := HR1.out.c0
  have c2 := HR1.out.c2
  have c4 := HR1.out.c4
  have hb01 := Lib.hid (hb0.trans (hb1.mono hb0.size))
  by_cases hp0 : 0 < p.length
  · obtain ⟨bp, op, ha, hc0⟩ := H3.out 0 hp0
    obtain ⟨ak, capk, ek, n1, n2, hrow⟩ := H4.out 0 hp0
    rw [ek, Nat.add_zero] at hc0
    have hc0 := cell_keep hb01.out hc0
    have hst0 := HG.out.st 0 hp0
    have h1r : 1 ≤ (ri p 0).length := hst0.1
    have h8r : (ri p 0).length ≤ 8 := hst0.2.1
    have hrl : ∀ k, k < pre.length → (ri p 0).length - 1 < (jobRow p pre k).length := fun k hk => by rw [jobRow_st HG.out HPRE.out hk]; omega
    have hla := last_any vt (timesL p pre) ((ri p 0).length - 1) w1 HT.out (fun _ => by
      have := HPL.out
      rw [timesL_length, timesL_ri (by omega), rowL_length]; exact hrl _ (by omega))
    rw [lastOf_times hrl, show (((ri p 0).length - 1 : Nat) : Int) = ((ri p 0).length : Int) - 1 by omega] at hla
    have HLA := Lib.hid hla
    have HN : Hid (lenV p pre = lastV p pre ((ri p 0).length - 1)) := rfl
    clear hla hrl hrow ek hst0
    rw [ha] at c0 ⊢
    go_wp2_with fail
    refine HLA.out.mono ?_
    rintro e w2 ⟨rfl, m2, rfl⟩
    have hw2 : Below w1.heap.size w1 (w1.drewN m2) := below_drewN' (Below.refl _ _) _
    generalize w1.drewN m2 = w2 at *
    have HR2 := Lib.hid (HR1.out.below hw2)
    have HU2 := Lib.hid (HU1.out.below hw2)
    have HB2 := Lib.hid (ext_trans hb1 hw2)
    clear hw2 c0 c2 c4
    have c2 := HR2.out.c2
    have c4 := HR2.out.c4
    by_cases hc : st.found = false ∨ lenV p pre < st.span
    rotate_left
    · have HL := Lib.hid (leaf_miss (p := p) (pre := pre) hc)
      have hf : st.found = true := by cases h : st.found; exact absurd (Or.inl h) hc; rfl
      have hlt : ¬ lastV p pre ((ri p 0).length - 1) < st.span := fun h => hc (.inr (by rw [HN.out]; exact h))
      have hb4 : decide (lastV p pre ((ri p 0).length - 1) < st.span) = false := by simpa using hlt
      rw [hf] at c4
      clear hf hc hlt
      go_wp2_with fail
      go_ret
      refine ⟨Chg.of_below HB2.out, ?_⟩
      rw [expl_zero, HL.out]
      exact ⟨rfl, ov, by rw [← HLL.out]; exact HR2.out⟩
    · have HL := Lib.hid (leaf_hit (p := p) (pre := pre) hc)
      have HCL := Lib.hid (clone_int _ pre w2 HU2.out.si HU2.out.some_form (by omega))
      cases hf : st.found
      · rw [hf] at c4
        clear hf hc
        go_wp2_with fail
        refine HCL.out.mono ?_
        rintro e w3 ⟨v3, rfl, ho3, hb3⟩
        clear c2 c4
        obtain ⟨av, cv, ev, _, _, _⟩ := ho3.si
        rw [ev] at ho3 ⊢
        clear ev
        have HO3 := Lib.hid (ho3.mono HR2.out.lt)
        have HR3 := Lib.hid (HR2.out.below hb3)
        have HB3 := Lib.hid (ext_trans HB2.out hb3)
        clear ho3 hb3
        obtain ⟨ao, no, co, eo⟩ : ∃ ao no co, ov = .slice ao no co := by obtain ⟨x, y, h, _⟩ := HR3.out.own.si; exact ⟨_, _, _, h⟩
        have c1 := HR3.out.c1
        rw [eo] at c1
        have c2 := HR3.out.c2
        have c4 := HR3.out.c4
        have f1 := HR3.out.f1
        have f2 := HR3.out.f2
        have f4 := HR3.out.f4
        clear eo
        go_wp2_with fail
        go_ret
        refine ⟨(Chg.of_below HB3.out).trans (((Chg.set _ _ _ (by omega) (by omega)).trans (Chg.set _ _ _ (by omega) (by omega))).trans (Chg.set _ _ _ (by omega) (by omega))), ?_⟩
        rw [expl_zero, HL.out, HN.out]
        exact ⟨rfl, _, by rw [show ({ st with order := pre, span := lastV p pre ((ri p 0).length - 1), found := true } : St).left = st.left from rfl, ← HLL.out]; exact HR3.out.setBest HO3.out _⟩
      · rw [hf] at c4
        have hlt : lastV p pre ((ri p 0).length - 1) < st.span := by
          rcases hc with hc | hc
          · rw [hf] at hc; cases hc
          · rw [HN.out] at hc; exact hc
        have hb4 : decide (lastV p pre ((ri p 0).length - 1) < st.span) = true := by simpa using hlt
        clear hf hc hlt
        go_wp2_with fail
        refine HCL.out.mono ?_
        rintro e w3 ⟨v3, rfl, ho3, hb3⟩
        clear c2 c4
        obtain ⟨av, cv, ev, _, _, _⟩ := ho3.si
        rw [ev] at ho3 ⊢
        clear ev
        have HO3 := Lib.hid (ho3.mono HR2.out.lt)
        have HR3 := Lib.hid (HR2.out.below hb3)
        have HB3 := Lib.hid (ext_trans HB2.out hb3)
        clear ho3 hb3
        obtain ⟨ao, no, co, eo⟩ : ∃ ao no co, ov = .slice ao no co := by obtain ⟨x, y, h, _⟩ := HR3.out.own.si; exact ⟨_, _, _, h⟩
        have c1 := HR3.out.c1
        rw [eo] at c1
        have c2 := HR3.out.c2
        have c4 := HR3.out.c4
        have f1 := HR3.out.f1
        have f2 := HR3.out.f2
        have f4 := HR3.out.f4
        clear eo
        go_wp2_with fail
        go_ret
        refine ⟨(Chg.of_below HB3.out).trans (((Chg.set _ _ _ (by omega) (by omega)).trans (Chg.set _ _ _ (by omega) (by omega))).trans (Chg.set _ _ _ (by omega) (by omega))), ?_⟩
        rw [expl_zero, HL.out, HN.out]
        exact ⟨rfl, _, by rw [show ({ st with order := pre, span := lastV p pre ((ri p 0).length - 1), found := true } : St).left = st.left from rfl, ← HLL.out]; exact HR3.out.setBest HO3.out _⟩

  · have hp00 : ¬ (0 : Int) < (p.length : Int) := by omega
    have hpb : decide ((0 : Int) < (p.length : Int)) = false := by simpa using hp00
    have HN : Hid (lenV p pre = 0) := by
      have := HPL.out
      show lastV p pre _ = 0
      simp [lastV]; intro h; exfalso; apply h; apply List.eq_nil_of_length_eq_zero; omega
    have hw2 : Below w1.heap.size w1 w1 := Below.refl _ _
    obtain ⟨w2, hww⟩ : ∃ w2 : World, w2 = w1 := ⟨_, rfl⟩
    subst hww
    have HR2 := Lib.hid (HR1.out.below hw2)
    have HU2 := Lib.hid (HU1.out.below hw2)
    have HB2 := Lib.hid (ext_trans hb1 hw2)
    clear hw2 c0 c2 c4
    have c0 := HR2.out.c0
    have c2 := HR2.out.c2
    have c4 := HR2.out.c4
    by_cases hc : st.found = false ∨ lenV p pre < st.span
    rotate_left
    · have HL := Lib.hid (leaf_miss (p := p) (pre := pre) hc)
      have hf : st.found = true := by cases h : st.found; exact absurd (Or.inl h) hc; rfl
      have hlt : ¬ 0 < st.span := fun h => hc (.inr (by rw [HN.out]; exact h))
      have hb4 : decide (0 < st.span) = false := by simpa using hlt
      rw [hf] at c4
      clear hf hc hlt
      go_wp2_with fail
      go_ret
      refine ⟨Chg.of_below HB2.out, ?_⟩
      rw [expl_zero, HL.out]
      exact ⟨rfl, ov, by rw [← HLL.out]; exact HR2.out⟩
    · have HL := Lib.hid (leaf_hit (p := p) (pre := pre) hc)
      have HCL := Lib.hid (clone_int _ pre w2 HU2.out.si HU2.out.some_form (by omega))
      cases hf : st.found
      · rw [hf] at c4
        clear hf hc
        go_wp2_with fail
        refine HCL.out.mono ?_
        rintro e w3 ⟨v3, rfl, ho3, hb3⟩
        clear c2 c4
        obtain ⟨av, cv, ev, _, _, _⟩ := ho3.si
        rw [ev] at ho3 ⊢
        clear ev
        have HO3 := Lib.hid (ho3.mono HR2.out.lt)
        have HR3 := Lib.hid (HR2.out.below hb3)
        have HB3 := Lib.hid (ext_trans HB2.out hb3)
        clear ho3 hb3
        obtain ⟨ao, no, co, eo⟩ : ∃ ao no co, ov = .slice ao no co := by obtain ⟨x, y, h, _⟩ := HR3.out.own.si; exact ⟨_, _, _, h⟩
        have c1 := HR3.out.c1
        rw [eo] at c1
        have c2 := HR3.out.c2
        have c4 := HR3.out.c4
        have f1 := HR3.out.f1
        have f2 := HR3.out.f2
        have f4 := HR3.out.f4
        clear eo
        go_wp2_with fail
        go_ret
        refine ⟨(Chg.of_below HB3.out).trans (((Chg.set _ _ _ (by omega) (by omega)).trans (Chg.set _ _ _ (by omega) (by omega))).trans (Chg.set _ _ _ (by omega) (by omega))), ?_⟩
        rw [expl_zero, HL.out, HN.out]
        exact ⟨rfl, _, by rw [show ({ st with order := pre, span := 0, found := true } : St).left = st.left from rfl, ← HLL.out]; exact HR3.out.setBest HO3.out _⟩
      · rw [hf] at c4
        have hlt : 0 < st.span := by
          rcases hc with hc | hc
          · rw [hf] at hc; cases hc
          · rw [HN.out] at hc; exact hc
        have hb4 : decide (0 < st.span) = true := by simpa using hlt
        clear hf hc hlt
        go_wp2_with fail
        refine HCL.out.mono ?_
        rintro e w3 ⟨v3, rfl, ho3, hb3⟩
        clear c2 c4
        obtain ⟨av, cv, ev, _, _, _⟩ := ho3.si
        rw [ev] at ho3 ⊢
        clear ev
        have HO3 := Lib.hid (ho3.mono HR2.out.lt)
        have HR3 := Lib.hid (HR2.out.below hb3)
        have HB3 := Lib.hid (ext_trans HB2.out hb3)
        clear ho3 hb3
        obtain ⟨ao, no, co, eo⟩ : ∃ ao no co, ov = .slice ao no co := by obtain ⟨x, y, h, _⟩ := HR3.out.own.si; exact ⟨_, _, _, h⟩
        have c1 := HR3.out.c1
        rw [eo] at c1
        have c2 := HR3.out.c2
        have c4 := HR3.out.c4
        have f1 := HR3.out.f1
        have f2 := HR3.out.f2
        have f4 := HR3.out.f4
        clear eo
        go_wp2_with fail
        go_ret
        refine ⟨(Chg.of_below HB3.out).trans (((Chg.set _ _ _ (by omega) (by omega)).trans (Chg.set _ _ _ (by omega) (by omega))).trans (Chg.set _ _ _ (by omega) (by omega))), ?_⟩
        rw [expl_zero, HL.out, HN.out]
        exact ⟨rfl, _, by rw [show ({ st with order := pre, span := 0, found := true } : St).left = st.left from rfl, ← HLL.out]; exact HR3.out.setBest HO3.out _⟩
end Go.Proofs.YtehbnckdllbmgaaGreatDoor

/- Contract: flow.Best's search, its step. -/
namespace Go.Proofs.YtehbnckdllbmgaaGreatDoor
open Go.RowKit

theorem step_app_int {ops : Array Oper} {o : Oper} {a : Act} {K : Act → World → Prop} {Q : Exit → Act → World → Prop} {w : World} {E : Prop} (hw : Region.wanted o (yielded ops a.tmps) = true) (s x : Operand)
    (ho : o.op = .call { callee := .builtin .append, args := #[s, x], argTypes := #[24, 24] })
    (B : Nat) (v u : Value) (r xs : List Int) (hs : a.eval s = v) (hx : a.eval x = u) (hown : OwnI w B v r) (hsrc : SI w u xs) (hlen : r.length + xs.length ≤ 100000000) (hb : B ≤ w.heap.size)
    (h : ∀ v' w', OwnI w' B v' (r ++ xs) → w.grownBy w' v.ownBlock → (v'.ownBlock = v.ownBlock ∨ v'.ownBlock = some w.heap.size) → K (a.put o.dst v') w') : if Region.wanted o (yielded ops a.tmps) = true then Oper.wp Tryz.prog o a w K Q else E := by
  rw [if_pos hw]
  exact wp_app_int s x ho B v u r xs hs hx hown hsrc hlen hb h

set_option maxHeartbeats 4000000 in
set_option maxRecDepth 100000 in
theorem search_any (w0 : World) (X : Nat) (pv : Value) (p : List (List Int)) (hp : SS w0 pv p) (hX : w0.heap.size ≤ X) (hg : Good p) : ∀ (f : Nat) (st : St) (pre : List Int) (u ov : Value) (w : World),
    pre.length + f = p.length → rightB p.length pre = true → Below w0.heap.size w0 w → RepC w X pv st st.left ov → OwnI w (X + 6) u pre → st.left ≤ 100000 →
    Calls Tryz.prog 64 #[u, .pointer (some ⟨X, 0, none⟩), .pointer (some ⟨X + 4, 0, none⟩), .pointer (some ⟨X + 2, 0, none⟩), .pointer (some ⟨X + 1, 0, none⟩), .pointer (some ⟨X + 3, 0, none⟩), .pointer (some ⟨X + 5, 0, none⟩)] w (PostC w X pv p f st pre) := by
  intro f
  induction f with
  | zero => exact fun st pre u ov w hl hpre hb0 hr hu _ => search_leaf w0 w X pv u ov _ p st pre hp hb0 hX hr rfl hu hg hpre (by omega)
  | succ f ih =>
    intro st pre u ov w hl hpre hb0 hr hu hleft
    have IH := Lib.hid ih
    clear ih
    have HP := Lib.hid hp
    have HU := Lib.hid hu
    have HR := Lib.hid hr
    have HG := Lib.hid hg
    have HPRE := Lib.hid hpre
    have h32 := hg.len
    have hp0 : 0 < p.length := by omega
    have h8r : (ri p 0).length ≤ 8 := (hg.st 0 hp0).2.1
    obtain ⟨vs, ⟨a, cap, rfl, h1, h2, h3⟩, h4⟩ := hp
    obtain ⟨a', cap', rfl, g1, g2, g3⟩ := hu.si
    obtain ⟨bp, op, rfl, hc0⟩ := h3 0 hp0
    obtain ⟨ak, capk, ek, n1, n2, hrow⟩ := h4 0 hp0
    rw [ek, Nat.add_zero] at hc0
    have hb : ((pre.length : Int) == (p.length : Int)) = false := by rw [beq_eq_false_iff_ne]; omega
    have hL := Lib.hid hl
    have hp32 : pre.length ≤ 32 := by omega
    have c0 := hr.c0
    have HC0 := Lib.hid hc0
    clear h3 h4 g3 hl hg hpre hu ek hrow hr hc0
    go_enter Tryz.func64, Tryz.ntmps64
    go_wp2_with fail
    refine (finish_any _ _ p pre w (HP.out.keep hb0) HU.out.si HG.out HPRE.out hp32).mono ?_
    rintro e w1 ⟨vt, rfl, hst, hb1⟩
    clear c0
    have HT := Lib.hid hst
    have HR1 := Lib.hid (HR.out.below hb1)
    have HU1 := Lib.hid (HU.out.below hb1)
    have hb01 := Lib.hid (hb0.trans (hb1.mono hb0.size))
    have HB1 := Lib.hid hb1
    clear hst hb1
    have c0 := HR1.out.c0
    have cc := cell_keep hb01.out HC0.out
    go_wp2_with fail
    clear c0 cc
    go_loopw [45] (fun i wr => ∃ s : Nat, s ≤ (ri p 0).length ∧ i = .int .i64 s ∧ Hid (Below w1.heap.size w1 wr) ∧ Hid (∀ j, j < s → bnd p st pre j = false)) (fun i _ => (ri p 0).length - (intOf i).toNat)
    case atStart => exact ⟨0, Nat.zero_le _, rfl, Below.refl _ _, fun j hj => by omega⟩
    case round =>
      obtain ⟨s, hs, rfl, hbw, hjs⟩ := hrel
      have HR2 := Lib.hid (HR1.out.below hbw.out)
      have HU2 := Lib.hid (HU1.out.below hbw.out)
      have HT2 := Lib.hid (HT.out.keep hbw.out)
      have HP2 := Lib.hid (HP.out.keep (hb01.out.trans (hbw.out.mono hb01.out.size)))
      by_cases hlt : s < (ri p 0).length
      · have c4 := HR2.out.c4
        cases hf : st.found
        · rw [hf] at c4
          go_wp2_with fail
          go_quiet (fail)
          go_wp2_with fail
          go_roundw
          case rel => exact ⟨s + 1, by omega, by go_num, below_drewN' hbw.out _, upto hjs.out (bnd_no hf)⟩
          case measure => simp [intOf]; omega
        · rw [hf] at c4
          have c3 := HR2.out.c2
          have c0 := HR2.out.c0
          have hbv := Lib.hid hf
          clear hf
          by_cases hsp : st.span ≤ boundV p pre s
          · have hbs : decide (st.span ≤ boundV p pre s) = true := by simpa using hsp
            have HPR := Lib.hid (expl_pruned (f := f) (pruned_hit hbv.out hlt hsp))
            clear hsp
            go_wp2_with fail
            go_quiet ((go_at_call 67; exact Calls.quiet_of (fbound_any _ _ _ p pre s _ (HP2.out.drewN _) (HU2.out.si.drewN _) (HT2.out.drewN _) HG.out HPRE.out hlt)))
            go_wp2_with fail
            go_ret
            refine ⟨Chg.of_below (ext_trans HB1.out (below_drewN' hbw.out _)), ?_⟩
            rw [HPR.out]
            exact ⟨rfl, _, HR2.out.below (below_drewN' (Below.refl _ _) _)⟩
          · have hbs : decide (st.span ≤ boundV p pre s) = false := by simpa using hsp
            have HBL := Lib.hid (bnd_less hsp)
            clear hsp
            go_wp2_with fail
            go_quiet ((go_at_call 67; exact Calls.quiet_of (fbound_any _ _ _ p pre s _ (HP2.out.drewN _) (HU2.out.si.drewN _) (HT2.out.drewN _) HG.out HPRE.out hlt)))
            go_wp2_with fail
            go_roundw
            case rel => exact ⟨s + 1, by omega, by go_num, below_drewN' hbw.out _, upto hjs.out HBL.out⟩
            case measure => simp [intOf]; omega
      · have HPM := Lib.hid (pruned_miss (st := st) (pre := pre) (fun j h => hjs.out j (by omega)))
        clear hjs
        have c1 := HR2.out.c3
        have cf := HR2.out.f3
        by_cases hl0 : st.left = 0
        · have hlb : ((st.left : Int) - 1 < 0) := by omega
          have HPR := Lib.hid (expl_none (f := f) HPM.out hl0)
          clear hl0
          go_wp2_with fail
          go_ret
          refine ⟨(Chg.of_below (ext_trans HB1.out hbw.out)).trans (Chg.set _ _ _ (by omega) (by omega)), ?_⟩
          rw [HPR.out]
          exact ⟨rfl, _, _, _, HR2.out.setLeft _ st rfl rfl rfl⟩
        · have hlb : ¬ ((st.left : Int) - 1 < 0) := by omega
          have HPR := Lib.hid (expl_tries (f := f) HPM.out hl0)
          have hl1 : 1 ≤ st.left := by omega
          have hsl : ((st.left : Int) - 1) = ((st.left - 1 : Nat) : Int) := by omega
          have HSL := Lib.hid hsl
          have c0 := HR2.out.c0
          clear hl0 hsl
          go_wp2_with fail
          have HWS : Hid (RepC (wr.setCell ⟨X + 3, 0, none⟩ (.int .i64 ((st.left : Int) - 1))) X (.slice (some ⟨bp, op, none⟩) p.length cap) (spend st) (spend st).left ov) := by
            have := HR2.out.setLeft ((st.left - 1 : Nat) : Int) (spend st) rfl rfl rfl
            rw [← HSL.out] at this
            have e : (((spend st).left : Nat) : Int) = (st.left : Int) - 1 := HSL.out.symm
            show RepC _ _ _ _ _ _
            rw [e]
            exact this
          have HGW : Hid (Chg w (wr.setCell ⟨X + 3, 0, none⟩ (.int .i64 ((st.left : Int) - 1))) X) := (Chg.of_below (ext_trans HB1.out hbw.out)).trans (Chg.set _ _ _ (by omega) (by omega))
          clear c0 c1 cf HR2 HU2 HT2 HP2 hbw HSL HR1 HU1 HT HB1 hb01
          generalize wr.setCell ⟨X + 3, 0, none⟩ (.int .i64 ((st.left : Int) - 1)) = ws at *
          go_loopw [65] (fun i wr => ∃ j : Nat, j ≤ p.length ∧ i = .int .i64 j ∧ Hid (Chg w wr X) ∧ Hid (∃ stj ovj, tries (tryJob p f pre) j (spend st) = some stj ∧ stj.left ≤ 100000 ∧ RepC wr X (.slice (some ⟨bp, op, none⟩) p.length cap) stj stj.left ovj)) (fun i _ => p.length - (intOf i).toNat)
          case atStart => exact ⟨0, Nat.zero_le _, rfl, HGW, spend st, ov, rfl, (by simp [spend]; omega), HWS.out⟩
          case round =>
            obtain ⟨wj, rfl⟩ : ∃ wj : World, wj = wr := ⟨_, rfl⟩
            obtain ⟨j, hj, rfl, hgw, hst⟩ := hrel
            obtain ⟨stj, ovj, htr, hlj, hrj⟩ := hst.out
            have HTR := Lib.hid htr
            have HRJ := Lib.hid hrj
            clear htr hrj hst
            have HUJ := Lib.hid (HU.out.chg hgw.out)
            have HB0 := Lib.hid (Chg.below hb0 hgw.out hX)
            have hXw : X + 6 ≤ wj.heap.size := HRJ.out.lt
            by_cases hjl : j < p.length
            · cases hh : pre.any (fun y => (j : Int) == y)
              · have HTJ := Lib.hid ((tries_succ HTR.out).trans (tryJob_new hh))
                have HPS := Lib.hid (rightB_snoc HPRE.out hjl hh)
                have HCO : Hid (Calls Tryz.prog 68 #[.slice a' pre.length cap', .int .i64 j] wj.drew fun e w' => e = .returned (.bool false) ∧ Below wj.heap.size wj w') :=
                  (contains_no _ _ _ wj.drew (show SI wj.drew _ pre from HUJ.out.si) hh).mono fun e w' ⟨h1, m, h2⟩ => ⟨h1, by rw [h2]; exact below_drewN' (Below.refl _ _).drew _⟩
                have HCL : Hid (∀ wz, Below wj.heap.size wj wz → Calls Tryz.prog 66 #[.slice a' pre.length cap'] wz fun e w' => ∃ v, e = .returned v ∧ OwnI w' wj.heap.size v pre ∧ Below wj.heap.size wj w' ∧ Below wz.heap.size wz w') :=
                  fun wz hz => (clone_int _ pre wz (HUJ.out.si.keep hz) HUJ.out.some_form (by omega)).mono fun e w' ⟨v, h1, h2, h3⟩ => ⟨v, h1, h2.mono hz.size, ext_trans hz h3, h3⟩
                clear hh
                have c5 := HRJ.out.c5
                cases hx : expl p f stj (pre ++ [(j : Int)]) with
                | none =>
                  have HTN := Lib.hid (tries_none (HTJ.out.trans hx) p.length (by omega))
                  have HREC : Hid (∀ va wa, OwnI wa wj.heap.size va (pre ++ [(j : Int)]) → Below wj.heap.size wj wa → Calls Tryz.prog 64 #[va, .pointer (some ⟨X, 0, none⟩), .pointer (some ⟨X + 4, 0, none⟩), .pointer (some ⟨X + 2, 0, none⟩), .pointer (some ⟨X + 1, 0, none⟩), .pointer (some ⟨X + 3, 0, none⟩), .pointer (some ⟨X + 5, 0, none⟩)] wa fun e w' => e = .returned (.bool false) ∧ Chg wa w' X ∧ ∃ stz lz ovz, RepC w' X (.slice (some ⟨bp, op, none⟩) p.length cap) stz lz ovz) := by
                    intro va wa h1 h2
                    refine (IH.out stj (pre ++ [(j : Int)]) va ovj wa (by have := hL.out; simp; omega) HPS.out (HB0.out.trans (h2.mono HB0.out.size)) (HRJ.out.below h2) (h1.mono hXw) hlj).mono ?_
                    rintro e w' ⟨h3, h4⟩
                    rw [hx] at h4
                    exact ⟨h4.1, h3, h4.2⟩
                  clear hx
                  go_wp2_with fail
                  go_region_held3 (fun w' => w'.cell? ⟨X + 5, 0, none⟩ = some (.func (.func 64) #[] #[.pointer (some ⟨X, 0, none⟩), .pointer (some ⟨X + 4, 0, none⟩), .pointer (some ⟨X + 2, 0, none⟩), .pointer (some ⟨X + 1, 0, none⟩), .pointer (some ⟨X + 3, 0, none⟩), .pointer (some ⟨X + 5, 0, none⟩)]))
                    (first | exact c5 | exact cell_keep hby c5 | exact cell_keep (hby.alloc hby.size _) c5 | exact cell_keep hbcj c5 | exact cell_keep (hbcj.alloc hbcj.size _) c5 | exact cell_keep hba c5 | exact hcr.cell5 (cell_keep hba c5))
                    (first
                      | (go_at_call 68; refine HCO.out.mono ?_; rintro e wy ⟨rfl, hby⟩)
                      | (go_at_call 66; refine (HCL.out _ (by first | exact hby | exact hby.alloc hby.size _)).mono ?_; rintro e wc ⟨vc, rfl, hoc, hbcj, hbc⟩)
                      | (refine step_app_int (by rfl) (.tmp 75) (.tmp 77) (by rfl) wj.heap.size vc _ pre [(j : Int)] (by rfl) (by rfl) (by first | exact hoc.alloc _ | exact hoc) (by first | exact SI_one _ _ _ | exact (SI_one _ _ _).keep hbc) (by simp; omega) (by first | exact hbcj.size | (have := hbcj.size; simp; omega)) ?_; intro va wa hoa hga _; have hba : Below wj.heap.size wj wa := by first | exact (hbcj.alloc hbcj.size _).grown hga (by have := hbcj.size; simp; omega) (fun k hk => (World.ownsRow.lt hoc k hk).1) | exact hbcj.grown hga hbcj.size (fun k hk => (World.ownsRow.lt hoc k hk).1))
                      | (go_at_call 64; refine (HREC.out va wa hoa hba).mono ?_; rintro e wr2 ⟨rfl, hcr, stz, lz, ovz, hrz⟩))
                  all_goals
                    have HCG := Lib.hid ((hgw.out.trans (Chg.of_below hba)).trans hcr)
                    have HRZ := Lib.hid hrz
                    clear hby hbcj hbc hba hcr hoc hoa hga c5 hrz
                    go_wp2_with fail
                    go_ret
                    refine ⟨HCG.out, ?_⟩
                    rw [HPR.out, HTN.out]
                    exact ⟨rfl, _, _, _, HRZ.out⟩
                | some st' =>
                  have HTS := Lib.hid (HTJ.out.trans hx)
                  have HLE := Lib.hid (expl_left p f _ _ _ hx)
                  have HREC : Hid (∀ va wa, OwnI wa wj.heap.size va (pre ++ [(j : Int)]) → Below wj.heap.size wj wa → Calls Tryz.prog 64 #[va, .pointer (some ⟨X, 0, none⟩), .pointer (some ⟨X + 4, 0, none⟩), .pointer (some ⟨X + 2, 0, none⟩), .pointer (some ⟨X + 1, 0, none⟩), .pointer (some ⟨X + 3, 0, none⟩), .pointer (some ⟨X + 5, 0, none⟩)] wa fun e w' => e = .returned (.bool true) ∧ Chg wa w' X ∧ ∃ ov', RepC w' X (.slice (some ⟨bp, op, none⟩) p.length cap) st' st'.left ov') := by
                    intro va wa h1 h2
                    refine (IH.out stj (pre ++ [(j : Int)]) va ovj wa (by have := hL.out; simp; omega) HPS.out (HB0.out.trans (h2.mono HB0.out.size)) (HRJ.out.below h2) (h1.mono hXw) hlj).mono ?_
                    rintro e w' ⟨h3, h4⟩
                    rw [hx] at h4
                    exact ⟨h4.1, h3, h4.2⟩
                  clear hx
                  go_wp2_with fail
                  go_region_held3 (fun w' => w'.cell? ⟨X + 5, 0, none⟩ = some (.func (.func 64) #[] #[.pointer (some ⟨X, 0, none⟩), .pointer (some ⟨X + 4, 0, none⟩), .pointer (some ⟨X + 2, 0, none⟩), .pointer (some ⟨X + 1, 0, none⟩), .pointer (some ⟨X + 3, 0, none⟩), .pointer (some ⟨X + 5, 0, none⟩)]))
                    (first | exact c5 | exact cell_keep hby c5 | exact cell_keep (hby.alloc hby.size _) c5 | exact cell_keep hbcj c5 | exact cell_keep (hbcj.alloc hbcj.size _) c5 | exact cell_keep hba c5 | exact hcr.cell5 (cell_keep hba c5))
                    (first
                      | (go_at_call 68; refine HCO.out.mono ?_; rintro e wy ⟨rfl, hby⟩)
                      | (go_at_call 66; refine (HCL.out _ (by first | exact hby | exact hby.alloc hby.size _)).mono ?_; rintro e wc ⟨vc, rfl, hoc, hbcj, hbc⟩)
                      | (refine step_app_int (by rfl) (.tmp 75) (.tmp 77) (by rfl) wj.heap.size vc _ pre [(j : Int)] (by rfl) (by rfl) (by first | exact hoc.alloc _ | exact hoc) (by first | exact SI_one _ _ _ | exact (SI_one _ _ _).keep hbc) (by simp; omega) (by first | exact hbcj.size | (have := hbcj.size; simp; omega)) ?_; intro va wa hoa hga _; have hba : Below wj.heap.size wj wa := by first | exact (hbcj.alloc hbcj.size _).grown hga (by have := hbcj.size; simp; omega) (fun k hk => (World.ownsRow.lt hoc k hk).1) | exact hbcj.grown hga hbcj.size (fun k hk => (World.ownsRow.lt hoc k hk).1))
                      | (go_at_call 64; refine (HREC.out va wa hoa hba).mono ?_; rintro e wr2 ⟨rfl, hcr, ovr, hrr⟩))
                  all_goals
                    have HCG := Lib.hid ((hgw.out.trans (Chg.of_below hba)).trans hcr)
                    have HRR := Lib.hid hrr
                    clear hby hbcj hbc hba hcr hoc hoa hga c5 hrr
                    go_wp2_with fail
                    go_roundw
                    case rel => exact ⟨j + 1, by omega, by go_num, HCG.out, st', ovr, HTS.out, Nat.le_trans HLE.out hlj, HRR.out⟩
                    case measure => simp [intOf]; omega
              · have HTJ := Lib.hid ((tries_succ HTR.out).trans (tryJob_has hh))
                have HH := Lib.hid hh
                clear hh
                go_wp2_with fail
                go_quiet ((go_at_call 68; exact Calls.quiet_of (contains_yes _ _ _ _ (HUJ.out.si.drewN _) HH.out)))
                go_wp2_with fail
                go_roundw
                case rel => exact ⟨j + 1, by omega, by go_num, hgw.out.trans (Chg.of_below (below_drewN' (Below.refl _ _) _)), stj, ovj, HTJ.out, hlj, HRJ.out.below (below_drewN' (Below.refl _ _) _)⟩
                case measure => simp [intOf]; omega
            · have hjp : j = p.length := by omega
              have HTE := HTR.out
              rw [hjp] at HTE
              have HTE := Lib.hid HTE
              clear hjp
              go_wp2_with fail
              go_ret
              refine ⟨hgw.out, ?_⟩
              rw [HPR.out, HTE.out]
              exact ⟨rfl, _, HRJ.out⟩
end Go.Proofs.YtehbnckdllbmgaaGreatDoor

/- Contracts: Best of flow and of the reference. -/
namespace Go.Proofs.YtehbnckdllbmgaaGreatDoor
open Go.RowKit

/-- the state at the start of a search -/
def st0 (steps : Int) : St := { left := (max (min steps 100000) 0).toNat, order := [], span := 0, found := false }
/-- the end of the search, none if the steps are used up -/
def bestS (p : List (List Int)) (steps : Int) : Option St := expl p p.length (st0 steps) []
def bestE (p : List (List Int)) (steps : Int) : Int := if checkE p ≠ 0 then checkE p else if (bestS p steps).isNone then 29 else 0
def bestL (p : List (List Int)) (steps : Int) : List Int := if checkE p ≠ 0 then [] else match bestS p steps with | none => [] | some st => st.order
def bestN (p : List (List Int)) (steps : Int) : Int := if checkE p ≠ 0 then 0 else match bestS p steps with | none => 0 | some st => st.span
/-- It returns a slice of integers, a number and an error. -/
def RetB (w : World) (xs : List Int) (n er : Int) (e : Ending) (w' : World) : Prop := ∃ v, e = .returned (.tuple #[v, .int .i64 n, .int .i64 er]) ∧ SI w' v xs ∧ Below w.heap.size w w'
theorem retB {w w' : World} {xs xs' : List Int} {n n' er er' : Int} {e : Ending} {v : Value} (he : e = .returned (.tuple #[v, .int .i64 n', .int .i64 er'])) (h : er' = er) (hn : n' = n) (hs : SI w' v xs') (hx : xs' = xs) (hb : Below w.heap.size w w') : RetB w xs n er e w' := by
  subst h hn hx; exact ⟨v, he, hs, hb⟩

theorem rightB_nil (n : Nat) : rightB n [] = true := by simp [rightB]
theorem best_bad {p : List (List Int)} {s : Int} (h : checkE p ≠ 0) : bestE p s = checkE p ∧ bestL p s = [] ∧ bestN p s = 0 := by simp [bestE, bestL, bestN, h]
theorem best_none {p : List (List Int)} {s : Int} (h : checkE p = 0) (h2 : bestS p s = none) : bestE p s = 29 ∧ bestL p s = [] ∧ bestN p s = 0 := by simp [bestE, bestL, bestN, h, h2]
theorem best_some {p : List (List Int)} {s : Int} {st : St} (h : checkE p = 0) (h2 : bestS p s = some st) : bestE p s = 0 ∧ bestL p s = st.order ∧ bestN p s = st.span := by simp [bestE, bestL, bestN, h, h2]
theorem left_max (s : Int) : ((st0 s).left : Int) = max (min s 100000) 0 := by simp only [st0]; omega
theorem left_le (s : Int) : (st0 s).left ≤ 100000 := by simp only [st0]; omega

set_option maxHeartbeats 1000000 in
set_option maxRecDepth 100000 in
theorem rBest_any (v : Value) (p : List (List Int)) (s : Int) (w : World) (h : SS w v p) :
    Calls Tryz.prog 52 #[v, .int .i64 s] w (RetB w (bestL p s) (bestN p s) (bestE p s)) := by
  have H := Lib.hid h
  obtain ⟨vs, ⟨a, cap, rfl, h1, h2, h3⟩, h4⟩ := h
  clear h3 h4
  go_enter Tryz.func52, Tryz.ntmps52
  go_wp2_with fail
  refine (shop_any _ p w H.out).mono ?_
  rintro e w1 ⟨rfl, m1, rfl⟩
  by_cases c0 : checkE p = 0
  rotate_left
  · have hE := Lib.hid (best_bad (s := s) c0)
    have hb : (checkE p != 0) = true := by simpa using c0
    clear c0
    go_wp2_with fail
    go_ret3
    exact retB rfl hE.out.1.symm hE.out.2.2.symm (SI_nil _) hE.out.2.1.symm (below_drewN' (Below.refl _ _) _)
  have hb : (checkE p != 0) = false := by simpa using c0
  have C0 := Lib.hid c0
  have HG := Lib.hid (checkE_zero c0)
  clear c0
  have HREP : Hid (∀ L : Int, L = ((st0 s).left : Int) → RepX ((w.drewN m1).alloc (.cells #[.slice a p.length cap, .int .i64 L, .slice none 0 0, .int .i64 0, .bool false] 109)) w.heap.size w.heap.size (.slice a p.length cap) (st0 s)) := by
    intro L hL
    subst hL
    exact ⟨.slice none 0 0, heap_alloc_new (w.drewN m1) _, OwnI_nil _ _⟩
  cases hx : bestS p s with
  | none =>
    have hE := Lib.hid (best_none C0.out hx)
    have HX := Lib.hid hx
    clear hx
    go_wp2_with fail
    all_goals
      refine (explore_any w w.heap.size (.slice a p.length cap) p H.out (Nat.le_refl _) HG.out p.length (st0 s) [] (.slice none 0 0) _ (by simp) (rightB_nil _) (by exact (below_drewN' (Below.refl _ _) _).alloc (Nat.le_refl _) _) (by exact HREP.out _ (by rw [left_max]; omega)) (OwnI_nil _ _) (left_le s)).mono ?_
      rintro e w2 ⟨hg2, hm2⟩
      have hm2 : match bestS p s with
        | some st' => e = .returned (.bool true) ∧ RepX w2 w.heap.size w.heap.size (.slice a p.length cap) st'
        | none => e = .returned (.bool false) := hm2
      rw [HX.out] at hm2
      obtain rfl := hm2
      have HB2 := Lib.hid (below_of_grownBy (w0 := w) (by exact (below_drewN' (Below.refl _ _) _).alloc (Nat.le_refl _) _) hg2 (Nat.le_refl _))
      clear hg2
      go_wp2_with fail
      go_ret3
      exact retB rfl hE.out.1.symm hE.out.2.2.symm (SI_nil _) hE.out.2.1.symm HB2.out
  | some st =>
    have hE := Lib.hid (best_some C0.out hx)
    have HX := Lib.hid hx
    clear hx
    go_wp2_with fail
    all_goals
      refine (explore_any w w.heap.size (.slice a p.length cap) p H.out (Nat.le_refl _) HG.out p.length (st0 s) [] (.slice none 0 0) _ (by simp) (rightB_nil _) (by exact (below_drewN' (Below.refl _ _) _).alloc (Nat.le_refl _) _) (by exact HREP.out _ (by rw [left_max]; omega)) (OwnI_nil _ _) (left_le s)).mono ?_
      rintro e w2 ⟨hg2, hm2⟩
      have hm2 : match bestS p s with
        | some st' => e = .returned (.bool true) ∧ RepX w2 w.heap.size w.heap.size (.slice a p.length cap) st'
        | none => e = .returned (.bool false) := hm2
      rw [HX.out] at hm2
      obtain ⟨rfl, hrep⟩ := hm2
      have HB2 := Lib.hid (below_of_grownBy (w0 := w) (by exact (below_drewN' (Below.refl _ _) _).alloc (Nat.le_refl _) _) hg2 (Nat.le_refl _))
      clear hg2
      obtain ⟨ov, c2, ho⟩ := hrep.c2
      have c3 := hrep.c3
      have HO := Lib.hid ho
      clear ho hrep
      go_wp2_with fail
      go_quiet (fail)
      go_wp2_with fail
      go_ret3
      exact retB rfl hE.out.1.symm hE.out.2.2.symm (HO.out.si.drewN _) hE.out.2.1.symm (below_drewN' HB2.out _)

theorem push6 {α : Type} (h : Array α) (a b c d e f : α) : ((((((h.push a).push b).push c).push d).push e).push f)[h.size]? = some a ∧ ((((((h.push a).push b).push c).push d).push e).push f)[h.size + 1]? = some b ∧
    ((((((h.push a).push b).push c).push d).push e).push f)[h.size + 2]? = some c ∧ ((((((h.push a).push b).push c).push d).push e).push f)[h.size + 3]? = some d ∧
    ((((((h.push a).push b).push c).push d).push e).push f)[h.size + 4]? = some e ∧ ((((((h.push a).push b).push c).push d).push e).push f)[h.size + 5]? = some f := by
  refine ⟨?_, ?_, ?_, ?_, ?_, ?_⟩
  all_goals simp only [Array.getElem?_push, Array.size_push]
  all_goals repeat (first | rw [if_pos trivial] | rw [if_neg (by omega)])
theorem repC_made (w : World) (pv : Value) (m : Nat) (st : St) (L : Int) (h1 : st.order = []) (h2 : st.span = 0) (h3 : st.found = false) :
    RepC (((((((w.alloc (.cells #[pv] 22)).alloc (.cells #[.slice none 0 0] 24)).alloc (.cells #[.int .i64 0] 3)).drewN m).alloc (.cells #[.int .i64 L] 3)).alloc (.cells #[.bool false] 4)).alloc (.cells #[srchF w.heap.size] 73)) w.heap.size pv st L (.slice none 0 0) := by
  have e : (((((((w.alloc (.cells #[pv] 22)).alloc (.cells #[.slice none 0 0] 24)).alloc (.cells #[.int .i64 0] 3)).drewN m).alloc (.cells #[.int .i64 L] 3)).alloc (.cells #[.bool false] 4)).alloc (.cells #[srchF w.heap.size] 73)).heap =
    ((((((w.heap.push (.cells #[pv] 22)).push (.cells #[.slice none 0 0] 24)).push (.cells #[.int .i64 0] 3)).push (.cells #[.int .i64 L] 3)).push (.cells #[.bool false] 4)).push (.cells #[srchF w.heap.size] 73)) := rfl
  have q := push6 w.heap (.cells #[pv] 22) (.cells #[.slice none 0 0] 24) (.cells #[.int .i64 0] 3) (.cells #[.int .i64 L] 3) (.cells #[.bool false] 4) (.cells #[srchF w.heap.size] 73)
  rw [← e] at q
  exact ⟨q.1, q.2.1, by rw [h2]; exact q.2.2.1, q.2.2.2.1, by rw [h3]; exact q.2.2.2.2.1, q.2.2.2.2.2, by rw [h1]; exact OwnI_nil _ _⟩

set_option maxHeartbeats 1000000 in
set_option maxRecDepth 100000 in
theorem Best_any (v : Value) (p : List (List Int)) (s : Int) (w : World) (h : SS w v p) :
    Calls Tryz.prog 30 #[v, .int .i64 s] w (RetB w (bestL p s) (bestN p s) (bestE p s)) := by
  have H := Lib.hid h
  obtain ⟨vs, ⟨a, cap, rfl, h1, h2, h3⟩, h4⟩ := h
  clear h3 h4
  have hmf : ∀ (fn : Fn) (first cap : Array Value) (w : World), (Instr.makeFunc fn first cap).run Tryz.prog w = .ok (.func fn first cap) w := fun _ _ _ _ => rfl
  go_enter Tryz.func30, Tryz.ntmps30
  go_wp2_with fail
  refine (check_any _ p _ (H.out.keep (by exact (((Below.refl _ _).alloc (Nat.le_refl _) _).alloc (by simp) _).alloc (by simp; omega) _))).mono ?_
  rintro e w1 ⟨rfl, m1, rfl⟩
  by_cases c0 : checkE p = 0
  rotate_left
  · have hE := Lib.hid (best_bad (s := s) c0)
    have hb : (checkE p != 0) = true := by simpa using c0
    clear c0
    go_wp2_with fail
    refine bodyPost_ret (v := .tuple #[.slice none 0 0, .int .i64 0, .int .i64 (checkE p)]) (by simp [results, Tryz.results30, go_sem]) rfl ?_
    exact retB rfl hE.out.1.symm hE.out.2.2.symm (SI_nil _) hE.out.2.1.symm (((below_drewN' ((((Below.refl _ _).alloc (Nat.le_refl _) _).alloc (by simp) _).alloc (by simp; omega) _) _).setCell (by simp only; omega) _).setCell (by simp only; omega) _)
  have hb : (checkE p != 0) = false := by simpa using c0
  have C0 := Lib.hid c0
  have HG := Lib.hid (checkE_zero c0)
  clear c0
  have HREP : Hid (∀ L : Int, L = ((st0 s).left : Int) → RepC (((((((w.alloc (.cells #[.slice a p.length cap] 22)).alloc (.cells #[.slice none 0 0] 24)).alloc (.cells #[.int .i64 0] 3)).drewN m1).alloc (.cells #[.int .i64 L] 3)).alloc (.cells #[.bool false] 4)).alloc (.cells #[srchF w.heap.size] 73)) w.heap.size (.slice a p.length cap) (st0 s) (st0 s).left (.slice none 0 0)) := by
    intro L hL
    rw [← hL]
    exact repC_made w _ m1 (st0 s) L rfl rfl rfl
  have HBB : Hid (∀ L : Int, Below w.heap.size w (((((((w.alloc (.cells #[.slice a p.length cap] 22)).alloc (.cells #[.slice none 0 0] 24)).alloc (.cells #[.int .i64 0] 3)).drewN m1).alloc (.cells #[.int .i64 L] 3)).alloc (.cells #[.bool false] 4)).alloc (.cells #[srchF w.heap.size] 73))) := by
    intro L
    exact (((below_drewN' ((((Below.refl _ _).alloc (Nat.le_refl _) _).alloc (by simp) _).alloc (by simp; omega) _) _).alloc (by simp; omega) _).alloc (by simp; omega) _).alloc (by simp; omega) _
  cases hx : bestS p s with
  | none =>
    have hE := Lib.hid (best_none C0.out hx)
    have HX := Lib.hid hx
    clear hx
    go_wp2_with fail
    all_goals
      refine (search_any w w.heap.size (.slice a p.length cap) p H.out (Nat.le_refl _) HG.out p.length (st0 s) [] (.slice none 0 0) (.slice none 0 0) _ (by simp) (rightB_nil _) (by exact HBB.out _) (by exact HREP.out _ (by rw [left_max]; omega)) (OwnI_nil _ _) (left_le s)).mono ?_
      rintro e w2 ⟨hg2, hm2⟩
      have hm2 : match bestS p s with
        | some st' => e = .returned (.bool true) ∧ ∃ ov, RepC w2 w.heap.size (.slice a p.length cap) st' st'.left ov
        | none => e = .returned (.bool false) ∧ ∃ stz lz ov, RepC w2 w.heap.size (.slice a p.length cap) stz lz ov := hm2
      rw [HX.out] at hm2
      obtain ⟨rfl, stz, lz, ovz, hrz⟩ := hm2
      have HB2 := Lib.hid (Chg.below (w0 := w) (HBB.out _) hg2 (Nat.le_refl _))
      clear hg2
      obtain ⟨ao, no, co, eo⟩ : ∃ ao no co, ovz = .slice ao no co := by obtain ⟨x, y, h, _⟩ := hrz.own.si; exact ⟨_, _, _, h⟩
      subst eo
      have c1 := hrz.c1
      have c2 := hrz.c2
      have f1 := hrz.f1
      have f2 := hrz.f2
      clear hrz
      go_wp2_with fail
      refine bodyPost_ret (v := .tuple #[.slice none 0 0, .int .i64 0, .int .i64 29]) (by simp [results, Tryz.results30, go_sem, c1, c2]) rfl ?_
      have HCG : Chg w2 ((w2.setCell ⟨w.heap.size + 1, 0, none⟩ (.slice none 0 0)).setCell ⟨w.heap.size + 1 + 1, 0, none⟩ (.int .i64 0)) w.heap.size := (Chg.set _ _ _ (by omega) (by omega)).trans (Chg.set _ _ _ (by omega) (by omega))
      exact retB rfl hE.out.1.symm hE.out.2.2.symm (SI_nil _) hE.out.2.1.symm (Chg.below HB2.out HCG (Nat.le_refl _))
  | some st =>
    have hE := Lib.hid (best_some C0.out hx)
    have HX := Lib.hid hx
    clear hx
    go_wp2_with fail
    all_goals
      refine (search_any w w.heap.size (.slice a p.length cap) p H.out (Nat.le_refl _) HG.out p.length (st0 s) [] (.slice none 0 0) (.slice none 0 0) _ (by simp) (rightB_nil _) (by exact HBB.out _) (by exact HREP.out _ (by rw [left_max]; omega)) (OwnI_nil _ _) (left_le s)).mono ?_
      rintro e w2 ⟨hg2, hm2⟩
      have hm2 : match bestS p s with
        | some st' => e = .returned (.bool true) ∧ ∃ ov, RepC w2 w.heap.size (.slice a p.length cap) st' st'.left ov
        | none => e = .returned (.bool false) ∧ ∃ stz lz ov, RepC w2 w.heap.size (.slice a p.length cap) stz lz ov := hm2
      rw [HX.out] at hm2
      obtain ⟨rfl, ov, hrep⟩ := hm2
      have HB2 := Lib.hid (Chg.below (w0 := w) (HBB.out _) hg2 (Nat.le_refl _))
      clear hg2
      obtain ⟨ao, no, co, eo⟩ : ∃ ao no co, ov = .slice ao no co := by obtain ⟨x, y, h, _⟩ := hrep.own.si; exact ⟨_, _, _, h⟩
      subst eo
      have c1 := hrep.c1
      have c2 := hrep.c2
      have f1 := hrep.f1
      have f2 := hrep.f2
      have HREPW := Lib.hid hrep
      clear hrep
      go_wp2_with fail
      go_region
      go_wp2_with fail
      refine bodyPost_ret (v := .tuple #[.slice ao no co, .int .i64 st.span, .int .i64 0]) (by simp [results, Tryz.results30, go_sem, c1, c2]) rfl ?_
      have HCG : Chg w2 ((w2.setCell ⟨w.heap.size + 1, 0, none⟩ (.slice ao no co)).setCell ⟨w.heap.size + 1 + 1, 0, none⟩ (.int .i64 st.span)) w.heap.size := (Chg.set _ _ _ (by omega) (by omega)).trans (Chg.set _ _ _ (by omega) (by omega))
      exact retB rfl hE.out.1.symm hE.out.2.2.symm (show SI _ _ _ from (HREPW.out.own.chg HCG).si) hE.out.2.1.symm ((Chg.below HB2.out HCG (Nat.le_refl _)).drew)
end Go.Proofs.YtehbnckdllbmgaaGreatDoor
