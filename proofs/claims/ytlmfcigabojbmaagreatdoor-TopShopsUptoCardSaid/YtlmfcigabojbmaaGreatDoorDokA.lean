/- Contracts: side, cut, overlap of bay, meet of dock, in and Overlap of their reference. -/
import Derived.Test.YtlmfcigabojbmaaGreatDoorDokMem
set_option linter.unusedSimpArgs false
set_option linter.unusedVariables false
namespace Go.Proofs.YtlmfcigabojbmaaGreatDoor
open Go.RowKit

/-- a stay or a berth as a value -/
def syV (x : Ber) : Value := .agg #[.string (bs x.hull), .string (bs x.dock), .int .i64 x.x, .int .i64 x.y, .int .i64 x.len, .int .i64 x.wid, .int .i64 x.a, .int .i64 x.b]
/-- numbers whose sums are numbers -/
def smallB (n : Int) : Prop := -1099511627776 ≤ n ∧ n ≤ 1099511627776
structure SmB (z : Ber) : Prop where
  sx : smallB z.x
  sy : smallB z.y
  sl : smallB z.len
  sw : smallB z.wid

theorem side_any (n : Int) (w : World) : Calls Tryz.prog 21 #[.int .i64 n] w fun e w' => e = .returned (.bool (sideB n)) ∧ w' = w := by
  obtain ⟨c1, h1⟩ : ∃ c, decide (1 ≤ n) = c := ⟨_, rfl⟩
  obtain ⟨c2, h2⟩ : ∃ c, decide (n ≤ 524288) = c := ⟨_, rfl⟩
  have HV : Hid (sideB n = (c1 && c2)) := by show _ = _; unfold sideB; rw [h1, h2]
  cases c1 <;> cases c2
  all_goals
    go_enter Tryz.func21, Tryz.ntmps21
    go_wp2_with fail
    go_ret
    exact ⟨ret_bool HV.out.symm, rfl⟩
theorem in41_any (n a b : Int) (w : World) : Calls Tryz.prog 42 #[.int .i64 n, .int .i64 a, .int .i64 b] w fun e w' => e = .returned (.bool (decide (a ≤ n) && decide (n ≤ b))) ∧ w' = w := by
  obtain ⟨c1, h1⟩ : ∃ c, decide (a ≤ n) = c := ⟨_, rfl⟩
  obtain ⟨c2, h2⟩ : ∃ c, decide (n ≤ b) = c := ⟨_, rfl⟩
  have HV : Hid ((decide (a ≤ n) && decide (n ≤ b)) = (c1 && c2)) := by show _ = _; rw [h1, h2]
  cases c1 <;> cases c2
  all_goals
    go_enter Tryz.func42, Tryz.ntmps42
    go_wp2_with fail
    go_ret
    exact ⟨ret_bool HV.out.symm, rfl⟩
theorem cut_any (a la b lb : Int) (w : World) (h1 : smallB a) (h2 : smallB la) (h3 : smallB b) (h4 : smallB lb) : Calls Tryz.prog 67 #[.int .i64 a, .int .i64 la, .int .i64 b, .int .i64 lb] w fun e w' => e = .returned (.bool (cutB a la b lb)) ∧ w' = w := by
  unfold smallB at h1 h2 h3 h4
  obtain ⟨c1, e1⟩ : ∃ c, decide (a < b + lb) = c := ⟨_, rfl⟩
  obtain ⟨c2, e2⟩ : ∃ c, decide (b < a + la) = c := ⟨_, rfl⟩
  have HV : Hid (cutB a la b lb = (c1 && c2)) := by show _ = _; unfold cutB; rw [e1, e2]
  have hs1 : -9223372036854775808 ≤ b + lb ∧ b + lb ≤ 9223372036854775807 := by omega
  have hs2 : -9223372036854775808 ≤ a + la ∧ a + la ≤ 9223372036854775807 := by omega
  cases c1 <;> cases c2
  all_goals
    go_enter Tryz.func67, Tryz.ntmps67
    go_wp2_with fail
    go_ret
    exact ⟨ret_bool HV.out.symm, rfl⟩
set_option maxHeartbeats 2000000 in
theorem overlap_any (x y : Ber) (w : World) (hx : SmB x) (hy : SmB y) : Calls Tryz.prog 49 #[syV x, syV y] w (Ret w (.bool (overB x y))) := by
  have HX := Lib.hid hx; have HY := Lib.hid hy
  obtain ⟨xh, xd, xx, xy, xl, xw, xa, xb⟩ := x
  obtain ⟨yh, yd, yx, yy, yl, yw, ya, yb⟩ := y
  obtain ⟨c0, h0⟩ : ∃ c, ((bs xd).toList == (bs yd).toList) = c := ⟨_, rfl⟩
  obtain ⟨c1, h1⟩ : ∃ c, decide (xa < yb) = c := ⟨_, rfl⟩
  obtain ⟨c2, h2⟩ : ∃ c, decide (ya < xb) = c := ⟨_, rfl⟩
  have HV : Hid (overB ⟨xh, xd, xx, xy, xl, xw, xa, xb⟩ ⟨yh, yd, yx, yy, yl, yw, ya, yb⟩ = (c0 && (c1 && c2) && (cutB xx xl yx yl && cutB xy xw yy yw))) := by
    rw [bs_eq] at h0
    show _ = _
    unfold overB meetT meetS
    dsimp only
    rw [h0, h1, h2]
  have hb : Hid (∀ (a b : Obj), Below w.heap.size w ((w.alloc a).alloc b)) := fun a b => ((Below.refl _ _).alloc (Nat.le_refl _) _).alloc (by simp) _
  clear hx hy
  have key : (c0 && (c1 && c2)) = true ∨ (c0 && (c1 && c2)) = false := by cases c0 <;> cases c1 <;> cases c2 <;> simp
  rcases key with hk | hk
  · obtain ⟨rfl, rfl, rfl⟩ : c0 = true ∧ c1 = true ∧ c2 = true := by simpa using hk
    clear hk
    unfold syV
    go_enter Tryz.func49, Tryz.ntmps49
    go_wp2_with fail
    refine (cut_any xx xl yx yl _ HX.out.sx HX.out.sl HY.out.sx HY.out.sl).mono ?_
    rintro e w1 ⟨rfl, rfl⟩
    cases hc3 : cutB xx xl yx yl
    · rw [hc3] at HV
      clear hc3
      go_wp2_with fail
      go_ret
      exact ⟨by rw [HV.out]; rfl, hb.out _ _⟩
    · rw [hc3] at HV
      clear hc3
      go_wp2_with fail
      refine (cut_any xy xw yy yw _ HX.out.sy HX.out.sw HY.out.sy HY.out.sw).mono ?_
      rintro e w1 ⟨rfl, rfl⟩
      go_wp2_with fail
      go_ret
      exact ⟨by rw [HV.out]; rfl, hb.out _ _⟩
  · cases c0 <;> cases c1 <;> cases c2
    case true.true.true => cases hk
    all_goals
      clear hk
      unfold syV
      go_enter Tryz.func49, Tryz.ntmps49
      go_wp2_with fail
      go_ret
      exact ⟨by rw [HV.out]; rfl, hb.out _ _⟩
end Go.Proofs.YtlmfcigabojbmaaGreatDoor
