/- Contracts: cmp.Compare, the two closures of flow.Johnson, the reference's before. -/
import Derived.Test.YtijapbfkpmphpaaJohnSpec
import Derived.Test.YtijapbfkpmphpaaSortA
namespace Go.Proofs.Ytijapbfkpmphpaa
open Go.RowKit

theorem isNaN_any (x : Int) (w : World) : Calls Try.prog 53 #[.int .i64 x] w fun e w' => e = .returned (.bool false) ∧ ∃ m, w' = w.drewN m := by
  have hx : (x != x) = false := by simp
  go_enter Try.func53, Try.ntmps53
  go_wp2_with fail
  go_ret
  exact ⟨rfl, 0, rfl⟩
theorem compare_any (a b : Int) (w : World) : Calls Try.prog 40 #[.int .i64 a, .int .i64 b] w fun e w' => e = .returned (.int .i64 (cmpV a b)) ∧ ∃ m, w' = w.drewN m := by
  go_enter Try.func40, Try.ntmps40
  go_wp2_with fail
  refine (isNaN_any a w).mono ?_
  rintro e w1 ⟨rfl, m1, rfl⟩
  go_wp2_with fail
  refine (isNaN_any b _).mono ?_
  rintro e w1 ⟨rfl, m2, rfl⟩
  by_cases h1 : a < b
  · have C : Hid (cmpV a b = -1) := by show cmpV a b = -1; unfold cmpV; rw [if_pos h1]
    go_wp2_with fail
    go_ret
    exact ⟨ret_int C.out.symm, _, rfl⟩
  · by_cases h2 : b < a
    · have C : Hid (cmpV a b = 1) := by show cmpV a b = 1; unfold cmpV; rw [if_neg h1, if_pos h2]
      go_wp2_with fail
      go_ret
      exact ⟨ret_int C.out.symm, _, rfl⟩
    · have C : Hid (cmpV a b = 0) := by show cmpV a b = 0; unfold cmpV; rw [if_neg h1, if_neg h2]
      go_wp2_with fail
      go_ret
      exact ⟨ret_int C.out.symm, _, rfl⟩

/-- the two cells of a job's row -/
theorem two_cells {w : World} {a : Option Addr} {n cap : Nat} {p : List (List Int)} (h : SS w (.slice a n cap) p) {j : Nat} (hj : j < p.length) (h2 : 2 ≤ (ri p j).length) :
    ∃ b o c d m k, a = some ⟨b, o, none⟩ ∧ w.cell? ⟨b, o + j, none⟩ = some (.slice (some ⟨c, d, none⟩) m k) ∧ 2 ≤ m ∧ m ≤ k ∧ w.cell? ⟨c, d, none⟩ = some (.int .i64 (mA p j)) ∧ w.cell? ⟨c, d + 1, none⟩ = some (.int .i64 (mB p j)) := by
  obtain ⟨vs, ⟨a', cap', e, h1, _, h3⟩, h4⟩ := h
  simp at e
  obtain ⟨rfl, rfl, rfl⟩ := e
  obtain ⟨b, o, rfl, hc⟩ := h3 j hj
  obtain ⟨ak, ck, ek, g1, _, g3⟩ := h4 j hj
  obtain ⟨c, d, rfl, k0⟩ := g3 0 (by omega)
  obtain ⟨c', d', e', k1⟩ := g3 1 (by omega)
  simp at e'
  obtain ⟨rfl, rfl⟩ := e'
  exact ⟨b, o, c, d, _, _, rfl, by rw [hc, ek], h2, g1, by simpa [mA] using k0, by simpa [mB] using k1⟩

theorem late_any (W : Nat) (pv : Value) (p : List (List Int)) (j : Int) (w : World) (hc : w.cell? ⟨W, 0, none⟩ = some pv) (h : SS w pv p) (h0 : 0 ≤ j) (hj : j < p.length) (h2 : 2 ≤ (ri p j.toNat).length) :
    Calls Try.prog 37 #[.int .i64 j, .pointer (some ⟨W, 0, none⟩)] w fun e w' => e = .returned (.int .i64 (lateV p j)) ∧ ∃ m, w' = w.drewN m := by
  obtain ⟨j, rfl⟩ : ∃ k : Nat, j = (k : Int) := ⟨j.toNat, by omega⟩
  simp only [Int.toNat_natCast] at h2
  have hj' : j < p.length := by omega
  have hs : ∃ a cap, pv = .slice a p.length cap ∧ p.length ≤ cap := by obtain ⟨vs, ⟨a, cap, e, h1, _⟩, _⟩ := h; exact ⟨a, cap, e, h1⟩
  obtain ⟨a, cap, rfl, hcap⟩ := hs
  obtain ⟨b, o, c, d, m, k, rfl, c1, hm, hk, c2, c3⟩ := two_cells h hj' h2
  clear h h2
  by_cases hl : mA p j ≤ mB p j
  · have hb : decide (mA p j ≤ mB p j) = true := by rw [decide_eq_true_eq]; exact hl
    have C : Hid (lateV p j = 0) := by show lateV p j = 0; unfold lateV; rw [if_pos hl]
    clear hl
    go_enter Try.func37, Try.ntmps37
    go_wp2_with fail
    go_quiet (fail)
    go_wp2_with fail
    go_ret
    exact ⟨ret_int C.out.symm, by first | exact ⟨_, rfl⟩ | exact dn2 _ _ _⟩
  · have hb : decide (mA p j ≤ mB p j) = false := by rw [decide_eq_false_iff_not]; exact hl
    have C : Hid (lateV p j = 1) := by show lateV p j = 1; unfold lateV; rw [if_neg hl]
    clear hl
    go_enter Try.func37, Try.ntmps37
    go_wp2_with fail
    go_quiet (fail)
    go_wp2_with fail
    go_ret
    exact ⟨ret_int C.out.symm, by first | exact ⟨_, rfl⟩ | exact dn2 _ _ _⟩

set_option maxHeartbeats 1000000 in
theorem cmpJ_any (W L : Nat) (pv : Value) (p : List (List Int)) (x y : Int) (w : World) (hc : w.cell? ⟨W, 0, none⟩ = some pv) (hc6 : w.cell? ⟨L, 0, none⟩ = some (.func (.func 37) #[] #[.pointer (some ⟨W, 0, none⟩)])) (h : SS w pv p)
    (h0 : 0 ≤ x) (hx : x < p.length) (h1 : 0 ≤ y) (hy : y < p.length) (h2 : ∀ k, k < p.length → (ri p k).length = 2) (hn : ∀ k, k < p.length → ∀ s, s < 2 → 0 ≤ gi (ri p k) s ∧ gi (ri p k) s ≤ 100000) :
    Calls Try.prog 39 #[.int .i64 x, .int .i64 y, .pointer (some ⟨L, 0, none⟩), .pointer (some ⟨W, 0, none⟩)] w fun e w' => e = .returned (.int .i64 (cJ p x y)) ∧ ∃ m, w' = w.drewN m := by
  obtain ⟨x, rfl⟩ : ∃ k : Nat, x = (k : Int) := ⟨x.toNat, by omega⟩
  obtain ⟨y, rfl⟩ : ∃ k : Nat, y = (k : Int) := ⟨y.toNat, by omega⟩
  have hx' : x < p.length := by omega
  have hy' : y < p.length := by omega
  have LX := Lib.hid (fun n => late_any W pv p (x : Int) (w.drewN n) (by simpa using hc) (h.drewN n) (by omega) hx (by simp only [Int.toNat_natCast]; rw [h2 x hx']; exact Nat.le_refl _))
  have LY := Lib.hid (fun n => late_any W pv p (y : Int) (w.drewN n) (by simpa using hc) (h.drewN n) (by omega) hy (by simp only [Int.toNat_natCast]; rw [h2 y hy']; exact Nat.le_refl _))
  have hs : ∃ a cap, pv = .slice a p.length cap ∧ p.length ≤ cap := by obtain ⟨vs, ⟨a, cap, e, h1, _⟩, _⟩ := h; exact ⟨a, cap, e, h1⟩
  obtain ⟨a, cap, rfl, hcap⟩ := hs
  obtain ⟨b, o, c, d, m, k, rfl, c1, hm, hk, c2, c3⟩ := two_cells h hx' (by rw [h2 x hx']; exact Nat.le_refl _)
  obtain ⟨b', o', c', d', m', k', e', c1', hm', hk', c2', c3'⟩ := two_cells h hy' (by rw [h2 y hy']; exact Nat.le_refl _)
  simp at e'
  obtain ⟨rfl, rfl⟩ := e'
  have na := hn x hx' 0 (by omega)
  have nb := hn x hx' 1 (by omega)
  have nc := hn y hy' 0 (by omega)
  have nd := hn y hy' 1 (by omega)
  have w1 : IntKind.i64.wrap (mA p x - mA p y) = mA p x - mA p y := IntWalk.i64_in _ (by simp only [mA, Int.toNat_natCast]; omega)
  have w2 : IntKind.i64.wrap (mB p y - mB p x) = mB p y - mB p x := IntWalk.i64_in _ (by simp only [mB, Int.toNat_natCast]; omega)
  have CD : Hid (cJ p x y = if cmpV (lateV p x) (lateV p y) ≠ 0 then cmpV (lateV p x) (lateV p y) else if lateV p x = 0 then mA p x - mA p y else mB p y - mB p x) := rfl
  clear h h2 hn na nb nc nd h0 h1
  generalize lateV p x = lx at *
  generalize lateV p y = ly at *
  by_cases e1 : cmpV lx ly = 0
  · have b1 : (cmpV lx ly != 0) = false := by simpa using e1
    by_cases e2 : lx = 0
    · have b2 : (lx == 0) = true := by simpa using e2
      have C : Hid (cJ p x y = mA p x - mA p y) := by show cJ p x y = _; rw [CD.out, if_neg (fun h => h e1)]; first | rw [if_pos e2] | rw [if_neg e2]
      clear e1 e2 CD
      go_enter Try.func39, Try.ntmps39
      go_wp2_with fail
      go_quiet (first | (go_at_call 40; exact Calls.quiet_of (compare_any _ _ _)) | (go_at_call 37; first | with_reducible exact Calls.quiet_of (LX.out _) | with_reducible exact Calls.quiet_of (LY.out _)))
      go_wp2_with fail
      refine (LX.out _).mono ?_
      rintro e wz ⟨rfl, m1, rfl⟩
      go_wp2_with fail
      go_quiet (fail)
      go_wp2_with fail
      go_ret
      exact ⟨ret_int C.out.symm, by first | exact ⟨_, rfl⟩ | (simp only [World.drewN_drewN]; exact ⟨_, rfl⟩)⟩
    · have b2 : (lx == 0) = false := by simpa using e2
      have C : Hid (cJ p x y = mB p y - mB p x) := by show cJ p x y = _; rw [CD.out, if_neg (fun h => h e1)]; first | rw [if_pos e2] | rw [if_neg e2]
      clear e1 e2 CD
      go_enter Try.func39, Try.ntmps39
      go_wp2_with fail
      go_quiet (first | (go_at_call 40; exact Calls.quiet_of (compare_any _ _ _)) | (go_at_call 37; first | with_reducible exact Calls.quiet_of (LX.out _) | with_reducible exact Calls.quiet_of (LY.out _)))
      go_wp2_with fail
      refine (LX.out _).mono ?_
      rintro e wz ⟨rfl, m1, rfl⟩
      go_wp2_with fail
      go_quiet (fail)
      go_wp2_with fail
      go_ret
      exact ⟨ret_int C.out.symm, by first | exact ⟨_, rfl⟩ | (simp only [World.drewN_drewN]; exact ⟨_, rfl⟩)⟩
  · have b1 : (cmpV lx ly != 0) = true := by simpa using e1
    have C : Hid (cJ p x y = cmpV lx ly) := by show cJ p x y = _; rw [CD.out, if_pos e1]
    clear e1 CD
    go_enter Try.func39, Try.ntmps39
    go_wp2_with fail
    go_quiet (first | (go_at_call 40; exact Calls.quiet_of (compare_any _ _ _)) | (go_at_call 37; first | with_reducible exact Calls.quiet_of (LX.out _) | with_reducible exact Calls.quiet_of (LY.out _)))
    go_wp2_with fail
    go_ret
    exact ⟨ret_int C.out.symm, by first | exact ⟨_, rfl⟩ | (simp only [World.drewN_drewN]; exact ⟨_, rfl⟩)⟩

set_option maxHeartbeats 1000000 in
theorem before_any (v : Value) (p : List (List Int)) (i j : Nat) (w : World) (h : SS w v p) (hi : i < p.length) (hj : j < p.length) (h2 : ∀ k, k < p.length → 2 ≤ (ri p k).length) :
    Calls Try.prog 42 #[v, .int .i64 i, .int .i64 j] w fun e w' => e = .returned (.bool (befV p i j)) ∧ ∃ m, w' = w.drewN m := by
  have hs : ∃ a cap, v = .slice a p.length cap ∧ p.length ≤ cap := by obtain ⟨vs, ⟨a, cap, e, h1, _⟩, _⟩ := h; exact ⟨a, cap, e, h1⟩
  obtain ⟨a, cap, rfl, hcap⟩ := hs
  obtain ⟨b, o, c, d, m, k, rfl, c1, hm, hk, c2, c3⟩ := two_cells h hi (h2 i hi)
  obtain ⟨b', o', c', d', m', k', e', c1', hm', hk', c2', c3'⟩ := two_cells h hj (h2 j hj)
  simp at e'
  obtain ⟨rfl, rfl⟩ := e'
  have BD : Hid (befV p i j = if (decide (mA p i ≤ mB p i) != decide (mA p j ≤ mB p j)) = true then decide (mA p i ≤ mB p i)
    else if mA p i ≤ mB p i ∧ mA p i ≠ mA p j then decide (mA p i < mA p j)
    else if mB p i < mA p i ∧ mB p i ≠ mB p j then decide (mB p j < mB p i)
    else decide ((i : Int) < j)) := rfl
  clear h h2
  generalize hA : mA p i = A at *
  generalize hB : mB p i = B at *
  generalize hC : mA p j = C at *
  generalize hD : mB p j = D at *
  clear hA hB hC hD
  generalize hx : decide (A ≤ B) = x at *
  generalize hy : decide (C ≤ D) = y at *
  have HX := Lib.hid hx
  cases x
  · have hx2 : ¬ A ≤ B := by simpa using hx
    have hx3 : decide (B < A) = true := by simpa using hx2
    cases y
    · by_cases e : B = D
      · have en : (B != D) = false := by simp [e]
        have HF : Hid (befV p i j = decide (i < j)) := by show befV p i j = _; rw [BD.out]; simp [hx2, e]; omega
        clear BD hx2 e
        go_enter Try.func42, Try.ntmps42
        go_wp2_with fail
        go_quiet (fail)
        go_wp2_with fail
        go_quiet (fail)
        go_wp2_with fail
        go_quiet (fail)
        go_wp2_with fail
        go_quiet (fail)
        go_wp2_with fail
        go_ret
        exact ⟨ret_bool HF.out.symm, by first | exact ⟨_, rfl⟩ | (simp only [World.drewN_drewN]; exact ⟨_, rfl⟩)⟩
      · have en : (B != D) = true := by simpa using e
        have HF : Hid (befV p i j = decide (D < B)) := by show befV p i j = _; rw [BD.out]; simp [hx2, e]
        clear BD hx2 e
        go_enter Try.func42, Try.ntmps42
        go_wp2_with fail
        go_quiet (fail)
        go_wp2_with fail
        go_quiet (fail)
        go_wp2_with fail
        go_quiet (fail)
        go_wp2_with fail
        go_quiet (fail)
        go_wp2_with fail
        go_quiet (fail)
        go_wp2_with fail
        go_ret
        exact ⟨ret_bool HF.out.symm, by first | exact ⟨_, rfl⟩ | (simp only [World.drewN_drewN]; exact ⟨_, rfl⟩)⟩
    · have HF : Hid (befV p i j = false) := by show befV p i j = _; rw [BD.out]; simp
      have hne : (false != true) = true := rfl
      clear BD hx2
      go_enter Try.func42, Try.ntmps42
      go_wp2_with fail
      go_quiet (fail)
      go_wp2_with fail
      go_quiet (fail)
      go_wp2_with fail
      go_quiet (fail)
      go_wp2_with fail
      go_ret
      exact ⟨ret_bool HF.out.symm, by first | exact ⟨_, rfl⟩ | (simp only [World.drewN_drewN]; exact ⟨_, rfl⟩)⟩
  · have hx2 : A ≤ B := by simpa using hx
    have hx3 : decide (B < A) = false := by simpa using hx2
    cases y
    · have HF : Hid (befV p i j = true) := by show befV p i j = _; rw [BD.out]; simp
      have hne : (true != false) = true := rfl
      clear BD hx2
      go_enter Try.func42, Try.ntmps42
      go_wp2_with fail
      go_quiet (fail)
      go_wp2_with fail
      go_quiet (fail)
      go_wp2_with fail
      go_quiet (fail)
      go_wp2_with fail
      go_ret
      exact ⟨ret_bool HF.out.symm, by first | exact ⟨_, rfl⟩ | (simp only [World.drewN_drewN]; exact ⟨_, rfl⟩)⟩
    · by_cases e : A = C
      · have en : (A != C) = false := by simp [e]
        have HF : Hid (befV p i j = decide (i < j)) := by show befV p i j = _; rw [BD.out]; simp [e]; omega
        clear BD hx2 e
        go_enter Try.func42, Try.ntmps42
        go_wp2_with fail
        go_quiet (fail)
        go_wp2_with fail
        go_quiet (fail)
        go_wp2_with fail
        go_quiet (fail)
        go_wp2_with fail
        go_quiet (fail)
        go_wp2_with fail
        go_ret
        exact ⟨ret_bool HF.out.symm, by first | exact ⟨_, rfl⟩ | (simp only [World.drewN_drewN]; exact ⟨_, rfl⟩)⟩
      · have en : (A != C) = true := by simpa using e
        have HF : Hid (befV p i j = decide (A < C)) := by show befV p i j = _; rw [BD.out]; simp [hx2, e]
        clear BD hx2 e
        go_enter Try.func42, Try.ntmps42
        go_wp2_with fail
        go_quiet (fail)
        go_wp2_with fail
        go_quiet (fail)
        go_wp2_with fail
        go_quiet (fail)
        go_wp2_with fail
        go_quiet (fail)
        go_wp2_with fail
        go_ret
        exact ⟨ret_bool HF.out.symm, by first | exact ⟨_, rfl⟩ | (simp only [World.drewN_drewN]; exact ⟨_, rfl⟩)⟩
end Go.Proofs.Ytijapbfkpmphpaa
