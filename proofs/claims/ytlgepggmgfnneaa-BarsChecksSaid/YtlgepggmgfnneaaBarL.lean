/- Contracts: cmp.Compare and the two closures of Greedy. -/
import Derived.Test.YtlgepggmgfnneaaGreSpec2
import Derived.Test.YtlgepggmgfnneaaSortA
namespace Go.Proofs.Ytlgepggmgfnneaa
open Go.RowKit

theorem isNaN_any (x : Int) (w : World) : Calls Try.prog 52 #[.int .i64 x] w fun e w' => e = .returned (.bool false) ∧ ∃ m, w' = w.drewN m := by
  have hx : (x != x) = false := by simp
  go_enter Try.func52, Try.ntmps52
  go_wp2_with fail
  go_ret
  exact ⟨rfl, 0, rfl⟩
theorem compare_any (a b : Int) (w : World) : Calls Try.prog 39 #[.int .i64 a, .int .i64 b] w fun e w' => e = .returned (.int .i64 (cmpV a b)) ∧ ∃ m, w' = w.drewN m := by
  go_enter Try.func39, Try.ntmps39
  go_wp2_with fail
  refine (isNaN_any a w).mono ?_
  rintro e w1 ⟨rfl, m1, rfl⟩
  go_wp2_with fail
  refine (isNaN_any b _).mono ?_
  rintro e w1 ⟨rfl, m2, rfl⟩
  by_cases h1 : a < b
  · have C : Hid (cmpV a b = -1) := by show cmpV a b = -1; unfold cmpV; rw [if_pos h1]
    go_wp2_with fail
    go_ret
    exact ⟨ret_int C.out.symm, _, rfl⟩
  · by_cases h2 : b < a
    · have C : Hid (cmpV a b = 1) := by show cmpV a b = 1; unfold cmpV; rw [if_neg h1, if_pos h2]
      go_wp2_with fail
      go_ret
      exact ⟨ret_int C.out.symm, _, rfl⟩
    · have C : Hid (cmpV a b = 0) := by show cmpV a b = 0; unfold cmpV; rw [if_neg h1, if_neg h2]
      go_wp2_with fail
      go_ret
      exact ⟨ret_int C.out.symm, _, rfl⟩

/-- a cell of a slice of integers at an Int -/
theorem SI_cellI {w : World} {a : Option Addr} {n cap : Nat} {l : List Int} (h : SI w (.slice a n cap) l) {j : Int} (h0 : 0 ≤ j) (hj : j < l.length) :
    ∃ b o, a = some ⟨b, o, none⟩ ∧ n = l.length ∧ n ≤ cap ∧ w.cell? ⟨b, o + j.toNat, none⟩ = some (.int .i64 (glI l j)) := by
  obtain ⟨a', cap', e, h1, _, h3⟩ := h
  simp at e
  obtain ⟨rfl, rfl, rfl⟩ := e
  obtain ⟨b, o, ha, hc⟩ := h3 j.toNat (by omega)
  exact ⟨b, o, ha, rfl, h1, hc⟩

set_option maxHeartbeats 400000 in
theorem greedy1_any (X : Nat) (lv : Value) (l : List Int) (x y : Int) (w : World) (hc : w.cell? ⟨X, 0, none⟩ = some lv) (h : SI w lv l) (hx0 : 0 ≤ x) (hx : x < l.length) (hy0 : 0 ≤ y) (hy : y < l.length) :
    Calls Try.prog 38 #[.int .i64 x, .int .i64 y, .pointer (some ⟨X, 0, none⟩)] w fun e w' => e = .returned (.int .i64 (cG l x y)) ∧ ∃ m, w' = w.drewN m := by
  obtain ⟨a, n, cap, rfl⟩ : ∃ a n cap, lv = .slice a n cap := by obtain ⟨a, cap, e, _⟩ := h; exact ⟨a, _, cap, e⟩
  obtain ⟨b, o, rfl, rfl, hcap, cx⟩ := SI_cellI h hx0 hx
  obtain ⟨b', o', e, _, _, cy⟩ := SI_cellI h hy0 hy
  simp at e
  obtain ⟨rfl, rfl⟩ := e
  clear h
  obtain ⟨x, rfl⟩ : ∃ k : Nat, x = (k : Int) := ⟨x.toNat, by omega⟩
  obtain ⟨y, rfl⟩ : ∃ k : Nat, y = (k : Int) := ⟨y.toNat, by omega⟩
  simp only [Int.toNat_natCast] at cx cy
  have hxc : (x : Int) < cap := by omega
  have hyc : (y : Int) < cap := by omega
  have HE : Hid (cmpV (glI l y) (glI l x) = cG l x y) := rfl
  generalize glI l x = lx at *
  generalize glI l y = ly at *
  go_enter Try.func38, Try.ntmps38
  go_wp2_with fail
  go_quiet ((go_at_call 39; exact Calls.quiet_of (compare_any _ _ _)))
  go_wp2_with fail
  go_ret
  exact ⟨ret_int HE.out, _, rfl⟩

set_option maxHeartbeats 400000 in
theorem greedy2_any (X I K : Nat) (lv : Value) (l : List Int) (i k n : Int) (w : World) (hc : w.cell? ⟨X, 0, none⟩ = some lv) (hi : w.cell? ⟨I, 0, none⟩ = some (.int .i64 i)) (hk : w.cell? ⟨K, 0, none⟩ = some (.int .i64 k)) (h : SI w lv l)
    (h0 : 0 ≤ i) (h1 : i < l.length) (hb : 1 ≤ glI l i ∧ glI l i ≤ 32768) (hkb : 0 ≤ k ∧ k ≤ 100) :
    Calls Try.prog 41 #[.int .i64 n, .pointer (some ⟨X, 0, none⟩), .pointer (some ⟨I, 0, none⟩), .pointer (some ⟨K, 0, none⟩)] w fun e w' => e = .returned (.bool (decide (glI l i + k ≤ n))) ∧ ∃ m, w' = w.drewN m := by
  obtain ⟨a, n', cap, rfl⟩ : ∃ a n cap, lv = .slice a n cap := by obtain ⟨a, cap, e, _⟩ := h; exact ⟨a, _, cap, e⟩
  obtain ⟨b, o, rfl, rfl, hcap, cx⟩ := SI_cellI h h0 h1
  clear h
  obtain ⟨i, rfl⟩ : ∃ k : Nat, i = (k : Int) := ⟨i.toNat, by omega⟩
  simp only [Int.toNat_natCast] at cx
  have hxc : (i : Int) < cap := by omega
  generalize glI l i = li at *
  have e1 : IntKind.i64.wrap (li + k) = li + k := IntWalk.i64_in _ (by omega)
  go_enter Try.func41, Try.ntmps41
  go_wp2_with fail
  go_quiet (fail)
  go_wp2_with fail
  go_ret
  exact ⟨rfl, _, rfl⟩
end Go.Proofs.Ytlgepggmgfnneaa
