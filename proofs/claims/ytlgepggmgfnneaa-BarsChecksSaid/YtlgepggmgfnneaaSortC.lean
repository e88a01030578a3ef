/- Contracts: swapRange and rotate of package slices, in place. -/
import Derived.Test.YtlgepggmgfnneaaSymSpec
import Derived.Test.YtlgepggmgfnneaaSortB
import Derived.BigRegion
namespace Go.Proofs.Ytlgepggmgfnneaa
open Go.RowKit

/-- it leaves ys -/
def PostW (w : World) (B g n cap : Nat) (ys : List Int) (e : Ending) (w' : World) : Prop :=
  e = .returned (.tuple #[]) ∧ w.grownBy w' (some g) ∧ OwnI w' B (.slice (some ⟨g, 0, none⟩) n cap) ys

theorem OwnI.form_n {w : World} {B g n cap : Nat} {xs : List Int} (h : OwnI w B (.slice (some ⟨g, 0, none⟩) n cap) xs) : n = xs.length ∧ xs.length ≤ cap := by
  obtain ⟨a, c, he, h1, _⟩ := h.si
  simp at he
  exact ⟨he.2.1, by omega⟩

set_option maxHeartbeats 1000000 in
theorem swapRange_nat (fv : Value) (w : World) (B g n cap : Nat) (xs : List Int) (a b c : Nat) (ho : OwnI w B (.slice (some ⟨g, 0, none⟩) n cap) xs) (h2 : a + c ≤ b) (h3 : b + c ≤ xs.length) (hl : xs.length ≤ 100000) :
    Calls Try.prog 60 #[.slice (some ⟨g, 0, none⟩) n cap, .int .i64 a, .int .i64 b, .int .i64 c, fv] w (PostW w B g n cap (swp xs a b c)) := by
  obtain ⟨rfl, hcap⟩ := ho.form_n
  have HO := Lib.hid ho
  clear ho
  go_enter Try.func60, Try.ntmps60
  go_wp2_with fail
  go_loopw [10] (fun i wr => ∃ k : Nat, k ≤ c ∧ i = .int .i64 k ∧ Hid (w.grownBy wr (some g)) ∧ Hid (OwnI wr B (.slice (some ⟨g, 0, none⟩) xs.length cap) (swp xs a b k))) (fun i _ => c - (intOf i).toNat)
  case atStart => exact ⟨0, Nat.zero_le _, rfl, World.grownBy.refl _ _, by rw [swp_zero]; exact HO.out⟩
  case round =>
    obtain ⟨k, hk, rfl, hg, hw⟩ := hrel
    by_cases hlt : k < c
    · have hz := Lib.hid (swp_length xs a b k)
      have c1 := hw.out.cellg (k := a + k) (by rw [hz.out]; omega)
      have c2 := hw.out.cellg (k := b + k) (by rw [hz.out]; omega)
      have f1 := hw.out.fzg (a + k)
      have f2 := hw.out.fzg (b + k)
      have HS := Lib.hid (swp_succ (xs := xs) (a := a) (b := b) (n := k) (by omega) (by omega))
      have i1 : (a : Int) + k < xs.length := by omega
      have i2 : (b : Int) + k < xs.length := by omega
      have i3 : (a : Int) + k < cap := by omega
      have i4 : (b : Int) + k < cap := by omega
      have e1 : IntKind.i64.wrap ((a : Int) + k) = (a : Int) + k := IntWalk.i64_in _ (by omega)
      have e2 : IntKind.i64.wrap ((b : Int) + k) = (b : Int) + k := IntWalk.i64_in _ (by omega)
      have e3 : ((a : Int) + k).toNat = a + k := by omega
      have e4 : ((b : Int) + k).toNat = b + k := by omega
      have n1 : (0 : Int) ≤ (a : Int) + k := by omega
      have n2 : (0 : Int) ≤ (b : Int) + k := by omega
      go_wp2_with fail
      go_region
      go_wp2_with fail
      go_roundw
      case rel => 
        refine ⟨k + 1, by omega, by go_num, grownBy_trans hg.out (grownBy_drew (grownBy_trans (grownBy_setCell _ _ _ _) (grownBy_setCell _ _ _ _))), ?_⟩
        rw [← HS.out]
        exact ((hw.out.setg (a + k) _).setg (b + k) _).drew
      case measure => simp [intOf]; omega
    · obtain rfl : k = c := by omega
      go_wp2_with fail
      refine bodyPost_end (results_none Try.results60 _ _ _) rfl ?_
      exact ⟨rfl, hg.out, hw.out⟩

theorem swapRange_any (fv : Value) (w : World) (B g n cap : Nat) (xs : List Int) (a b c : Int) (a' b' c' : Nat) (ha : a = a') (hb : b = b') (hc : c = c') (ho : OwnI w B (.slice (some ⟨g, 0, none⟩) n cap) xs) (h2 : a' + c' ≤ b') (h3 : b' + c' ≤ xs.length) (hl : xs.length ≤ 100000) :
    Calls Try.prog 60 #[.slice (some ⟨g, 0, none⟩) n cap, .int .i64 a, .int .i64 b, .int .i64 c, fv] w (PostW w B g n cap (swp xs a' b' c')) := by
  subst ha hb hc
  exact swapRange_nat fv w B g n cap xs a' b' c' ho h2 h3 hl

set_option maxHeartbeats 1000000 in
theorem rotate_any (fv : Value) (w : World) (B g n cap : Nat) (xs : List Int) (a m b : Nat) (ho : OwnI w B (.slice (some ⟨g, 0, none⟩) n cap) xs) (h1 : a < m) (h2 : m < b) (h3 : b ≤ xs.length) (hl : xs.length ≤ 100000) :
    Calls Try.prog 59 #[.slice (some ⟨g, 0, none⟩) n cap, .int .i64 a, .int .i64 m, .int .i64 b, fv] w (PostW w B g n cap (rot xs a m b)) := by
  have HO := Lib.hid ho
  clear ho
  go_enter Try.func59, Try.ntmps59
  go_wp2_with fail
  go_loopw [10, 11] (fun i j wr => ∃ p q : Nat, 1 ≤ p ∧ 1 ≤ q ∧ p ≤ m - a ∧ q ≤ b - m ∧ i = .int .i64 p ∧ j = .int .i64 q ∧ Hid (w.grownBy wr (some g)) ∧ Hid (∃ ys, ys.length = xs.length ∧ OwnI wr B (.slice (some ⟨g, 0, none⟩) n cap) ys ∧ rot ys (m - p) m (m + q) = rot xs a m b)) (fun i j _ => (intOf i).toNat + (intOf j).toNat)
  case atStart => exact ⟨m - a, b - m, by omega, by omega, Nat.le_refl _, Nat.le_refl _, by go_num, by go_num, World.grownBy.refl _ _, xs, rfl, HO.out, by rw [show m - (m - a) = a by omega, show m + (b - m) = b by omega]⟩
  case round =>
    obtain ⟨p, q, hp1, hq1, hp2, hq2, rfl, rfl, hg, hys⟩ := hrel
    obtain ⟨ys, hl1, ho1, hr1⟩ := hys.out
    have HL := Lib.hid hl1
    have HO1 := Lib.hid ho1
    have HR := Lib.hid hr1
    clear hys hl1 ho1 hr1
    rcases Nat.lt_trichotomy p q with hpq | hpq | hpq
    · have b1 : ((p : Int) != (q : Int)) = true := by rw [bne_iff_ne]; omega
      have b2 : decide ((q : Int) < (p : Int)) = false := by rw [decide_eq_false_iff_not]; omega
      go_wp2_with fail
      refine (swapRange_any _ _ B g n cap ys _ _ _ (m - p) (m + q - p) p (by omega) (by omega) rfl HO1.out (by omega) (by have := HL.out; omega) (by have := HL.out; omega)).mono ?_
      rintro e w1 ⟨rfl, hg1, ho1⟩
      have HG1 := Lib.hid hg1
      have HO2 := Lib.hid ho1
      clear hg1 ho1
      go_wp2_with fail
      go_roundw
      case rel =>
        refine ⟨p, q - p, hp1, by omega, hp2, by omega, rfl, by go_num, grownBy_trans hg.out HG1.out, _, ?_, HO2.out, ?_⟩
        · rw [swp_length]; exact HL.out
        · rw [rot_lt (by omega) (by omega) (by have := HL.out; omega)]; exact HR.out
      case measure => simp [intOf]; omega
    · subst hpq
      have b1 : ((p : Int) != (p : Int)) = false := by simp
      go_wp2_with fail
      refine (swapRange_any _ _ B g n cap ys _ _ _ (m - p) m p (by omega) rfl rfl HO1.out (by omega) (by have := HL.out; omega) (by have := HL.out; omega)).mono ?_
      rintro e w1 ⟨rfl, hg1, ho1⟩
      have HG1 := Lib.hid hg1
      have HO2 := Lib.hid ho1
      clear hg1 ho1
      go_wp2_with fail
      refine bodyPost_end (results_none Try.results59 _ _ _) rfl ?_
      refine ⟨rfl, grownBy_trans hg.out HG1.out, ?_⟩
      rw [← HR.out, ← rot_eq (by omega) (by have := HL.out; omega)]
      exact HO2.out
    · have b1 : ((p : Int) != (q : Int)) = true := by rw [bne_iff_ne]; omega
      have b2 : decide ((q : Int) < (p : Int)) = true := by rw [decide_eq_true_eq]; omega
      go_wp2_with fail
      refine (swapRange_any _ _ B g n cap ys _ _ _ (m - p) m q (by omega) rfl rfl HO1.out (by omega) (by have := HL.out; omega) (by have := HL.out; omega)).mono ?_
      rintro e w1 ⟨rfl, hg1, ho1⟩
      have HG1 := Lib.hid hg1
      have HO2 := Lib.hid ho1
      clear hg1 ho1
      go_wp2_with fail
      go_roundw
      case rel =>
        refine ⟨p - q, q, by omega, hq1, by omega, hq2, by go_num, rfl, grownBy_trans hg.out HG1.out, _, ?_, HO2.out, ?_⟩
        · rw [swp_length]; exact HL.out
        · rw [rot_gt (by omega) (by omega) (by have := HL.out; omega)]; exact HR.out
      case measure => simp [intOf]; omega
end Go.Proofs.Ytlgepggmgfnneaa
