/- Contract: the insertion sort of package slices, in place. -/
import Derived.Test.YtlgepggmgfnneaaSort
import Derived.Test.YtlgepggmgfnneaaApp
import Derived.Test.YtlgepggmgfnneaaGrown
namespace Go.Proofs.Ytlgepggmgfnneaa
open Go.RowKit

/-- A function value that compares two integers, in every world that differs from W0 in block g and in new blocks alone. -/
def FnCmp (fv : Value) (W0 : World) (g : Nat) (D : Int → Prop) (c : Int → Int → Int) : Prop :=
  ∃ F caps, fv = .func (.func F) #[] caps ∧ (∀ args w, (callFunc F args).run Try.prog w = .ok (.enter F args) w) ∧
    ∀ x y w', D x → D y → W0.grownBy w' (some g) → Calls Try.prog F (#[.int .i64 x, .int .i64 y] ++ caps) w' fun e w'' => e = .returned (.int .i64 (c x y)) ∧ ∃ m, w'' = w'.drewN m

theorem OwnI.cellg {w : World} {B g n cap : Nat} {xs : List Int} (h : OwnI w B (.slice (some ⟨g, 0, none⟩) n cap) xs) {k : Nat} (hk : k < xs.length) : w.cell? ⟨g, k, none⟩ = some (.int .i64 (gi xs k)) := by
  have h' : w.ownsRow B 3 1 (.slice (some ⟨g, 0, none⟩) n cap) xs.length (xs.map (Value.int .i64)) := h
  obtain ⟨a, c, he, _⟩ := h.si
  simp at he
  obtain ⟨_, rfl, _⟩ := he
  rw [h'.cellAt k (by omega), gi_lt hk]; simp [hk]
theorem OwnI.fzg {w : World} {B g n cap : Nat} {xs : List Int} (h : OwnI w B (.slice (some ⟨g, 0, none⟩) n cap) xs) (k : Nat) : w.frozen? ⟨g, k, none⟩ = false := by
  have h' : w.ownsRow B 3 1 (.slice (some ⟨g, 0, none⟩) n cap) xs.length (xs.map (Value.int .i64)) := h
  obtain ⟨a, c, he, _⟩ := h.si
  simp at he
  obtain ⟨_, rfl, _⟩ := he
  exact h'.frozenAt k
theorem OwnI.setg {w : World} {B g n cap : Nat} {xs : List Int} (h : OwnI w B (.slice (some ⟨g, 0, none⟩) n cap) xs) (k : Nat) (x : Int) : OwnI (w.setCell ⟨g, k, none⟩ (.int .i64 x)) B (.slice (some ⟨g, 0, none⟩) n cap) (xs.set k x) := by
  have h' : w.ownsRow B 3 1 (.slice (some ⟨g, 0, none⟩) n cap) xs.length (xs.map (Value.int .i64)) := h
  obtain ⟨a, c, he, _⟩ := h.si
  simp at he
  obtain ⟨_, rfl, _⟩ := he
  have := (h'.stored k (.int .i64 x)).1
  unfold OwnI
  rw [List.length_set, List.map_set]
  exact this
theorem OwnI.drew {w : World} {B : Nat} {v : Value} {r : List Int} (h : OwnI w B v r) : OwnI w.drew B v r := h
theorem OwnI.drewN {w : World} {B : Nat} {v : Value} {r : List Int} (h : OwnI w B v r) (m : Nat) : OwnI (w.drewN m) B v r := h
theorem grownBy_drew {a b : World} {row : Option Nat} (h : a.grownBy b row) : a.grownBy b.drew row := ⟨h.os, h.tape, h.output, h.size, h.block⟩
theorem grownBy_drewN {a b : World} {row : Option Nat} (h : a.grownBy b row) (m : Nat) : a.grownBy (b.drewN m) row := ⟨h.os, h.tape, h.output, h.size, h.block⟩

/-- what the sort leaves -/
def PostS (w : World) (B g n cap : Nat) (lt : Int → Int → Bool) (xs : List Int) (a b : Nat) (e : Ending) (w' : World) : Prop :=
  e = .returned (.tuple #[]) ∧ w.grownBy w' (some g) ∧ ∃ ys, OwnI w' B (.slice (some ⟨g, 0, none⟩) n cap) ys ∧ Rearr lt xs ys ∧ SameOut xs ys a b ∧ SortedOn lt ys a b

set_option maxHeartbeats 2000000 in
theorem insertion_any (fv : Value) (D : Int → Prop) (c : Int → Int → Int) (w : World) (B g n cap : Nat) (xs : List Int) (a b : Nat) (ho : OwnI w B (.slice (some ⟨g, 0, none⟩) n cap) xs)
    (hf : FnCmp fv w g D c) (hO : SWO D (ltOf c)) (hD : ∀ x ∈ xs, D x) (hab : a ≤ b) (hb : b ≤ xs.length) (hl : xs.length ≤ 100000) :
    Calls Try.prog 56 #[.slice (some ⟨g, 0, none⟩) n cap, .int .i64 a, .int .i64 b, fv] w (PostS w B g n cap (ltOf c) xs a b) := by
  obtain ⟨F, caps, rfl, hcf, hf⟩ := hf
  have HF := Lib.hid hf; clear hf
  have HO := Lib.hid ho; clear ho
  have HOO := Lib.hid hO; clear hO
  have HD := Lib.hid hD; clear hD
  have hnx : n = xs.length := by obtain ⟨a, c, he, _⟩ := HO.out.si; simp at he; exact he.2.1
  subst hnx
  have hcapn : xs.length ≤ cap := by obtain ⟨a, c, he, h1, _⟩ := HO.out.si; simp at he; omega
  go_enter Try.func56, Try.ntmps56
  go_wp2_with fail
  go_loopw [8] (fun i wr => ∃ k : Nat, a + 1 ≤ k ∧ (k ≤ b ∨ b = a) ∧ i = .int .i64 k ∧ Hid (w.grownBy wr (some g)) ∧ Hid (∃ ys, OwnI wr B (.slice (some ⟨g, 0, none⟩) xs.length cap) ys ∧ Rearr (ltOf c) xs ys ∧ SameOut xs ys a k ∧ SortedOn (ltOf c) ys a k ∧ (b = a → ys = xs))) (fun i _ => b - (intOf i).toNat)
  case atStart => exact ⟨a + 1, Nat.le_refl _, by omega, by go_num, World.grownBy.refl _ _, xs, HO.out, .refl _, .refl _ _ _, fun k l h1 h2 h3 => by omega, fun _ => rfl⟩
  case round =>
    obtain ⟨wo, rfl⟩ : ∃ wo : World, wo = wr := ⟨_, rfl⟩
    obtain ⟨i, hi1, hi2, rfl, hg, hys⟩ := hrel
    by_cases hlt : i < b
    · obtain ⟨ys, ho1, hr1, hs1, hso1, _⟩ := hys.out
      have HI := Lib.hid (Ins.start hr1 hs1 hso1)
      have HO1 := Lib.hid ho1
      clear hys ho1 hr1 hs1 hso1
      go_wp2_with fail
      go_loopw [9] (fun j w2 => ∃ k : Nat, a ≤ k ∧ k ≤ i ∧ j = .int .i64 k ∧ Hid (w.grownBy w2 (some g)) ∧ Hid (∃ zs, OwnI w2 B (.slice (some ⟨g, 0, none⟩) xs.length cap) zs ∧ Ins (ltOf c) xs zs a i k)) (fun j _ => (intOf j).toNat)
      case atStart => exact ⟨i, by omega, Nat.le_refl _, rfl, hg, ys, HO1.out, HI.out⟩
      case round =>
        obtain ⟨j, hj1, hj2, rfl, hg2, hzs⟩ := hrel
        obtain ⟨zs, ho2, hins⟩ := hzs.out
        have hlz : zs.length = xs.length := hins.re.length
        have HDZ : Hid (∀ k, k < zs.length → D (gi zs k)) := fun k hk => HD.out _ (hins.re.perm.mem_iff.1 (gi_mem hk))
        have HO2 := Lib.hid ho2
        have HINS := Lib.hid hins
        clear hzs ho2 hins
        have HLZ := Lib.hid hlz
        have hjz : j < zs.length := by omega
        have i1 : (0 : Int) ≤ j := by omega
        have i2 : (j : Int) < xs.length := by omega
        have i4 : (j : Int) < cap := by omega
        clear hlz
        have cj := HO2.out.cellg hjz
        by_cases hja : a < j
        · have hjB : decide ((a : Int) < (j : Int)) = true := by rw [decide_eq_true_eq]; omega
          have cj1 := HO2.out.cellg (show j - 1 < zs.length by omega)
          have i3 : (0 : Int) ≤ (j : Int) - 1 := by omega
          have i5 : (j : Int) - 1 < xs.length := by omega
          have i6 : (j : Int) - 1 < cap := by omega
          have hw : IntKind.i64.wrap ((j : Int) - 1) = (j : Int) - 1 := IntWalk.i64_in _ (by omega)
          have ht : ((j : Int) - 1).toNat = j - 1 := by omega
          have HCC : Hid (∀ w', w.grownBy w' (some g) → Calls Try.prog F (#[.int .i64 (gi zs j), .int .i64 (gi zs (j - 1))] ++ caps) w' fun e w'' => e = .returned (.int .i64 (c (gi zs j) (gi zs (j - 1)))) ∧ ∃ m, w'' = w'.drewN m) := fun w' h => HF.out (gi zs j) (gi zs (j - 1)) w' (HDZ.out j hjz) (HDZ.out (j - 1) (by omega)) h
          cases hlt2 : ltOf c (gi zs j) (gi zs (j - 1))
          · have hcb : decide (c (gi zs j) (gi zs (j - 1)) < 0) = false := hlt2
            have HST := Lib.hid (HINS.out.stop HOO.out HDZ.out (by have := HLZ.out; omega) hj1 hj2 (.inr ⟨hja, hlt2⟩))
            clear hlt2
            go_wp2_with fail
            go_quiet (exact Calls.quiet_of (HCC.out _ (grownBy_drewN hg2.out _)))
            go_wp2_with fail
            go_roundw
            case rel => exact ⟨i + 1, by omega, by omega, by go_num, grownBy_drewN hg2.out _, zs, HO2.out.drewN _, HST.out.1, HST.out.2.1, HST.out.2.2, fun _ => by omega⟩
            case measure => simp [intOf]; omega
          · have hcb : decide (c (gi zs j) (gi zs (j - 1)) < 0) = true := hlt2
            have HNX := Lib.hid (Ins.next (j := j - 1) HOO.out (by rw [show j - 1 + 1 = j by omega]; exact HINS.out) HDZ.out (by have := HLZ.out; omega) (by omega) (by omega) (by rw [show j - 1 + 1 = j by omega]; exact hlt2))
            rw [show j - 1 + 1 = j by omega] at HNX
            clear hlt2
            go_wp2_with fail
            go_quiet (exact Calls.quiet_of (HCC.out _ (grownBy_drewN hg2.out _)))
            have f1 := HO2.out.fzg j
            have f2 := HO2.out.fzg (j - 1)
            go_wp2_with fail
            go_region
            go_wp2_with fail
            go_roundw
            case rel =>
              refine ⟨j - 1, by omega, by omega, by rw [show ((j - 1 : Nat) : Int) = (j : Int) - 1 by omega], grownBy_trans (grownBy_drewN hg2.out _) (grownBy_trans (grownBy_setCell _ _ _ _) (grownBy_setCell _ _ _ _)), swapAt zs j (j - 1), ?_, HNX.out⟩
              exact ((HO2.out.drewN _).setg j _).setg (j - 1) _
            case measure => simp [intOf]; omega
        · have hjB : decide ((a : Int) < (j : Int)) = false := by rw [decide_eq_false_iff_not]; omega
          have HST := Lib.hid (HINS.out.stop HOO.out HDZ.out (by have := HLZ.out; omega) hj1 hj2 (.inl (by omega)))
          go_wp2_with fail
          go_quiet (fail)
          go_wp2_with fail
          go_roundw
          case rel => exact ⟨i + 1, by omega, by omega, by go_num, grownBy_drewN hg2.out _, zs, HO2.out.drewN _, HST.out.1, HST.out.2.1, HST.out.2.2, fun _ => by omega⟩
          case measure => simp [intOf]; omega
    · obtain ⟨ys, ho1, hr1, hs1, hso1, hab1⟩ := hys.out
      have HR : Hid (Rearr (ltOf c) xs ys ∧ SameOut xs ys a b ∧ SortedOn (ltOf c) ys a b) := by
        refine ⟨hr1, ?_, fun k l h1 h2 h3 => hso1 k l h1 h2 (by omega)⟩
        by_cases e : b = a
        · rw [hab1 e]; exact .refl _ _ _
        · have : i = b := by omega
          subst this; exact hs1
      have HO1 := Lib.hid ho1
      clear hys ho1 hr1 hs1 hso1 hab1
      go_wp2_with fail
      refine bodyPost_ret (v := .tuple #[]) (results_none Try.results56 _ _ _) rfl ?_
      exact ⟨rfl, hg.out, ys, HO1.out, HR.out⟩
end Go.Proofs.Ytlgepggmgfnneaa
