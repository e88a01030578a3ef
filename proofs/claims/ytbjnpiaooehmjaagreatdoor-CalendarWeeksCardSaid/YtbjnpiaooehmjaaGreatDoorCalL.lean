/- Contracts of the reference: Next, Add. -/
import Derived.Test.YtbjnpiaooehmjaaGreatDoorCalK
namespace Go.Proofs.YtbjnpiaooehmjaaGreatDoor
open Go.RowKit

set_option maxHeartbeats 1000000 in
theorem rNext_any (v : Value) (sh : List Sp) (cl : List Int) (t : Int) (w : World) (hc : CalR w v sh cl) :
    Calls Tryz.prog 13 #[v, .int .i64 t] w (RetNE w (nextV sh cl t) (nextE sh cl t)) := by
  have HC := Lib.hid hc
  obtain ⟨sv, cv, rfl, hsp, hsi⟩ := hc
  obtain ⟨a, cap, rfl, _⟩ := hsp
  obtain ⟨a2, cap2, rfl, _⟩ := hsi
  have HB : Hid (Below w.heap.size w (w.alloc (.cells #[.slice a sh.length cap, .slice a2 cl.length cap2] 29))) := Lib.hid ((Below.refl _ _).alloc (Nat.le_refl _) _)
  have HT : ∀ w2, Hid (Calls Tryz.prog 24 #[.int .i64 t] w2 fun e w' => e = .returned (.bool (timeB t)) ∧ w' = w2) := fun w2 => Lib.hid (Time_any t w2)
  unfold nextV nextE
  cases ht : timeB t with
  | false =>
    have hn : t < 0 ∨ 1048576 < t := by unfold timeB at ht; simp at ht; omega
    rw [if_pos hn, if_pos hn]
    rw [ht] at HT
    clear hn
    go_enter Tryz.func13, Tryz.ntmps13
    go_wp2_with fail
    refine (HT _).out.mono ?_
    rintro e w1 ⟨rfl, rfl⟩
    go_wp2_with fail
    go_ret2
    exact ⟨rfl, HB.out⟩
  | true =>
    have ht2 : 0 ≤ t ∧ t ≤ 1048576 := by unfold timeB at ht; simpa using ht
    rw [if_neg (by omega), if_neg (by omega)]
    rw [ht] at HT
    obtain ⟨s, rfl⟩ : ∃ s : Nat, t = s := ⟨t.toNat, by omega⟩
    rw [Int.toNat_natCast, ← reach_next (sh := sh) (cl := cl) (show s ≤ 1048576 by omega)]
    have HR := fun w2 (hb : Below w.heap.size w w2) => Lib.hid (reach_any _ sh cl s 1 w2 (HC.out.keep hb) (by omega) (by decide) (by decide))
    cases hx : reachO sh cl s 1 with
    | none =>
      rw [hx] at HR
      dsimp only [rchV] at HR ⊢
      go_enter Tryz.func13, Tryz.ntmps13
      go_wp2_with fail
      refine (HT _).out.mono ?_
      rintro e w1 ⟨rfl, rfl⟩
      go_wp2_with fail
      refine (HR _ HB.out).out.mono ?_
      rintro e w1 ⟨rfl, hb⟩
      have HB1 := Lib.hid (HB.out.trans (hb.mono HB.out.size))
      clear hb
      go_wp2_with fail
      go_ret2
      exact ⟨rfl, HB1.out⟩
    | some u =>
      have hu := (firstN_some hx).2.1
      rw [hx] at HR
      dsimp only [rchV] at HR ⊢
      go_enter Tryz.func13, Tryz.ntmps13
      go_wp2_with fail
      refine (HT _).out.mono ?_
      rintro e w1 ⟨rfl, rfl⟩
      go_wp2_with fail
      refine (HR _ HB.out).out.mono ?_
      rintro e w1 ⟨rfl, hb⟩
      have HB1 := Lib.hid (HB.out.trans (hb.mono HB.out.size))
      clear hb
      go_wp2_with fail
      go_ret2
      exact ⟨rfl, HB1.out⟩

set_option maxHeartbeats 1000000 in
theorem rAdd_any (v : Value) (sh : List Sp) (cl : List Int) (t h : Int) (w : World) (hc : CalR w v sh cl) :
    Calls Tryz.prog 17 #[v, .int .i64 t, .int .i64 h] w (RetNE w (addCV sh cl t h) (addCE sh cl t h)) := by
  have HC := Lib.hid hc
  obtain ⟨sv, cv, rfl, hsp, hsi⟩ := hc
  obtain ⟨a, cap, rfl, _⟩ := hsp
  obtain ⟨a2, cap2, rfl, _⟩ := hsi
  have HB : Hid (Below w.heap.size w (w.alloc (.cells #[.slice a sh.length cap, .slice a2 cl.length cap2] 29))) := Lib.hid ((Below.refl _ _).alloc (Nat.le_refl _) _)
  have HT : ∀ w2, Hid (Calls Tryz.prog 24 #[.int .i64 t] w2 fun e w' => e = .returned (.bool (timeB t)) ∧ w' = w2) := fun w2 => Lib.hid (Time_any t w2)
  unfold addCV addCE
  cases ht : timeB t with
  | false =>
    have hn : t < 0 ∨ 1048576 < t ∨ h < 0 := by unfold timeB at ht; simp at ht; omega
    rw [if_pos hn, if_pos hn]
    rw [ht] at HT
    clear hn
    go_enter Tryz.func17, Tryz.ntmps17
    go_wp2_with fail
    refine (HT _).out.mono ?_
    rintro e w1 ⟨rfl, rfl⟩
    go_wp2_with fail
    go_ret2
    exact ⟨rfl, HB.out⟩
  | true =>
    have ht2 : 0 ≤ t ∧ t ≤ 1048576 := by unfold timeB at ht; simpa using ht
    rw [ht] at HT
    by_cases hh : h < 0
    · have hn : t < 0 ∨ 1048576 < t ∨ h < 0 := .inr (.inr hh)
      rw [if_pos hn, if_pos hn]
      clear hn
      go_enter Tryz.func17, Tryz.ntmps17
      go_wp2_with fail
      refine (HT _).out.mono ?_
      rintro e w1 ⟨rfl, rfl⟩
      go_wp2_with fail
      go_ret2
      exact ⟨rfl, HB.out⟩
    have hn : ¬ (t < 0 ∨ 1048576 < t ∨ h < 0) := by omega
    rw [if_neg hn, if_neg hn]
    clear hn ht
    obtain ⟨s, rfl⟩ : ∃ s : Nat, t = s := ⟨t.toNat, by omega⟩
    rw [Int.toNat_natCast]
    by_cases h0 : h = 0
    · subst h0
      rw [addO_zero (by omega)]
      go_enter Tryz.func17, Tryz.ntmps17
      go_wp2_with fail
      refine (HT _).out.mono ?_
      rintro e w1 ⟨rfl, rfl⟩
      go_wp2_with fail
      go_ret2
      exact ⟨rfl, HB.out⟩
    have hb0 : (h == 0) = false := by simpa using h0
    by_cases hm : 1048576 < h
    · rw [add_many (by omega) hm]
      go_enter Tryz.func17, Tryz.ntmps17
      go_wp2_with fail
      refine (HT _).out.mono ?_
      rintro e w1 ⟨rfl, rfl⟩
      go_wp2_with fail
      go_ret2
      exact ⟨rfl, HB.out⟩
    rw [reach_add (by omega) (by omega)]
    have HR := fun w2 (hb : Below w.heap.size w w2) => Lib.hid (reach_any _ sh cl s h w2 (HC.out.keep hb) (by omega) (by omega) (by omega))
    cases hx : reachO sh cl s h with
    | none =>
      rw [hx] at HR
      dsimp only [rchV] at HR ⊢
      go_enter Tryz.func17, Tryz.ntmps17
      go_wp2_with fail
      refine (HT _).out.mono ?_
      rintro e w1 ⟨rfl, rfl⟩
      go_wp2_with fail
      refine (HR _ HB.out).out.mono ?_
      rintro e w1 ⟨rfl, hb⟩
      have HB1 := Lib.hid (HB.out.trans (hb.mono HB.out.size))
      clear hb
      go_wp2_with fail
      go_ret2
      exact ⟨rfl, HB1.out⟩
    | some u =>
      have hu := (firstN_some hx).2.1
      rw [hx] at HR
      dsimp only [rchV] at HR ⊢
      by_cases hlt : u < 1048576
      · rw [if_pos hlt]
        dsimp only
        go_enter Tryz.func17, Tryz.ntmps17
        go_wp2_with fail
        refine (HT _).out.mono ?_
        rintro e w1 ⟨rfl, rfl⟩
        go_wp2_with fail
        refine (HR _ HB.out).out.mono ?_
        rintro e w1 ⟨rfl, hb⟩
        have HB1 := Lib.hid (HB.out.trans (hb.mono HB.out.size))
        clear hb
        go_wp2_with fail
        go_ret2
        exact ⟨rfl, HB1.out⟩
      · rw [if_neg hlt]
        dsimp only
        obtain rfl : u = 1048576 := by omega
        go_enter Tryz.func17, Tryz.ntmps17
        go_wp2_with fail
        refine (HT _).out.mono ?_
        rintro e w1 ⟨rfl, rfl⟩
        go_wp2_with fail
        refine (HR _ HB.out).out.mono ?_
        rintro e w1 ⟨rfl, hb⟩
        have HB1 := Lib.hid (HB.out.trans (hb.mono HB.out.size))
        clear hb
        go_wp2_with fail
        go_ret2
        exact ⟨rfl, HB1.out⟩
end Go.Proofs.YtbjnpiaooehmjaaGreatDoor
