/- Contract: Add. -/
import Derived.Test.YtbjnpiaooehmjaaDoorCalE
namespace Go.Proofs.YtbjnpiaooehmjaaDoor
open Go.RowKit

theorem Add_nil (t h : Int) (w : World) : Calls Tryd.prog 12 #[.pointer none, .int .i64 t, .int .i64 h] w (RetNE w 0 1) := by
  go_enter Tryd.func12, Tryd.ntmps12
  go_wp2_with fail
  go_ret2
  exact ⟨rfl, (((Below.refl _ _).alloc (Nat.le_refl _) _).alloc (by simp) _).alloc (by simp; omega) _⟩
theorem cell_new (w : World) (v : Value) (t : TypeId) : (w.alloc (.cells #[v] t)).cell? ⟨w.heap.size, 0, none⟩ = some v := by
  rw [cell_of_row (w.alloc (.cells #[v] t)) w.heap.size 0 #[v] t (0, 0) (MapKept.heap_alloc w _).1]; rfl
theorem mono_enough {sh : List Sp} {cl : List Int} {s : Nat} {h : Int} {n : Nat} (hs : s + n ≤ 1048577) : ∀ a b, a ≤ b → b < n → enough sh cl s h a = true → enough sh cl s h b = true := by
  intro a b hab hb ha
  unfold enough at ha ⊢
  rw [decide_eq_true_eq] at ha ⊢
  have e1 := btw_at (sh := sh) (cl := cl) (show s ≤ s + a by omega) (by omega)
  have e2 := btw_at (sh := sh) (cl := cl) (show s ≤ s + b by omega) (by omega)
  rw [show ((s + a : Nat) : Int) = (s : Int) + a by omega] at e1
  rw [show ((s + b : Nat) : Int) = (s : Int) + b by omega] at e2
  rw [e1] at ha
  rw [e2]
  have := cnt_mono (wk sh cl) (show s + a ≤ s + b by omega)
  unfold befN at *
  omega
theorem least_add {sh : List Sp} {cl : List Int} {s i t : Nat} {h : Int} (hs : s ≤ 1048576) (hl : Least (enough sh cl s h) (1048576 - s) i) (e : addO sh cl s h = some t) : s + i = t := by
  obtain ⟨h1, h2, h3⟩ := hl
  have hno : ¬ btw sh cl s 1048576 < h := fun hb => by rw [(addO_none hs).2 hb] at e; cases e
  have hb : ∀ j : Nat, s + j ≤ 1048577 → (enough sh cl s h j = decide (h ≤ (befN sh cl (s + j) : Int) - befN sh cl s)) := fun j hj => by
    have e1 := btw_at (sh := sh) (cl := cl) (show s ≤ s + j by omega) hj
    rw [show ((s + j : Nat) : Int) = (s : Int) + j by omega] at e1
    unfold enough
    rw [e1]
  have key : addO sh cl s h = some (s + i) := by
    refine addO_at (by omega) (by omega) ?_ ?_
    · by_cases hi : i < 1048576 - s
      · have := h3 i (Nat.le_refl _) hi
        rw [hb i (by omega), decide_eq_true_eq] at this
        exact this
      · have e1 := btw_at (sh := sh) (cl := cl) (show s ≤ 1048576 from hs) (by omega)
        rw [show ((1048576 : Nat) : Int) = 1048576 from rfl] at e1
        rw [show s + i = 1048576 by omega]
        omega
    · by_cases hi : i = 0
      · exact .inl (by omega)
      · have := h2 (i - 1) (by omega)
        rw [hb (i - 1) (by omega), decide_eq_false_iff_not] at this
        rw [show s + i - 1 = s + (i - 1) by omega]
        exact .inr (by omega)
  rw [key] at e
  exact Option.some.inj e

set_option maxHeartbeats 2000000 in
set_option maxRecDepth 100000 in
theorem Add_any (v : Value) (sh : List Sp) (cl : List Int) (t h : Int) (w : World) (hc : CalP w v sh cl) (hg : Good sh cl) :
    Calls Tryd.prog 12 #[v, .int .i64 t, .int .i64 h] w (RetNE w (addCV sh cl t h) (addCE sh cl t h)) := by
  have HC := Lib.hid hc
  have HG := Lib.hid hg
  obtain ⟨B, sv, cv, rfl, _⟩ := hc
  clear hg
  unfold addCV addCE
  have HT : ∀ w2, Hid (Calls Tryd.prog 18 #[.int .i64 t] w2 fun e w' => e = .returned (.bool (timeB t)) ∧ w' = w2) := fun w2 => Lib.hid (time_any t w2)
  have B3 : Hid (Below w.heap.size w (((w.alloc (.cells #[.pointer (some ⟨B, 0, none⟩)] 27)).alloc (.cells #[.int .i64 t] 3)).alloc (.cells #[.int .i64 h] 3))) :=
    Lib.hid ((((Below.refl _ _).alloc (Nat.le_refl _) _).alloc (by simp) _).alloc (by simp; omega) _)
  cases ht : timeB t with
  | false =>
    have hn : t < 0 ∨ 1048576 < t ∨ h < 0 := by unfold timeB at ht; simp at ht; omega
    rw [if_pos hn, if_pos hn]
    rw [ht] at HT
    clear hn
    go_enter Tryd.func12, Tryd.ntmps12
    go_wp2_with fail
    refine (HT _).out.mono ?_
    rintro e w1 ⟨rfl, rfl⟩
    go_wp2_with fail
    go_ret2
    exact ⟨rfl, B3.out⟩
  | true =>
    have ht2 : 0 ≤ t ∧ t ≤ 1048576 := by unfold timeB at ht; simpa using ht
    rw [ht] at HT
    by_cases hh : h < 0
    · have hn : t < 0 ∨ 1048576 < t ∨ h < 0 := .inr (.inr hh)
      rw [if_pos hn, if_pos hn]
      clear hn
      go_enter Tryd.func12, Tryd.ntmps12
      go_wp2_with fail
      refine (HT _).out.mono ?_
      rintro e w1 ⟨rfl, rfl⟩
      go_wp2_with fail
      go_ret2
      exact ⟨rfl, B3.out⟩
    · have hn : ¬ (t < 0 ∨ 1048576 < t ∨ h < 0) := by omega
      rw [if_neg hn, if_neg hn]
      clear hn ht
      obtain ⟨s, rfl⟩ : ∃ s : Nat, t = s := ⟨t.toNat, by omega⟩
      rw [Int.toNat_natCast]
      have hs : s ≤ 1048576 := by omega
      have k1 : (((w.alloc (.cells #[.pointer (some ⟨B, 0, none⟩)] 27)).alloc (.cells #[.int .i64 s] 3)).alloc (.cells #[.int .i64 h] 3)).cell? ⟨w.heap.size, 0, none⟩ = some (.pointer (some ⟨B, 0, none⟩)) :=
        cell_alloc' (cell_alloc' (cell_new _ _ _) _) _
      have k2 : (((w.alloc (.cells #[.pointer (some ⟨B, 0, none⟩)] 27)).alloc (.cells #[.int .i64 s] 3)).alloc (.cells #[.int .i64 h] 3)).cell? ⟨w.heap.size + 1, 0, none⟩ = some (.int .i64 s) := by
        refine cell_alloc' ?_ _
        have := cell_new (w.alloc (.cells #[.pointer (some ⟨B, 0, none⟩)] 27)) (.int .i64 s) 3
        rwa [World.size_alloc] at this
      have k3 : (((w.alloc (.cells #[.pointer (some ⟨B, 0, none⟩)] 27)).alloc (.cells #[.int .i64 s] 3)).alloc (.cells #[.int .i64 h] 3)).cell? ⟨w.heap.size + 1 + 1, 0, none⟩ = some (.int .i64 h) := by
        have := cell_new ((w.alloc (.cells #[.pointer (some ⟨B, 0, none⟩)] 27)).alloc (.cells #[.int .i64 s] 3)) (.int .i64 h) 3
        rwa [World.size_alloc, World.size_alloc] at this
      have HN := addO_none (sh := sh) (cl := cl) (h := h) hs
      cases ha : addO sh cl s h with
      | none =>
        have hr : btw sh cl s 1048576 < h := HN.1 ha
        clear HN ha
        go_enter Tryd.func12, Tryd.ntmps12
        go_wp2_with fail
        refine (HT _).out.mono ?_
        rintro e w1 ⟨rfl, rfl⟩
        generalize ((w.alloc (.cells #[.pointer (some ⟨B, 0, none⟩)] 27)).alloc (.cells #[.int .i64 s] 3)).alloc (.cells #[.int .i64 h] 3) = W at *
        have HC3 := Lib.hid (HC.out.keep B3.out)
        have HBT : Hid (∀ wz, Below W.heap.size W wz → Calls Tryd.prog 11 #[.pointer (some ⟨B, 0, none⟩), .int .i64 s, .int .i64 1048576] wz fun e w' => e = .returned (.int .i64 (btw sh cl s 1048576)) ∧ Below W.heap.size W w') := fun wz hz =>
          (Between_any _ sh cl s 1048576 wz (HC3.out.keep hz) HG.out).mono fun e w' ⟨g1, g2⟩ => ⟨g1, ext_trans hz g2⟩
        generalize btw sh cl s 1048576 = r at HBT hr
        clear HT
        go_wp2_with fail
        go_region_held3 (fun w' => w'.cell? ⟨w.heap.size, 0, none⟩ = some (.pointer (some ⟨B, 0, none⟩)) ∧ w'.cell? ⟨w.heap.size + 1, 0, none⟩ = some (.int .i64 s) ∧ w'.cell? ⟨w.heap.size + 1 + 1, 0, none⟩ = some (.int .i64 h))
          (first | exact ⟨k1, k2, k3⟩ | exact ⟨cell_keep hbz k1, cell_keep hbz k2, cell_keep hbz k3⟩)
          (first | (go_at_call 11; refine (HBT.out _ (by first | exact Below.refl _ _ | exact below_drewN' (Below.refl _ _) _)).mono ?_; rintro e wz ⟨rfl, hbz⟩))
        all_goals (go_wp2_with fail)
        all_goals
          go_ret2
          exact ⟨rfl, B3.out.trans (hbz.mono B3.out.size)⟩
      | some u =>
        have hr : ¬ btw sh cl s 1048576 < h := fun hr => by have := HN.2 hr; rw [ha] at this; cases this
        have HA := Lib.hid ha
        clear HN ha
        go_enter Tryd.func12, Tryd.ntmps12
        go_wp2_with fail
        refine (HT _).out.mono ?_
        rintro e w1 ⟨rfl, rfl⟩
        generalize ((w.alloc (.cells #[.pointer (some ⟨B, 0, none⟩)] 27)).alloc (.cells #[.int .i64 s] 3)).alloc (.cells #[.int .i64 h] 3) = W at *
        have HC3 := Lib.hid (HC.out.keep B3.out)
        have HBT : Hid (∀ wz, Below W.heap.size W wz → Calls Tryd.prog 11 #[.pointer (some ⟨B, 0, none⟩), .int .i64 s, .int .i64 1048576] wz fun e w' => e = .returned (.int .i64 (btw sh cl s 1048576)) ∧ Below W.heap.size W w') := fun wz hz =>
          (Between_any _ sh cl s 1048576 wz (HC3.out.keep hz) HG.out).mono fun e w' ⟨g1, g2⟩ => ⟨g1, ext_trans hz g2⟩
        generalize btw sh cl s 1048576 = r at HBT hr
        clear HT
        go_wp2_with fail
        go_region_held3 (fun w' => w'.cell? ⟨w.heap.size, 0, none⟩ = some (.pointer (some ⟨B, 0, none⟩)) ∧ w'.cell? ⟨w.heap.size + 1, 0, none⟩ = some (.int .i64 s) ∧ w'.cell? ⟨w.heap.size + 1 + 1, 0, none⟩ = some (.int .i64 h))
          (first | exact ⟨k1, k2, k3⟩ | exact ⟨cell_keep hbz k1, cell_keep hbz k2, cell_keep hbz k3⟩)
          (first | (go_at_call 11; refine (HBT.out _ (by first | exact Below.refl _ _ | exact below_drewN' (Below.refl _ _) _)).mono ?_; rintro e wz ⟨rfl, hbz⟩))
        all_goals (go_wp2_with fail)
        have HBZ := Lib.hid hbz
        have HCZ := Lib.hid (HC3.out.keep hbz)
        have m1 := cell_keep hbz k1
        have m2 := cell_keep hbz k2
        have m3 := cell_keep hbz k3
        clear hbz k1 k2 k3
        obtain ⟨x, hx⟩ : ∃ x : Int, 1048576 - (s : Int) = x := ⟨_, rfl⟩
        have hx2 : ((1048576 - s : Nat) : Int) = x := by omega
        have e1 : IntKind.i64.wrap (1048576 - (s : Int)) = x := by rw [hx]; exact IntWalk.i64_in _ (by omega)
        have HSE : Hid (∀ wq, Below wz.heap.size wz wq → Calls Tryd.prog 23 #[.int .i64 x, .func (.func 24) #[] #[.pointer (some ⟨w.heap.size, 0, none⟩), .pointer (some ⟨w.heap.size + 1, 0, none⟩), .pointer (some ⟨w.heap.size + 1 + 1, 0, none⟩)]] wq
            fun e w' => ∃ i : Nat, e = .returned (.int .i64 (i : Nat)) ∧ IntKind.i64.wrap ((s : Int) + i) = u ∧ Below wz.heap.size wz w') := fun wq hq => by
          rw [← hx2]
          refine (Search_any 24 _ (1048576 - s) (enough sh cl s h) wq enter_Add1 (by omega) (fun i W hi hW => ?_) (mono_enough (by omega))).mono fun e w' ⟨i, g1, g2, g3⟩ => ⟨i, g1, ?_, ext_trans hq g3⟩
          · have hqW := ext_trans hq hW
            exact Add1_any _ sh cl s i h _ _ _ W (HCZ.out.keep hqW) HG.out hs (by omega) (cell_keep hqW m1) (cell_keep hqW m2) (cell_keep hqW m3)
          · have := least_add hs g2 HA.out
            have := g2.1
            rw [IntWalk.i64_in _ (by omega)]; omega
        clear hx hx2 hs hr
        go_region_held3 (fun w' => w'.cell? ⟨w.heap.size, 0, none⟩ = some (.pointer (some ⟨B, 0, none⟩)) ∧ w'.cell? ⟨w.heap.size + 1, 0, none⟩ = some (.int .i64 s) ∧ w'.cell? ⟨w.heap.size + 1 + 1, 0, none⟩ = some (.int .i64 h))
          (first | exact ⟨m1, m2, m3⟩ | exact ⟨cell_keep hbq m1, cell_keep hbq m2, cell_keep hbq m3⟩)
          (first | (go_at_call 23; refine (HSE.out _ (by first | exact Below.refl _ _ | exact below_drewN' (Below.refl _ _) _)).mono ?_; rintro e wq ⟨i, rfl, e2, hbq⟩))
        all_goals (go_wp2_with fail)
        all_goals
          go_ret2
          exact ⟨rfl, B3.out.trans ((ext_trans HBZ.out hbq).mono B3.out.size)⟩
end Go.Proofs.YtbjnpiaooehmjaaDoor
