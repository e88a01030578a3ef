/- Contract: the merge of two sorted runs of trips of package slices, in place. -/
import Derived.Test.YtpbmmdoodmbneaaGreatDoorTsA
namespace Go.Proofs.YtpbmmdoodmbneaaGreatDoor
open Go.RowKit

theorem FnCmpY.later {T : Int → Trp} {fv : Value} {w w1 : World} {g : Nat} {D : Int → Prop} {c : Int → Int → Int} (h : FnCmpY T fv w g D c) (hg : w.grownBy w1 (some g)) : FnCmpY T fv w1 g D c := by
  obtain ⟨F, caps, rfl, h1, h2⟩ := h
  exact ⟨F, caps, rfl, h1, fun x y w' hx hy hw => h2 x y w' hx hy (grownBy_trans hg hw)⟩

/-- it leaves a merge of xs -/
def PostMY (T : Int → Trp) (w : World) (B g n cap : Nat) (lt : Int → Int → Bool) (xs : List Int) (a b : Nat) (e : Ending) (w' : World) : Prop :=
  e = .returned (.tuple #[]) ∧ w.grownBy w' (some g) ∧ ∃ ys, OwnY T w' B (.slice (some ⟨g, 0, none⟩) n cap) ys ∧ Merged lt xs ys a b

set_option maxRecDepth 100000 in
set_option maxHeartbeats 2000000 in
theorem symY_one (T : Int → Trp) (fv : Value) (D : Int → Prop) (c : Int → Int → Int) (w : World) (B g n cap : Nat) (xs : List Int) (a mm b : Nat) (hmm : mm = a + 1) (ho : OwnY T w B (.slice (some ⟨g, 0, none⟩) n cap) xs)
    (hf : FnCmpY T fv w g D c) (hO : SWO D (ltOf c)) (hD : ∀ x ∈ xs, D x) (h2 : a + 1 < b) (h3 : b ≤ xs.length) (hl : xs.length ≤ 100000) (s2 : SortedOn (ltOf c) xs (a + 1) b) :
    Calls Tryz.prog 67 #[.slice (some ⟨g, 0, none⟩) n cap, .int .i64 a, .int .i64 mm, .int .i64 b, fv] w (PostMY T w B g n cap (ltOf c) xs a b) := by
  have mxd : Tryz.prog.follows .mixedOrders = true := mixed
  obtain ⟨F, caps, rfl, hcf, hf⟩ := hf
  obtain ⟨rfl, hcap⟩ := ho.form_n
  have HF := Lib.hid hf; clear hf
  have HO := Lib.hid ho; clear ho
  have HOO := Lib.hid hO; clear hO
  have HD : Hid (∀ k, k < xs.length → D (gi xs k)) := fun k hk => hD _ (gi_mem hk)
  clear hD
  have HS2 := Lib.hid s2; clear s2
  have hb1 : ((mm : Int) - (a : Int) == 1) = true := by rw [beq_iff_eq]; omega
  have hmb : mm ≤ xs.length := by omega
  have hma : a < mm := by omega
  have HMM := Lib.hid hmm
  clear hmm
  go_enter Tryz.func67, Tryz.ntmps67
  go_wp2_with fail
  go_loopw [10, 11] (fun i j wr => ∃ p q : Nat, a + 1 ≤ p ∧ p ≤ q ∧ q ≤ b ∧ i = .int .i64 p ∧ j = .int .i64 q ∧ Hid (GR w wr) ∧ Hid (∀ h, a + 1 ≤ h → h < p → ltOf c (gi xs h) (gi xs a) = true) ∧ Hid (∀ h, q ≤ h → h < b → ltOf c (gi xs h) (gi xs a) = false)) (fun i j _ => (intOf j).toNat - (intOf i).toNat)
  case atStart => exact ⟨a + 1, b, Nat.le_refl _, by omega, Nat.le_refl _, by rw [HMM.out], rfl, GR.refl _, fun h h1 h2 => by omega, fun h h1 h2 => by omega⟩
  case round =>
    obtain ⟨p, q, hp, hpq, hq, rfl, rfl, hw, hd, hu⟩ := hrel
    by_cases hlt : p < q
    · obtain ⟨h, hh, hh1, hh2⟩ : ∃ h : Nat, ((p : Int) + q) / 2 = (h : Int) ∧ p ≤ h ∧ h < q := ⟨(p + q) / 2, by omega, by omega, by omega⟩
      have HH := Lib.hid hh
      clear hh
      have hhx : h < xs.length := by omega
      obtain ⟨a0, a1, a2, a3⟩ := ((HO.out.gr hw.out).cellg hhx).xg
      obtain ⟨b0, b1, b2, b3⟩ := ((HO.out.gr hw.out).cellg (show a < xs.length by omega)).xg
      have i1 : (h : Int) < xs.length := by omega
      have i2 : (h : Int) < cap := by omega
      have i3 : (a : Int) < xs.length := by omega
      have i4 : (a : Int) < cap := by omega
      have HCC : Hid (∀ w', w.grownBy w' (some g) → Calls Tryz.prog F (#[.agg #[.string (bs (T (gi xs h)).item), .string (bs (T (gi xs h)).truck), .int .i64 (T (gi xs h)).start, .int .i64 (T (gi xs h)).fin], .agg #[.string (bs (T (gi xs a)).item), .string (bs (T (gi xs a)).truck), .int .i64 (T (gi xs a)).start, .int .i64 (T (gi xs a)).fin]] ++ caps) w' fun e w'' => e = .returned (.int .i64 (c (gi xs h) (gi xs a))) ∧ GR w' w'') := fun w' hg => HF.out (gi xs h) (gi xs a) w' (HD.out h hhx) (HD.out a (by omega)) hg
      cases hl2 : ltOf c (gi xs h) (gi xs a)
      · have hcb : decide (c (gi xs h) (gi xs a) < 0) = false := hl2
        have HU : Hid (∀ h', h ≤ h' → h' < b → ltOf c (gi xs h') (gi xs a) = false) := fun h' h1 h4 => s1_up HOO.out HD.out h3 (by omega) HS2.out (by omega) h1 h4 hl2
        clear hl2
        go_wp2_with fail
        rw [HH.out]
        go_quiet_grown (exact Calls.grown_of (HCC.out _ (grownBy_gr (World.grownBy.refl _ _) (hw.out.trans (gr_of _ _ _)))))
        go_wp2_with fail
        go_roundw
        case rel => exact ⟨p, h, hp, by omega, by omega, rfl, rfl, hw.out.trans (gr_of _ _ _), hd, HU⟩
        case measure => simp [intOf]; omega
      · have hcb : decide (c (gi xs h) (gi xs a) < 0) = true := hl2
        have HU : Hid (∀ h', a + 1 ≤ h' → h' < h + 1 → ltOf c (gi xs h') (gi xs a) = true) := fun h' h1 h4 => s1_down HOO.out HD.out h3 (by omega) HS2.out h1 (by omega) (by omega) hl2
        clear hl2
        go_wp2_with fail
        rw [HH.out]
        go_quiet_grown (exact Calls.grown_of (HCC.out _ (grownBy_gr (World.grownBy.refl _ _) (hw.out.trans (gr_of _ _ _)))))
        go_wp2_with fail
        go_roundw
        case rel => exact ⟨h + 1, q, by omega, by omega, hq, by go_num, rfl, hw.out.trans (gr_of _ _ _), HU, hu⟩
        case measure => simp [intOf]; omega
    · have HM := Lib.hid (one_left HOO.out HD.out h3 HS2.out hp (by omega) hd.out (fun h h1 h4 => hu.out h (by omega) h4))
      clear hd hu
      go_wp2_with fail
      go_loopw [13] (fun k wr => ∃ r : Nat, a ≤ r ∧ r + 1 ≤ p ∧ k = .int .i64 r ∧ Hid (w.grownBy wr (some g)) ∧ Hid (OwnY T wr B (.slice (some ⟨g, 0, none⟩) xs.length cap) (rot xs a (a + 1) (r + 1)))) (fun k _ => p - (intOf k).toNat)
      case atStart => exact ⟨a, Nat.le_refl _, by omega, rfl, grownBy_gr (World.grownBy.refl _ _) hw.out, by rw [rot_nil_right (by omega) (by omega)]; exact HO.out.gr hw.out⟩
      case round =>
        obtain ⟨r, hr1, hr2, rfl, hg, hw⟩ := hrel
        by_cases hlt2 : r + 1 < p
        · have b1 : decide ((r : Int) < (p : Int) - 1) = true := by rw [decide_eq_true_eq]; omega
          have hz := Lib.hid (rot_length xs a (a + 1) (r + 1))
          obtain ⟨x0, x1, x2, x3⟩ := hw.out.cellg (k := r) (by rw [hz.out]; omega)
          obtain ⟨y0, y1, y2, y3⟩ := hw.out.cellg (k := r + 1) (by rw [hz.out]; omega)
          have fz := hw.out.fzg
          have HZ1 : Hid (r < (rot xs a (a + 1) (r + 1)).length) := by show _ < _; rw [hz.out]; omega
          have HZ2 : Hid (r + 1 < (rot xs a (a + 1) (r + 1)).length) := by show _ < _; rw [hz.out]; omega
          have HS := Lib.hid (rot_up (xs := xs) (a := a) (k := r) hr1 (by omega))
          have i1 : (r : Int) < xs.length := by omega
          have i2 : (r : Int) + 1 < xs.length := by omega
          have i3 : (r : Int) < cap := by omega
          have i4 : (r : Int) + 1 < cap := by omega
          have e1 : IntKind.i64.wrap ((r : Int) + 1) = (r : Int) + 1 := IntWalk.i64_in _ (by omega)
          have e3 : ((r : Int) + 1).toNat = r + 1 := by omega
          have n1 : (0 : Int) ≤ (r : Int) + 1 := by omega
          have n2 : (0 : Int) ≤ (r : Int) := by omega
          go_wp2_with fail
          go_region
          go_wp2_with fail
          go_roundw
          case rel =>
            refine ⟨r + 1, by omega, by omega, by go_num, grownBy_trans hg.out (grownBy_drew (grownBy_trans (setY_grown _ _ _ _) (setY_grown _ _ _ _))), ?_⟩
            rw [← HS.out]
            exact ((hw.out.setg r HZ1.out _).setg (r + 1) (by rw [List.length_set]; exact HZ2.out) _).drew
          case measure => simp [intOf]; omega
        · have b1 : decide ((r : Int) < (p : Int) - 1) = false := by rw [decide_eq_false_iff_not]; omega
          obtain rfl : p = r + 1 := by omega
          go_wp2_with fail
          refine bodyPost_end (results_none Tryz.results67 _ _ _) rfl ?_
          exact ⟨rfl, hg.out, _, hw.out, HM.out⟩

set_option maxRecDepth 100000 in
set_option maxHeartbeats 2000000 in
theorem symY_two (T : Int → Trp) (fv : Value) (D : Int → Prop) (c : Int → Int → Int) (w : World) (B g n cap : Nat) (xs : List Int) (a m bb : Nat) (hbb : bb = m + 1) (ho : OwnY T w B (.slice (some ⟨g, 0, none⟩) n cap) xs)
    (hf : FnCmpY T fv w g D c) (hO : SWO D (ltOf c)) (hD : ∀ x ∈ xs, D x) (h2 : a + 1 < m) (h3 : m + 1 ≤ xs.length) (hl : xs.length ≤ 100000) (s1 : SortedOn (ltOf c) xs a m) :
    Calls Tryz.prog 67 #[.slice (some ⟨g, 0, none⟩) n cap, .int .i64 a, .int .i64 m, .int .i64 bb, fv] w (PostMY T w B g n cap (ltOf c) xs a (m + 1)) := by
  have mxd : Tryz.prog.follows .mixedOrders = true := mixed
  obtain ⟨F, caps, rfl, hcf, hf⟩ := hf
  obtain ⟨rfl, hcap⟩ := ho.form_n
  have HF := Lib.hid hf; clear hf
  have HO := Lib.hid ho; clear ho
  have HOO := Lib.hid hO; clear hO
  have HD : Hid (∀ k, k < xs.length → D (gi xs k)) := fun k hk => hD _ (gi_mem hk)
  clear hD
  have HS1 := Lib.hid s1; clear s1
  have hb0 : ((m : Int) - (a : Int) == 1) = false := by rw [beq_eq_false_iff_ne]; omega
  have hb1 : ((bb : Int) - (m : Int) == 1) = true := by rw [beq_iff_eq]; omega
  have hbm : bb ≤ xs.length := by omega
  have hmb : m < bb := by omega
  have HBB := Lib.hid hbb
  clear hbb
  go_enter Tryz.func67, Tryz.ntmps67
  go_wp2_with fail
  go_loopw [14, 15] (fun i j wr => ∃ p q : Nat, a ≤ p ∧ p ≤ q ∧ q ≤ m ∧ i = .int .i64 p ∧ j = .int .i64 q ∧ Hid (GR w wr) ∧ Hid (∀ h, a ≤ h → h < p → ltOf c (gi xs m) (gi xs h) = false) ∧ Hid (∀ h, q ≤ h → h < m → ltOf c (gi xs m) (gi xs h) = true)) (fun i j _ => (intOf j).toNat - (intOf i).toNat)
  case atStart => exact ⟨a, m, Nat.le_refl _, by omega, Nat.le_refl _, rfl, rfl, GR.refl _, fun h h1 h2 => by omega, fun h h1 h2 => by omega⟩
  case round =>
    obtain ⟨p, q, hp, hpq, hq, rfl, rfl, hw, hd, hu⟩ := hrel
    by_cases hlt : p < q
    · obtain ⟨h, hh, hh1, hh2⟩ : ∃ h : Nat, ((p : Int) + q) / 2 = (h : Int) ∧ p ≤ h ∧ h < q := ⟨(p + q) / 2, by omega, by omega, by omega⟩
      have HH := Lib.hid hh
      clear hh
      have hhx : h < xs.length := by omega
      obtain ⟨a0, a1, a2, a3⟩ := ((HO.out.gr hw.out).cellg hhx).xg
      obtain ⟨b0, b1, b2, b3⟩ := ((HO.out.gr hw.out).cellg (show m < xs.length by omega)).xg
      have i1 : (h : Int) < xs.length := by omega
      have i2 : (h : Int) < cap := by omega
      have i3 : (m : Int) < xs.length := by omega
      have i4 : (m : Int) < cap := by omega
      have HCC : Hid (∀ w', w.grownBy w' (some g) → Calls Tryz.prog F (#[.agg #[.string (bs (T (gi xs m)).item), .string (bs (T (gi xs m)).truck), .int .i64 (T (gi xs m)).start, .int .i64 (T (gi xs m)).fin], .agg #[.string (bs (T (gi xs h)).item), .string (bs (T (gi xs h)).truck), .int .i64 (T (gi xs h)).start, .int .i64 (T (gi xs h)).fin]] ++ caps) w' fun e w'' => e = .returned (.int .i64 (c (gi xs m) (gi xs h))) ∧ GR w' w'') := fun w' hg => HF.out (gi xs m) (gi xs h) w' (HD.out m (by omega)) (HD.out h hhx) hg
      cases hl2 : ltOf c (gi xs m) (gi xs h)
      · have hcb : decide (c (gi xs m) (gi xs h) < 0) = false := hl2
        have HU : Hid (∀ h', a ≤ h' → h' < h + 1 → ltOf c (gi xs m) (gi xs h') = false) := fun h' h1 h4 => s2_down HOO.out HD.out (by omega) HS1.out h1 (by omega) (by omega) hl2
        clear hl2
        go_wp2_with fail
        rw [HH.out]
        go_quiet_grown (exact Calls.grown_of (HCC.out _ (grownBy_gr (World.grownBy.refl _ _) (hw.out.trans (gr_of _ _ _)))))
        go_wp2_with fail
        go_roundw
        case rel => exact ⟨h + 1, q, by omega, by omega, hq, by go_num, rfl, hw.out.trans (gr_of _ _ _), HU, hu⟩
        case measure => simp [intOf]; omega
      · have hcb : decide (c (gi xs m) (gi xs h) < 0) = true := hl2
        have HU : Hid (∀ h', h ≤ h' → h' < m → ltOf c (gi xs m) (gi xs h') = true) := fun h' h1 h4 => s2_up HOO.out HD.out (by omega) HS1.out (by omega) h1 h4 hl2
        clear hl2
        go_wp2_with fail
        rw [HH.out]
        go_quiet_grown (exact Calls.grown_of (HCC.out _ (grownBy_gr (World.grownBy.refl _ _) (hw.out.trans (gr_of _ _ _)))))
        go_wp2_with fail
        go_roundw
        case rel => exact ⟨p, h, hp, by omega, by omega, rfl, rfl, hw.out.trans (gr_of _ _ _), hd, HU⟩
        case measure => simp [intOf]; omega
    · have HM := Lib.hid (one_right HOO.out HD.out h3 HS1.out hp (by omega) hd.out (fun h h1 h4 => hu.out h (by omega) h4))
      clear hd hu
      go_wp2_with fail
      go_loopw [17] (fun k wr => ∃ r : Nat, p ≤ r ∧ r ≤ m ∧ k = .int .i64 r ∧ Hid (w.grownBy wr (some g)) ∧ Hid (OwnY T wr B (.slice (some ⟨g, 0, none⟩) xs.length cap) (rot xs r m (m + 1)))) (fun k _ => (intOf k).toNat)
      case atStart => exact ⟨m, by omega, Nat.le_refl _, rfl, grownBy_gr (World.grownBy.refl _ _) hw.out, by rw [rot_nil_left (by omega) (by omega)]; exact HO.out.gr hw.out⟩
      case round =>
        obtain ⟨r, hr1, hr2, rfl, hg, hw⟩ := hrel
        by_cases hlt2 : p < r
        · obtain ⟨r, rfl⟩ : ∃ k, r = k + 1 := ⟨r - 1, by omega⟩
          have b1 : decide ((p : Int) < ((r + 1 : Nat) : Int)) = true := by rw [decide_eq_true_eq]; omega
          have hz := Lib.hid (rot_length xs (r + 1) m (m + 1))
          obtain ⟨x0, x1, x2, x3⟩ := hw.out.cellg (k := r) (by rw [hz.out]; omega)
          obtain ⟨y0, y1, y2, y3⟩ := hw.out.cellg (k := r + 1) (by rw [hz.out]; omega)
          have fz := hw.out.fzg
          have HZ1 : Hid (r < (rot xs (r + 1) m (m + 1)).length) := by show _ < _; rw [hz.out]; omega
          have HZ2 : Hid (r + 1 < (rot xs (r + 1) m (m + 1)).length) := by show _ < _; rw [hz.out]; omega
          have HS := Lib.hid (rot_down (xs := xs) (m := m) (k := r) (by omega) (by omega))
          have i1 : (r : Int) < xs.length := by omega
          have i2 : (r : Int) + 1 < xs.length := by omega
          have i3 : (r : Int) < cap := by omega
          have i4 : (r : Int) + 1 < cap := by omega
          have e2 : IntKind.i64.wrap ((r : Int) + 1 - 1) = (r : Int) := by rw [IntWalk.i64_in _ (by omega)]; omega
          have e3 : ((r : Int) + 1).toNat = r + 1 := by omega
          have n1 : (0 : Int) ≤ (r : Int) + 1 := by omega
          have n2 : (0 : Int) ≤ (r : Int) := by omega
          go_wp2_with fail
          go_region
          go_wp2_with fail
          go_roundw
          case rel =>
            refine ⟨r, by omega, by omega, by go_num, grownBy_trans hg.out (grownBy_drew (grownBy_trans (setY_grown _ _ _ _) (setY_grown _ _ _ _))), ?_⟩
            rw [← HS.out]
            exact ((hw.out.setg (r + 1) HZ2.out _).setg r (by rw [List.length_set]; exact HZ1.out) _).drew
          case measure => simp [intOf]
        · have b1 : decide ((p : Int) < (r : Int)) = false := by rw [decide_eq_false_iff_not]; omega
          obtain rfl : p = r := by omega
          go_wp2_with fail
          refine bodyPost_end (results_none Tryz.results67 _ _ _) rfl ?_
          exact ⟨rfl, hg.out, _, hw.out, HM.out⟩
end Go.Proofs.YtpbmmdoodmbneaaGreatDoor
