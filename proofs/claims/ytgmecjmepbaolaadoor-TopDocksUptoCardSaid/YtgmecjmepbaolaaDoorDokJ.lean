/- Contracts: stay, Check of bay's reference. -/
import Derived.Test.YtgmecjmepbaolaaDoorDokI
set_option linter.unusedSimpArgs false
set_option linter.unusedVariables false
namespace Go.Proofs.YtgmecjmepbaolaaDoor
open Go.RowKit

theorem dAt_range {w : World} {b off : Nat} {x : DBay} (h : DAt w b off x) : w.rangeAt b off (dyCells x) := fun j v hv => by
  match j with
  | 0 => cases hv; exact h.c0
  | 1 => cases hv; exact h.c1
  | 2 => cases hv; exact h.c2
  | j + 3 => cases hv
theorem yAt_range {w : World} {b off : Nat} {x : Ber} (h : YAt w b off x) : w.rangeAt b off (beCells x) := fun j v hv => by
  match j with
  | 0 => cases hv; exact h.c0
  | 1 => cases hv; exact h.c1
  | 2 => cases hv; exact h.c2
  | 3 => cases hv; exact h.c3
  | 4 => cases hv; exact h.c4
  | 5 => cases hv; exact h.c5
  | 6 => cases hv; exact h.c6
  | 7 => cases hv; exact h.c7
  | j + 8 => cases hv
theorem bAt_range {w : World} {b off : Nat} {x : Ber} (h : BAt w b off x) : w.rangeAt b off (beCells x) := fun j v hv => by
  match j with
  | 0 => cases hv; exact h.c0
  | 1 => cases hv; exact h.c1
  | 2 => cases hv; exact h.c2
  | 3 => cases hv; exact h.c3
  | 4 => cases hv; exact h.c4
  | 5 => cases hv; exact h.c5
  | 6 => cases hv; exact h.c6
  | 7 => cases hv; exact h.c7
  | j + 8 => cases hv
set_option maxRecDepth 100000 in
set_option maxHeartbeats 1000000 in
theorem rstay_any (bv lv : Value) (bays : List DBay) (l : List Ber) (x : Ber) (w : World) (hb : SD w bv bays) (hl : SY w lv l) (hx : x.hull.length ≤ 1100000) (hd : ∀ d ∈ bays, sideD d) (hs : ∀ y ∈ l, SmB y) :
    Calls Tryd.prog 31 #[bv, lv, syV x] w (Ret w (.int .i64 (stayE bays l x))) := by
  have HB := Lib.hid hb; have HL := Lib.hid hl; have HX := Lib.hid hx; have HD := Lib.hid hd; have HS := Lib.hid hs
  obtain ⟨ba, bc, rfl, b1, b2, b3⟩ := hb
  obtain ⟨la, lc, rfl, l1, l2, l3⟩ := hl
  have H3 := Lib.hid b3; have L3 := Lib.hid l3
  clear hx hd hs b3 l3
  unfold maxLen at b2 l2
  obtain ⟨W0, hW0⟩ : ∃ W0, W0 = w.alloc (.cells (syCs x) 40) := ⟨_, rfl⟩
  have HO0 : Hid (ObjAt W0 w.heap.size (syCs x) 40) := by rw [hW0]; exact ObjAt.new _ _ _
  have HB0 : Hid (Below w.heap.size w W0) := by rw [hW0]; exact (Below.refl _ _).alloc (Nat.le_refl _) _
  have HW : Hid (w.alloc (.cells #[.string (bs x.hull), .string (bs x.dock), .int .i64 x.x, .int .i64 x.y, .int .i64 x.len, .int .i64 x.wid, .int .i64 x.a, .int .i64 x.b] 40) = W0) := by rw [hW0]; rfl
  clear hW0
  unfold syV
  go_enter Tryd.func31, Tryd.ntmps31
  go_wp2_with fail
  rw [HW.out]
  refine (rIsId_any _ _ (by rw [bs_size]; exact HX.out)).mono ?_
  rintro e w3 ⟨rfl, h3⟩
  rw [bs_list]
  have HO3 := Lib.hid (HO0.out.keep h3)
  have HB3 := Lib.hid (ext_trans HB0.out h3)
  clear h3
  have p1 := (syC HO3.out).c1
  cases hid : idB x.hull
  · have HV : Hid (stayE bays l x = 6) := by show _ = _; unfold stayE; rw [if_pos hid]
    clear hid
    go_wp2_with fail
    go_ret
    exact ⟨ret_int HV.out.symm, HB3.out⟩
  have HID := Lib.hid hid; clear hid
  go_wp2_with fail
  clear p1
  refine (rfind_any _ bays x.dock _ (HB.out.keep HB3.out)).mono ?_
  rintro e w4 ⟨rfl, h4⟩
  have HO4 := Lib.hid (HO3.out.keep h4)
  have HB4 := Lib.hid (ext_trans HB3.out h4)
  clear h4
  rcases findG_findD bays x.dock with ⟨hg, hd⟩ | ⟨k0, hg, hk0, hd⟩
  · have HV : Hid (stayE bays l x = 8) := by
      show _ = _; unfold stayE; rw [if_neg (by rw [HID.out]; decide), hd]
    clear hd
    generalize findG (fun b => b.name == x.dock) bays = z at *
    go_wp2_with fail
    go_ret
    exact ⟨ret_int HV.out.symm, HB4.out⟩
  have HF := Lib.hid hd; clear hd
  rw [hg]
  clear hg
  obtain ⟨bb, boff, rfl, hbc⟩ := H3.out k0 hk0
  have HBC := Lib.hid (hbc.keep HB4.out); clear hbc
  have HSD := Lib.hid (HD.out _ (findD_mem HF.out))
  go_upto_region 6 with fail
  refine wp_region_et dkT dkT_ok [berO w.heap.size 0 x] (fun w' => w' = w4) [(5, 0)] [(21, .ret (.bool (sideB x.len))), (26, .ret (.bool (sideB x.wid)))] [(49, .bool (!rangeB x))] (by kernel_rfl) rfl (obs1 fun w' hw' => by subst hw'; exact range_new HO4.out) ⟨rfl, trivial⟩ ?_
  conv => whnf
  refine And.intro (under_of fun w' hw' => by subst hw'; exact in41_any _ _ _ _) ?_
  conv => whnf
  refine And.intro (under_of fun w' hw' => by subst hw'; exact in41_any _ _ _ _) ?_
  conv => whnf
  intro f
  conv => whnf
  refine And.intro (congrArg Value.bool (range_not x)) ?_
  conv => whnf
  intro w' hw'
  subst hw'
  cases hrg : rangeB x
  · have HV : Hid (stayE bays l x = 9) := by
      show _ = _; unfold stayE; rw [if_neg (by rw [HID.out]; decide), HF.out]; dsimp only; rw [if_pos hrg]
    clear hrg
    go_wp2_with fail
    go_ret
    exact ⟨ret_int HV.out.symm, HB4.out⟩
  have HRG := Lib.hid hrg; clear hrg
  go_upto_region 8 with fail
  have hr := rangeB_iff.1 HRG.out
  have hd1 := sideB_iff.1 HSD.out.1; have hd2 := sideB_iff.1 HSD.out.2
  refine wp_region_ev dkT dkT_ok [berO w.heap.size 0 x, bayO bb (boff + k0 * 3) (byi bays k0)] (Below w'.heap.size w') [(5, 0)] [(55, .ix k0 1), (61, .ret (.bool (decide (0 ≤ x.x) && decide (x.x ≤ (byi bays k0).len - x.len)))), (69, .ix k0 1), (75, .ret (.bool (decide (0 ≤ x.y) && decide (x.y ≤ (byi bays k0).wid - x.wid))))] [(77, .bool (!fitB (byi bays k0) x))] (by kernel_rfl) mixed (by kernel_rfl) ((Below.refl _ _).drew) (obs2 (fun v hv => rangeKeep (range_new HO4.out) hv) (fun v hv => rangeKeep (dAt_range HBC.out) hv)) ⟨rfl, trivial⟩ ?_
  conv => whnf
  refine And.intro (under_of ⟨rfl, hk0, rfl, rfl⟩) ?_
  conv => whnf
  refine And.intro (under_of (by omega)) ?_
  conv => whnf
  refine And.intro (under_of fun v hv => (in41_any _ _ _ _).mono fun e v' he => ⟨he.1, by rw [he.2]; exact hv⟩) ?_
  conv => whnf
  refine And.intro (under_of ⟨rfl, hk0, rfl, rfl⟩) ?_
  conv => whnf
  refine And.intro (under_of (by omega)) ?_
  conv => whnf
  refine And.intro (under_of fun v hv => (in41_any _ _ _ _).mono fun e v' he => ⟨he.1, by rw [he.2]; exact hv⟩) ?_
  clear hr hd1 hd2
  conv => whnf
  intro f'
  conv => whnf
  refine And.intro ?_ ?_
  · refine congrArg Value.bool ?_
    unfold fitB
    cases decide (0 ≤ x.x) <;> cases decide (0 ≤ x.y) <;> cases decide (x.x ≤ (byi bays k0).len - x.len) <;> cases decide (x.y ≤ (byi bays k0).wid - x.wid) <;> rfl
  conv => whnf
  intro w5 h5
  have HO5 := Lib.hid (HO4.out.keep h5)
  have HB5 := Lib.hid (ext_trans HB4.out h5)
  clear h5
  cases hft : fitB (byi bays k0) x
  · have HV : Hid (stayE bays l x = 18) := by
      show _ = _; unfold stayE; rw [if_neg (by rw [HID.out]; decide), HF.out]; dsimp only; rw [if_neg (by rw [HRG.out]; decide), if_pos hft]
    clear hft
    go_wp2_with fail
    go_ret
    exact ⟨ret_int HV.out.symm, HB5.out⟩
  have HFT := Lib.hid hft; clear hft
  have HV : Hid (stayE bays l x = if l.any (overB x) then 19 else 0) := by
    show _ = _; unfold stayE; rw [if_neg (by rw [HID.out]; decide), HF.out]; dsimp only; rw [if_neg (by rw [HRG.out]; decide), if_neg (by rw [HFT.out]; decide)]
  go_wp2_with fail
  go_loopw [8] (fun i wr => ∃ k : Nat, k ≤ l.length ∧ i = .int .i64 k ∧ Hid (Below w5.heap.size w5 wr) ∧ Hid (∀ j, j < k → overB x (bri l j) = false)) (fun i _ => l.length - (intOf i).toNat)
  case atStart => exact ⟨0, Nat.zero_le _, rfl, Lib.hid (Below.refl _ _), Lib.hid fun j hj => by omega⟩
  case round =>
    obtain ⟨k, hk, rfl, hbl, hf⟩ := hrel
    by_cases hlt : k < l.length
    · obtain ⟨b, off, rfl, hc⟩ := L3.out k hlt
      have HC := Lib.hid (hc.keep (ext_trans HB5.out hbl.out)); clear hc
      go_upto_region 13 with fail
      refine wp_region_ev dkT dkT_ok [berO w.heap.size 0 x, berO b (off + k * 8) (bri l k)] (Below wr.heap.size wr) [(5, 0)] [(86, .ix k 1), (89, .ret (.bool (overB (bri l k) x)))] [(89, .bool (overB (bri l k) x))] (by kernel_rfl) mixed (by kernel_rfl) ((Below.refl _ _).drew) (obs2 (fun v hv => rangeKeep (range_new (HO5.out.keep hbl.out)) hv) (fun v hv => rangeKeep (yAt_range HC.out) hv)) ⟨rfl, trivial⟩ ?_
      conv => whnf
      refine And.intro (under_of ⟨rfl, hlt, rfl, rfl⟩) ?_
      conv => whnf
      refine And.intro (Nat.le_refl 8) ?_
      conv => whnf
      refine And.intro (Nat.le_refl 8) ?_
      conv => whnf
      refine And.intro (under_of fun v hv => (Overlap_any (bri l k) x v (HS.out _ (bri_mem hlt)) (smB_of HSD.out HRG.out HFT.out)).mono fun e v' he => ⟨he.1, ext_trans hv he.2⟩) ?_
      conv => whnf
      intro f1
      conv => whnf
      refine And.intro rfl ?_
      conv => whnf
      intro w6 h6
      have HB6 := Lib.hid (ext_trans hbl.out h6)
      clear h6
      obtain ⟨ov, hov⟩ : ∃ ov, overB (bri l k) x = ov := ⟨_, rfl⟩
      have HOV : Hid (overB x (bri l k) = ov) := by show _ = _; rw [overB_symm]; exact hov
      rw [hov]
      clear hov
      cases ov
      · have HJ := Lib.hid (upto (q := fun j => overB x (bri l j) = false) hf.out HOV.out)
        go_wp2_with fail
        go_roundw
        case rel => exact ⟨k + 1, by omega, by go_num, HB6, HJ⟩
        case measure => simp [intOf]; omega
      · have HA : Hid (l.any (overB x) = true) := by show _ = _; rw [List.any_eq_true]; exact ⟨_, bri_mem hlt, HOV.out⟩
        go_wp2_with fail
        go_ret
        exact ⟨ret_int (by rw [HV.out, HA.out]; rfl), ext_trans HB5.out HB6.out⟩
    · obtain rfl : k = l.length := by omega
      have HA : Hid (l.any (overB x) = false) := by
        show _ = _; rw [List.any_eq_false]; intro y hy
        obtain ⟨j, hj, rfl⟩ := mem_bri hy
        rw [hf.out j hj]; decide
      go_wp2_with fail
      go_ret
      exact ⟨ret_int (by rw [HV.out, HA.out]; rfl), ext_trans HB5.out hbl.out⟩
end Go.Proofs.YtgmecjmepbaolaaDoor
