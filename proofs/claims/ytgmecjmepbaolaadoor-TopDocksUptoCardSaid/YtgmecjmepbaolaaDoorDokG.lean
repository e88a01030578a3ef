/- Contracts: stay of bay. -/
import Derived.Test.YtgmecjmepbaolaaDoorDokC
import Derived.Test.YtgmecjmepbaolaaDoorDokE
import Derived.Test.YtgmecjmepbaolaaDoorIdG
import Derived.Deep.WholeRow
set_option linter.unusedSimpArgs false
set_option linter.unusedVariables false
namespace Go.Proofs.YtgmecjmepbaolaaDoor
open Go.RowKit

structure SyC (w : World) (b : Nat) (x : Ber) : Prop where
  c0 : w.cell? ⟨b, 0, none⟩ = some (.string (bs x.hull))
  c1 : w.cell? ⟨b, 1, none⟩ = some (.string (bs x.dock))
  c2 : w.cell? ⟨b, 2, none⟩ = some (.int .i64 x.x)
  c3 : w.cell? ⟨b, 3, none⟩ = some (.int .i64 x.y)
  c4 : w.cell? ⟨b, 4, none⟩ = some (.int .i64 x.len)
  c5 : w.cell? ⟨b, 5, none⟩ = some (.int .i64 x.wid)
  c6 : w.cell? ⟨b, 6, none⟩ = some (.int .i64 x.a)
  c7 : w.cell? ⟨b, 7, none⟩ = some (.int .i64 x.b)
theorem syC {w : World} {b : Nat} {x : Ber} {e : TypeId} (h : ObjAt w b (syCs x) e) : SyC w b x := ⟨h.cell 0, h.cell 1, h.cell 2, h.cell 3, h.cell 4, h.cell 5, h.cell 6, h.cell 7⟩
theorem overlapC_any (x y : Ber) (b1 : Nat) (w : World) (h : ObjAt w b1 (syCs x) 40) (hx : SmB x) (hy : SmB y) :
    Calls Tryd.prog 44 #[syV y, .pointer (some ⟨b1, 0, none⟩)] w (Ret w (.bool (overB x y))) := by
  have HO := Lib.hid (fun w1 => overlap_any x y w1 hx hy)
  have hb : b1 < w.heap.size := h.lt
  obtain ⟨j0, j1, j2, j3, j4, j5, j6, j7⟩ := syC h
  clear h hx hy
  unfold syV
  go_enter Tryd.func44, Tryd.ntmps44
  go_wp2_with fail
  clear j0 j1 j2 j3 j4 j5 j6 j7
  refine (HO.out _).mono ?_
  rintro e w1 ⟨rfl, h1⟩
  have HB := Lib.hid (ext_trans ((Below.refl _ _).alloc (Nat.le_refl _) _) h1)
  clear h1
  go_wp2_with fail
  go_ret
  exact ⟨rfl, HB.out⟩
theorem enter_overlapC : ∀ args w, (callFunc 44 args).run Tryd.prog w = .ok (.enter 44 args) w := enters_of Tryd.func44 (by kernel_rfl) rfl
/-- sides of a bay -/
def sideD (d : DBay) : Prop := sideB d.len = true ∧ sideB d.wid = true
theorem findD_mem {l : List DBay} {name : List UInt8} {d : DBay} (h : findD l name = some d) : d ∈ l := List.mem_of_find?_eq_some h
theorem smB_of {d : DBay} {z : Ber} (hd : sideD d) (hr : rangeB z = true) (hf : fitB d z = true) : SmB z := by
  have h1 := sideB_iff.1 hd.1; have h2 := sideB_iff.1 hd.2; have h3 := rangeB_iff.1 hr; have h4 := fitB_iff.1 hf
  constructor <;> unfold smallB <;> omega
theorem range_not (x : Ber) : (!sideB x.len || !sideB x.wid || decide (x.a < 0) || decide (x.b ≤ x.a) || decide (1048576 < x.b)) = !rangeB x := by
  unfold rangeB
  have e1 : decide (0 ≤ x.a) = !decide (x.a < 0) := by rw [← decide_not, decide_eq_decide]; omega
  have e2 : decide (x.a < x.b) = !decide (x.b ≤ x.a) := by rw [← decide_not, decide_eq_decide]; omega
  have e3 : decide (x.b ≤ 1048576) = !decide (1048576 < x.b) := by rw [← decide_not, decide_eq_decide]; omega
  rw [e1, e2, e3]
  cases sideB x.len <;> cases sideB x.wid <;> cases decide (x.a < 0) <;> cases decide (x.b ≤ x.a) <;> cases decide (1048576 < x.b) <;> rfl
theorem fit_not (d : DBay) (x : Ber) : (decide (x.x < 0) || decide (x.y < 0) || decide (d.len - x.len < x.x) || decide (d.wid - x.wid < x.y)) = !fitB d x := by
  unfold fitB
  have e1 : decide (0 ≤ x.x) = !decide (x.x < 0) := by rw [← decide_not, decide_eq_decide]; omega
  have e2 : decide (0 ≤ x.y) = !decide (x.y < 0) := by rw [← decide_not, decide_eq_decide]; omega
  have e3 : decide (x.x ≤ d.len - x.len) = !decide (d.len - x.len < x.x) := by rw [← decide_not, decide_eq_decide]; omega
  have e4 : decide (x.y ≤ d.wid - x.wid) = !decide (d.wid - x.wid < x.y) := by rw [← decide_not, decide_eq_decide]; omega
  rw [e1, e2, e3, e4]
  cases decide (x.x < 0) <;> cases decide (x.y < 0) <;> cases decide (d.len - x.len < x.x) <;> cases decide (d.wid - x.wid < x.y) <;> rfl
set_option maxRecDepth 100000 in
set_option maxHeartbeats 1000000 in
theorem stay_any (bv lv : Value) (bays : List DBay) (l : List Ber) (x : Ber) (w : World) (hb : SD w bv bays) (hl : SY w lv l) (hm : MLen w) (hx : x.hull.length ≤ maxLen) (hd : ∀ d ∈ bays, sideD d) (hs : ∀ y ∈ l, SmB y) :
    Calls Tryd.prog 29 #[bv, lv, syV x] w (Ret w (.int .i64 (stayE bays l x))) := by
  have HB := Lib.hid hb; have HL := Lib.hid hl; have HM := Lib.hid hm; have HX := Lib.hid hx; have HD := Lib.hid hd; have HS := Lib.hid hs
  obtain ⟨ba, bn, bc, rfl⟩ : ∃ a n c, bv = .slice a n c := by obtain ⟨a, cap, rfl, _⟩ := hb; exact ⟨_, _, _, rfl⟩
  obtain ⟨la, ln, lc, rfl⟩ : ∃ a n c, lv = .slice a n c := by obtain ⟨a, cap, rfl, _⟩ := hl; exact ⟨_, _, _, rfl⟩
  clear hb hl hm hx hd hs
  have HO0 := Lib.hid (ObjAt.new w (syCs x) 40)
  unfold syV
  go_enter Tryd.func29, Tryd.ntmps29
  go_wp2_with fail
  refine (find_any _ bays x.dock _ (HB.out.keep ((Below.refl _ _).alloc (Nat.le_refl _) _))).mono ?_
  rintro e w1 ⟨rfl, h1⟩
  have HO1 := Lib.hid (HO0.out.keep h1)
  have HB1 := Lib.hid (ext_trans ((Below.refl _ _).alloc (Nat.le_refl _) _) h1)
  clear h1
  unfold fdV
  obtain ⟨d, hdd⟩ : ∃ d, (findD bays x.dock).getD default = d := ⟨_, rfl⟩
  obtain ⟨ok, hok⟩ : ∃ ok, (findD bays x.dock).isSome = ok := ⟨_, rfl⟩
  rw [hdd, hok]
  have HDD := Lib.hid hdd; have HOK := Lib.hid hok; clear hdd hok
  have HN := Lib.hid (heap_alloc_new w1 (.cells (dyA default) 53))
  obtain ⟨W2, hW2⟩ : ∃ W2, W2 = w1.alloc (.cells (dyA d) 53) := ⟨_, rfl⟩
  have HW : Hid ((w1.alloc (.cells #[.string ⟨#[]⟩, .int .i64 0, .int .i64 0] 53)).setRow w1.heap.size (dyA d) = W2) := by
    rw [hW2]; exact World.setRow_alloc_new _ _ _ _
  have HO2 : Hid (ObjAt W2 w.heap.size (syCs x) 40) := by rw [hW2]; exact HO1.out.alloc _
  have HD2 : Hid (ObjAt W2 w1.heap.size (dyA d) 53) := by rw [hW2]; exact ObjAt.new _ _ _
  have HB2 : Hid (Below w.heap.size w W2) := by rw [hW2]; exact HB1.out.alloc HB1.out.size _
  clear hW2
  have p0 := (syC HO2.out).c0
  go_wp2_with ((refine wpList_store_row (o := ⟨none, .store _ _ _, _, _, _, _⟩) rfl 53 (.tmp 7) (.tmp 14) rfl w1.heap.size (dyA d) rfl rfl 53 _ HN.out info_Bay rfl (one_bay _) ?_); (rw [HW.out]))
  clear p0
  refine (IsId_any _ _ (by rw [bs_size]; exact HX.out) (HM.out.keep HB2.out)).mono ?_
  rintro e w3 ⟨rfl, h3⟩
  rw [bs_list]
  have HO3 := Lib.hid (HO2.out.keep h3)
  have HD3 := Lib.hid (HD2.out.keep h3)
  have HB3 := Lib.hid (ext_trans HB2.out h3)
  clear h3
  cases hid : idB x.hull
  · have HV : Hid (stayE bays l x = 6) := by show _ = _; unfold stayE; rw [if_pos hid]
    clear hid
    go_wp2_with fail
    go_ret
    exact ⟨ret_int HV.out.symm, HB3.out⟩
  have HID := Lib.hid hid; clear hid
  cases ok
  · have HV : Hid (stayE bays l x = 8) := by
      show _ = _; unfold stayE; rw [if_neg (by rw [HID.out]; decide)]
      have := HOK.out
      cases hq : findD bays x.dock with
      | none => rfl
      | some d => rw [hq] at this; cases this
    go_wp2_with fail
    go_ret
    exact ⟨ret_int HV.out.symm, HB3.out⟩
  have HF : Hid (findD bays x.dock = some d) := by
    have h1 := HOK.out; have h2 := HDD.out
    cases hq : findD bays x.dock with
    | none => rw [hq] at h1; cases h1
    | some d' => rw [hq] at h2; show some d' = _; rw [← h2]; rfl
  have HSD := Lib.hid (HD.out d (findD_mem HF.out))
  go_upto_region 6 with fail
  refine wp_region_et dkT dkT_ok [berO w.heap.size 0 x] (fun w' => w' = w3) [(5, 0)] [(27, .ret (.bool (sideB x.len))), (32, .ret (.bool (sideB x.wid)))] [(24, .bool (!rangeB x))] (by kernel_rfl) rfl (obs1 fun w' hw' => by subst hw'; exact range_new HO3.out) ⟨rfl, trivial⟩ ?_
  conv => whnf
  refine And.intro (under_of fun w' hw' => by subst hw'; exact side_any _ _) ?_
  conv => whnf
  refine And.intro (under_of fun w' hw' => by subst hw'; exact side_any _ _) ?_
  conv => whnf
  intro f
  conv => whnf
  refine And.intro ?_ ?_
  · exact congrArg Value.bool (range_not x)
  conv => whnf
  intro w' hw'
  subst hw'
  cases hrg : rangeB x
  · have HV : Hid (stayE bays l x = 9) := by
      show _ = _; unfold stayE; rw [if_neg (by rw [HID.out]; decide), HF.out]; dsimp only; rw [if_pos hrg]
    clear hrg
    go_wp2_with fail
    go_ret
    exact ⟨ret_int HV.out.symm, HB3.out⟩
  have HRG := Lib.hid hrg; clear hrg
  go_upto_region 8 with fail
  have hr := rangeB_iff.1 HRG.out
  have hd1 := sideB_iff.1 HSD.out.1; have hd2 := sideB_iff.1 HSD.out.2
  refine wp_region_et dkT dkT_ok [berO w.heap.size 0 x, bayO w1.heap.size 0 d] (fun v' => v' = w') [(5, 0), (7, 1)] [] [(56, .bool (!fitB d x))] (by kernel_rfl) rfl (obs2 (fun v' hv' => by subst hv'; exact range_new HO3.out) (fun v' hv' => by subst hv'; exact range_new HD3.out)) ⟨rfl, rfl, trivial⟩ ?_
  conv => whnf
  refine And.intro (under_of (by omega)) ?_
  conv => whnf
  refine And.intro (under_of (by omega)) ?_
  clear hr hd1 hd2
  conv => whnf
  intro f'
  conv => whnf
  refine And.intro ?_ ?_
  · exact congrArg Value.bool (fit_not d x)
  conv => whnf
  intro v' hv'
  subst hv'
  cases hft : fitB d x
  · have HV : Hid (stayE bays l x = 18) := by
      show _ = _; unfold stayE; rw [if_neg (by rw [HID.out]; decide), HF.out]; dsimp only; rw [if_neg (by rw [HRG.out]; decide), if_pos hft]
    clear hft
    go_wp2_with fail
    go_ret
    exact ⟨ret_int HV.out.symm, HB3.out⟩
  have HFT := Lib.hid hft; clear hft
  go_wp2_with fail
  refine (containsFunc_Y (.func (.func 44) #[] #[.pointer (some ⟨w.heap.size, 0, none⟩)]) _ SmB (overB x) l _ (HL.out.keep HB3.out) HS.out ⟨_, _, rfl, enter_overlapC, fun y w4 hy hb4 => overlapC_any x y _ w4 (HO3.out.keep hb4) (smB_of HSD.out HRG.out HFT.out) hy⟩).mono ?_
  rintro e w4 ⟨rfl, h4⟩
  have HB4 := Lib.hid (ext_trans HB3.out h4)
  clear h4
  obtain ⟨an, han⟩ : ∃ an, l.any (overB x) = an := ⟨_, rfl⟩
  rw [han]
  have HV : Hid (stayE bays l x = if an then 19 else 0) := by
    show _ = _; unfold stayE; rw [if_neg (by rw [HID.out]; decide), HF.out]; dsimp only; rw [if_neg (by rw [HRG.out]; decide), if_neg (by rw [HFT.out]; decide), han]
  clear han
  cases an
  · go_wp2_with fail
    go_ret
    exact ⟨ret_int HV.out.symm, HB4.out⟩
  · go_wp2_with fail
    go_ret
    exact ⟨ret_int HV.out.symm, HB4.out⟩
end Go.Proofs.YtgmecjmepbaolaaDoor
