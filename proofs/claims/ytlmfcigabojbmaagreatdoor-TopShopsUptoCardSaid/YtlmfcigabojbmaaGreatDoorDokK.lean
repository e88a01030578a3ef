/- Contracts: Check of bay's reference. -/
import Derived.Test.YtlmfcigabojbmaaGreatDoorDokC
import Derived.Test.YtlmfcigabojbmaaGreatDoorDokE
import Derived.Test.YtlmfcigabojbmaaGreatDoorIdG
import Derived.Deep.WholeRow
import Derived.Deep.RegionHeld3
set_option linter.unusedSimpArgs false
set_option linter.unusedVariables false

/- Contracts: stay of bay. -/
namespace Go.Proofs.YtlmfcigabojbmaaGreatDoor
open Go.RowKit

structure SyC (w : World) (b : Nat) (x : Ber) : Prop where
  c0 : w.cell? ⟨b, 0, none⟩ = some (.string (bs x.hull))
  c1 : w.cell? ⟨b, 1, none⟩ = some (.string (bs x.dock))
  c2 : w.cell? ⟨b, 2, none⟩ = some (.int .i64 x.x)
  c3 : w.cell? ⟨b, 3, none⟩ = some (.int .i64 x.y)
  c4 : w.cell? ⟨b, 4, none⟩ = some (.int .i64 x.len)
  c5 : w.cell? ⟨b, 5, none⟩ = some (.int .i64 x.wid)
  c6 : w.cell? ⟨b, 6, none⟩ = some (.int .i64 x.a)
  c7 : w.cell? ⟨b, 7, none⟩ = some (.int .i64 x.b)
theorem syC {w : World} {b : Nat} {x : Ber} {e : TypeId} (h : ObjAt w b (syCs x) e) : SyC w b x := ⟨h.cell 0, h.cell 1, h.cell 2, h.cell 3, h.cell 4, h.cell 5, h.cell 6, h.cell 7⟩
theorem overlapC_any (x y : Ber) (b1 : Nat) (w : World) (h : ObjAt w b1 (syCs x) 50) (hx : SmB x) (hy : SmB y) :
    Calls Tryz.prog 48 #[syV y, .pointer (some ⟨b1, 0, none⟩)] w (Ret w (.bool (overB x y))) := by
  have HO := Lib.hid (fun w1 => overlap_any x y w1 hx hy)
  have hb : b1 < w.heap.size := h.lt
  obtain ⟨j0, j1, j2, j3, j4, j5, j6, j7⟩ := syC h
  clear h hx hy
  unfold syV
  go_enter Tryz.func48, Tryz.ntmps48
  go_wp2_with fail
  clear j0 j1 j2 j3 j4 j5 j6 j7
  refine (HO.out _).mono ?_
  rintro e w1 ⟨rfl, h1⟩
  have HB := Lib.hid (ext_trans ((Below.refl _ _).alloc (Nat.le_refl _) _) h1)
  clear h1
  go_wp2_with fail
  go_ret
  exact ⟨rfl, HB.out⟩
theorem enter_overlapC : ∀ args w, (callFunc 48 args).run Tryz.prog w = .ok (.enter 48 args) w := enters_of Tryz.func48 (by kernel_rfl) rfl
/-- sides of a bay -/
def sideD (d : DBay) : Prop := sideB d.len = true ∧ sideB d.wid = true
theorem findD_mem {l : List DBay} {name : List UInt8} {d : DBay} (h : findD l name = some d) : d ∈ l := List.mem_of_find?_eq_some h
theorem smB_of {d : DBay} {z : Ber} (hd : sideD d) (hr : rangeB z = true) (hf : fitB d z = true) : SmB z := by
  have h1 := sideB_iff.1 hd.1; have h2 := sideB_iff.1 hd.2; have h3 := rangeB_iff.1 hr; have h4 := fitB_iff.1 hf
  constructor <;> unfold smallB <;> omega
theorem range_not (x : Ber) : (!sideB x.len || !sideB x.wid || decide (x.a < 0) || decide (x.b ≤ x.a) || decide (1048576 < x.b)) = !rangeB x := by
  unfold rangeB
  have e1 : decide (0 ≤ x.a) = !decide (x.a < 0) := by rw [← decide_not, decide_eq_decide]; omega
  have e2 : decide (x.a < x.b) = !decide (x.b ≤ x.a) := by rw [← decide_not, decide_eq_decide]; omega
  have e3 : decide (x.b ≤ 1048576) = !decide (1048576 < x.b) := by rw [← decide_not, decide_eq_decide]; omega
  rw [e1, e2, e3]
  cases sideB x.len <;> cases sideB x.wid <;> cases decide (x.a < 0) <;> cases decide (x.b ≤ x.a) <;> cases decide (1048576 < x.b) <;> rfl
theorem fit_not (d : DBay) (x : Ber) : (decide (x.x < 0) || decide (x.y < 0) || decide (d.len - x.len < x.x) || decide (d.wid - x.wid < x.y)) = !fitB d x := by
  unfold fitB
  have e1 : decide (0 ≤ x.x) = !decide (x.x < 0) := by rw [← decide_not, decide_eq_decide]; omega
  have e2 : decide (0 ≤ x.y) = !decide (x.y < 0) := by rw [← decide_not, decide_eq_decide]; omega
  have e3 : decide (x.x ≤ d.len - x.len) = !decide (d.len - x.len < x.x) := by rw [← decide_not, decide_eq_decide]; omega
  have e4 : decide (x.y ≤ d.wid - x.wid) = !decide (d.wid - x.wid < x.y) := by rw [← decide_not, decide_eq_decide]; omega
  rw [e1, e2, e3, e4]
  cases decide (x.x < 0) <;> cases decide (x.y < 0) <;> cases decide (d.len - x.len < x.x) <;> cases decide (d.wid - x.wid < x.y) <;> rfl
set_option maxRecDepth 100000 in
set_option maxHeartbeats 1000000 in
theorem stay_any (bv lv : Value) (bays : List DBay) (l : List Ber) (x : Ber) (w : World) (hb : SD w bv bays) (hl : SY w lv l) (hm : MLen w) (hx : x.hull.length ≤ maxLen) (hd : ∀ d ∈ bays, sideD d) (hs : ∀ y ∈ l, SmB y) :
    Calls Tryz.prog 23 #[bv, lv, syV x] w (Ret w (.int .i64 (stayE bays l x))) := by
  have HB := Lib.hid hb; have HL := Lib.hid hl; have HM := Lib.hid hm; have HX := Lib.hid hx; have HD := Lib.hid hd; have HS := Lib.hid hs
  obtain ⟨ba, bn, bc, rfl⟩ : ∃ a n c, bv = .slice a n c := by obtain ⟨a, cap, rfl, _⟩ := hb; exact ⟨_, _, _, rfl⟩
  obtain ⟨la, ln, lc, rfl⟩ : ∃ a n c, lv = .slice a n c := by obtain ⟨a, cap, rfl, _⟩ := hl; exact ⟨_, _, _, rfl⟩
  clear hb hl hm hx hd hs
  have HO0 := Lib.hid (ObjAt.new w (syCs x) 50)
  unfold syV
  go_enter Tryz.func23, Tryz.ntmps23
  go_wp2_with fail
  refine (find_any _ bays x.dock _ (HB.out.keep ((Below.refl _ _).alloc (Nat.le_refl _) _))).mono ?_
  rintro e w1 ⟨rfl, h1⟩
  have HO1 := Lib.hid (HO0.out.keep h1)
  have HB1 := Lib.hid (ext_trans ((Below.refl _ _).alloc (Nat.le_refl _) _) h1)
  clear h1
  unfold fdV
  obtain ⟨d, hdd⟩ : ∃ d, (findD bays x.dock).getD default = d := ⟨_, rfl⟩
  obtain ⟨ok, hok⟩ : ∃ ok, (findD bays x.dock).isSome = ok := ⟨_, rfl⟩
  rw [hdd, hok]
  have HDD := Lib.hid hdd; have HOK := Lib.hid hok; clear hdd hok
  have HN := Lib.hid (heap_alloc_new w1 (.cells (dyA default) 25))
  obtain ⟨W2, hW2⟩ : ∃ W2, W2 = w1.alloc (.cells (dyA d) 25) := ⟨_, rfl⟩
  have HW : Hid ((w1.alloc (.cells #[.string ⟨#[]⟩, .int .i64 0, .int .i64 0] 25)).setRow w1.heap.size (dyA d) = W2) := by
    rw [hW2]; exact World.setRow_alloc_new _ _ _ _
  have HO2 : Hid (ObjAt W2 w.heap.size (syCs x) 50) := by rw [hW2]; exact HO1.out.alloc _
  have HD2 : Hid (ObjAt W2 w1.heap.size (dyA d) 25) := by rw [hW2]; exact ObjAt.new _ _ _
  have HB2 : Hid (Below w.heap.size w W2) := by rw [hW2]; exact HB1.out.alloc HB1.out.size _
  clear hW2
  have p0 := (syC HO2.out).c0
  go_wp2_with ((refine wpList_store_row (o := ⟨none, .store _ _ _, _, _, _, _⟩) rfl 25 (.tmp 7) (.tmp 14) rfl w1.heap.size (dyA d) rfl rfl 25 _ HN.out info_Bay rfl (one_bay _) ?_); (rw [HW.out]))
  clear p0
  refine (IsId_any _ _ (by rw [bs_size]; exact HX.out) (HM.out.keep HB2.out)).mono ?_
  rintro e w3 ⟨rfl, h3⟩
  rw [bs_list]
  have HO3 := Lib.hid (HO2.out.keep h3)
  have HD3 := Lib.hid (HD2.out.keep h3)
  have HB3 := Lib.hid (ext_trans HB2.out h3)
  clear h3
  cases hid : idB x.hull
  · have HV : Hid (stayE bays l x = 6) := by show _ = _; unfold stayE; rw [if_pos hid]
    clear hid
    go_wp2_with fail
    go_ret
    exact ⟨ret_int HV.out.symm, HB3.out⟩
  have HID := Lib.hid hid; clear hid
  cases ok
  · have HV : Hid (stayE bays l x = 8) := by
      show _ = _; unfold stayE; rw [if_neg (by rw [HID.out]; decide)]
      have := HOK.out
      cases hq : findD bays x.dock with
      | none => rfl
      | some d => rw [hq] at this; cases this
    go_wp2_with fail
    go_ret
    exact ⟨ret_int HV.out.symm, HB3.out⟩
  have HF : Hid (findD bays x.dock = some d) := by
    have h1 := HOK.out; have h2 := HDD.out
    cases hq : findD bays x.dock with
    | none => rw [hq] at h1; cases h1
    | some d' => rw [hq] at h2; show some d' = _; rw [← h2]; rfl
  have HSD := Lib.hid (HD.out d (findD_mem HF.out))
  go_upto_region 6 with fail
  refine wp_region_et dkT dkT_ok [berO w.heap.size 0 x] (fun w' => w' = w3) [(5, 0)] [(27, .ret (.bool (sideB x.len))), (32, .ret (.bool (sideB x.wid)))] [(24, .bool (!rangeB x))] (by kernel_rfl) rfl (obs1 fun w' hw' => by subst hw'; exact range_new HO3.out) ⟨rfl, trivial⟩ ?_
  conv => whnf
  refine And.intro (under_of fun w' hw' => by subst hw'; exact side_any _ _) ?_
  conv => whnf
  refine And.intro (under_of fun w' hw' => by subst hw'; exact side_any _ _) ?_
  conv => whnf
  intro f
  conv => whnf
  refine And.intro ?_ ?_
  · exact congrArg Value.bool (range_not x)
  conv => whnf
  intro w' hw'
  subst hw'
  cases hrg : rangeB x
  · have HV : Hid (stayE bays l x = 9) := by
      show _ = _; unfold stayE; rw [if_neg (by rw [HID.out]; decide), HF.out]; dsimp only; rw [if_pos hrg]
    clear hrg
    go_wp2_with fail
    go_ret
    exact ⟨ret_int HV.out.symm, HB3.out⟩
  have HRG := Lib.hid hrg; clear hrg
  go_upto_region 8 with fail
  have hr := rangeB_iff.1 HRG.out
  have hd1 := sideB_iff.1 HSD.out.1; have hd2 := sideB_iff.1 HSD.out.2
  refine wp_region_et dkT dkT_ok [berO w.heap.size 0 x, bayO w1.heap.size 0 d] (fun v' => v' = w') [(5, 0), (7, 1)] [] [(56, .bool (!fitB d x))] (by kernel_rfl) rfl (obs2 (fun v' hv' => by subst hv'; exact range_new HO3.out) (fun v' hv' => by subst hv'; exact range_new HD3.out)) ⟨rfl, rfl, trivial⟩ ?_
  conv => whnf
  refine And.intro (under_of (by omega)) ?_
  conv => whnf
  refine And.intro (under_of (by omega)) ?_
  clear hr hd1 hd2
  conv => whnf
  intro f'
  conv => whnf
  refine And.intro ?_ ?_
  · exact congrArg Value.bool (fit_not d x)
  conv => whnf
  intro v' hv'
  subst hv'
  cases hft : fitB d x
  · have HV : Hid (stayE bays l x = 18) := by
      show _ = _; unfold stayE; rw [if_neg (by rw [HID.out]; decide), HF.out]; dsimp only; rw [if_neg (by rw [HRG.out]; decide), if_pos hft]
    clear hft
    go_wp2_with fail
    go_ret
    exact ⟨ret_int HV.out.symm, HB3.out⟩
  have HFT := Lib.hid hft; clear hft
  go_wp2_with fail
  refine (containsFunc_Y (.func (.func 48) #[] #[.pointer (some ⟨w.heap.size, 0, none⟩)]) _ SmB (overB x) l _ (HL.out.keep HB3.out) HS.out ⟨_, _, rfl, enter_overlapC, fun y w4 hy hb4 => overlapC_any x y _ w4 (HO3.out.keep hb4) (smB_of HSD.out HRG.out HFT.out) hy⟩).mono ?_
  rintro e w4 ⟨rfl, h4⟩
  have HB4 := Lib.hid (ext_trans HB3.out h4)
  clear h4
  obtain ⟨an, han⟩ : ∃ an, l.any (overB x) = an := ⟨_, rfl⟩
  rw [han]
  have HV : Hid (stayE bays l x = if an then 19 else 0) := by
    show _ = _; unfold stayE; rw [if_neg (by rw [HID.out]; decide), HF.out]; dsimp only; rw [if_neg (by rw [HRG.out]; decide), if_neg (by rw [HFT.out]; decide), han]
  clear han
  cases an
  · go_wp2_with fail
    go_ret
    exact ⟨ret_int HV.out.symm, HB4.out⟩
  · go_wp2_with fail
    go_ret
    exact ⟨ret_int HV.out.symm, HB4.out⟩
end Go.Proofs.YtlmfcigabojbmaaGreatDoor

/- Contracts: Check of bay. -/
namespace Go.Proofs.YtlmfcigabojbmaaGreatDoor
open Go.RowKit

theorem planE_long {bays : List DBay} {l : List Ber} (h : 8 < bays.length ∨ 128 < l.length) : planE bays l = 4 := by unfold planE; rw [if_pos h]
theorem planE_bays {bays : List DBay} {l : List Ber} (h : ¬ (8 < bays.length ∨ 128 < l.length)) {k : Nat} (hk : firstE (bayE bays) k = 0) (hl : k < bays.length) (hb : bayE bays k ≠ 0) : planE bays l = bayE bays k := by
  have h1 : baysE bays = bayE bays k := by
    unfold baysE
    rw [firstE_stop (k := k + 1) (by rw [firstE_zero hk]; exact hb) (by omega), firstE_zero hk]
  unfold planE; rw [if_neg h, h1, if_neg hb]
theorem planE_stays {bays : List DBay} {l : List Ber} (h : ¬ (8 < bays.length ∨ 128 < l.length)) (hb : firstE (bayE bays) bays.length = 0) {k : Nat} (hk : firstE (fun i => stayE bays (l.take i) (bri l i)) k = 0) (hl : k < l.length) (he : stayE bays (l.take k) (bri l k) ≠ 0) : planE bays l = stayE bays (l.take k) (bri l k) := by
  have h1 : staysE bays l = stayE bays (l.take k) (bri l k) := by
    unfold staysE
    rw [firstE_stop (k := k + 1) (by rw [firstE_zero hk]; exact he) (by omega), firstE_zero hk]
  unfold planE; rw [if_neg h, show baysE bays = 0 from hb, if_pos rfl, h1]
theorem planE_ok {bays : List DBay} {l : List Ber} (h : ¬ (8 < bays.length ∨ 128 < l.length)) (hb : firstE (bayE bays) bays.length = 0) (hk : firstE (fun i => stayE bays (l.take i) (bri l i)) l.length = 0) : planE bays l = 0 := by
  unfold planE; rw [if_neg h, show baysE bays = 0 from hb, if_pos rfl]; exact hk
theorem sides_of {bays : List DBay} (hb : firstE (bayE bays) bays.length = 0) : ∀ d ∈ bays, sideD d := by
  intro d hd
  obtain ⟨k, hk, rfl⟩ := mem_byi hd
  have := (bayE_iff _ _).1 (firstE_iff.1 hb k hk)
  unfold bayOk at this
  simp only [Bool.and_eq_true] at this
  exact ⟨this.1.2.1, this.1.2.2⟩
theorem small_of {bays : List DBay} {l : List Ber} (hb : ∀ d ∈ bays, sideD d) {k : Nat} (hk : firstE (fun i => stayE bays (l.take i) (bri l i)) k = 0) (hl : k ≤ l.length) : ∀ y ∈ l.take k, SmB y := by
  intro y hy
  obtain ⟨j, hj, rfl⟩ := mem_bri hy
  have hjk : j < k := by rw [List.length_take] at hj; omega
  obtain ⟨d, h1, h2, h3, _⟩ := stay_range ((stayE_iff _ _ _).1 (firstE_iff.1 hk j hjk))
  rw [bri_take hjk]
  exact smB_of (hb d (findD_mem h1)) h2 h3
theorem mixed : Tryz.prog.follows .mixedOrders = true := by kernel_rfl
theorem rangeKeep {w w' : World} {b off : Nat} {cs : List Value} (h : w.rangeAt b off cs) (hb : Below w.heap.size w w') : w'.rangeAt b off cs := fun j v hv => cell_keep hb (h j v hv)
structure StrD (l : List DBay) (n : Nat) : Prop where
  h : ∀ d ∈ l, d.name.length ≤ n
structure StrB (l : List Ber) (n : Nat) : Prop where
  h : ∀ x ∈ l, x.hull.length ≤ n
set_option maxRecDepth 100000 in
set_option maxHeartbeats 1000000 in
theorem Check_any (bv lv : Value) (bays : List DBay) (l : List Ber) (w : World) (hb : SD w bv bays) (hl : SY w lv l) (hm : MLen w) (hsd : StrD bays maxLen) (hsb : StrB l maxLen) :
    Calls Tryz.prog 8 #[bv, lv] w (Ret w (.int .i64 (planE bays l))) := by
  have HB := Lib.hid hb; have HL := Lib.hid hl; have HM := Lib.hid hm; have HSD := Lib.hid hsd; have HSB := Lib.hid hsb
  obtain ⟨ba, bc, rfl, b1, b2, b3⟩ := hb
  obtain ⟨la, lc, rfl, l1, l2, l3⟩ := hl
  have H3 := Lib.hid b3; have L3 := Lib.hid l3
  clear hm hsd hsb b3 l3
  unfold maxLen at b2 l2
  by_cases hlong : 8 < bays.length ∨ 128 < l.length
  · have HV := Lib.hid (planE_long hlong)
    rcases hlong with hlong | hlong
    · go_enter Tryz.func8, Tryz.ntmps8
      go_wp2_with fail
      go_ret
      exact ⟨ret_int HV.out.symm, Below.refl _ _⟩
    · by_cases h8 : 8 < bays.length
      all_goals
        go_enter Tryz.func8, Tryz.ntmps8
        go_wp2_with fail
        go_ret
        exact ⟨ret_int HV.out.symm, Below.refl _ _⟩
  have HLG := Lib.hid hlong
  have g1 : bays.length ≤ 8 := by omega
  have g2 : l.length ≤ 128 := by omega
  clear hlong
  go_enter Tryz.func8, Tryz.ntmps8
  go_wp2_with fail
  go_loopw [22] (fun i wr => ∃ k : Nat, k ≤ bays.length ∧ i = .int .i64 k ∧ Hid (Below w.heap.size w wr) ∧ Hid (firstE (bayE bays) k = 0)) (fun i _ => bays.length - (intOf i).toNat)
  case atStart => exact ⟨0, Nat.zero_le _, rfl, Lib.hid (Below.refl _ _), Lib.hid rfl⟩
  case round =>
    obtain ⟨k, hk, rfl, hbl, hf⟩ := hrel
    by_cases hlt : k < bays.length
    · obtain ⟨b, off, rfl, hc⟩ := H3.out k hlt
      obtain ⟨c0, c1, c2⟩ := hc.keep hbl.out
      obtain ⟨W1, hW1⟩ : ∃ W1, W1 = wr.alloc (.cells (dyA (byi bays k)) 25) := ⟨_, rfl⟩
      have HO1 : Hid (ObjAt W1 wr.heap.size (dyA (byi bays k)) 25) := by rw [hW1]; exact ObjAt.new _ _ _
      have HB1 : Hid (Below w.heap.size w W1) := by rw [hW1]; exact hbl.out.alloc hbl.out.size _
      have HW : Hid (wr.alloc (.cells #[.string (bs (byi bays k).name), .int .i64 (byi bays k).len, .int .i64 (byi bays k).wid] 25) = W1) := by rw [hW1]; rfl
      clear hW1 hc
      go_wp2_with fail
      rw [HW.out]
      clear c0 c1 c2 HW
      refine (IsName_any _ _ (by rw [bs_size]; exact HSD.out.h _ (byi_mem hlt))).mono ?_
      rintro e W2 ⟨rfl, h2⟩
      rw [bs_list]
      have HO2 := Lib.hid (HO1.out.keep h2)
      have HB2 := Lib.hid (ext_trans HB1.out h2)
      clear h2
      cases hnm : nameB (byi bays k).name
      · have HE : Hid (bayE bays k = 6) := by show _ = _; unfold bayE; rw [if_pos hnm]
        have HV := Lib.hid (planE_bays (l := l) HLG.out hf.out hlt (by rw [HE.out]; decide))
        clear hnm
        go_wp2_with fail
        go_ret
        exact ⟨ret_int (by rw [HV.out, HE.out]), HB2.out⟩
      have HNM := Lib.hid hnm; clear hnm
      go_upto_region 8 with fail
      refine wp_region_et dkT dkT_ok [bayO wr.heap.size 0 (byi bays k)] (fun w' => w' = W2) [(6, 0)] [(33, .ret (.bool (sideB (byi bays k).len))), (38, .ret (.bool (sideB (byi bays k).wid)))] [(40, .bool (!(sideB (byi bays k).len && sideB (byi bays k).wid)))] (by kernel_rfl) rfl (obs1 fun w' hw' => by subst hw'; exact range_new HO2.out) ⟨rfl, trivial⟩ ?_
      conv => whnf
      refine And.intro (under_of fun w' hw' => by subst hw'; exact side_any _ _) ?_
      conv => whnf
      refine And.intro (under_of fun w' hw' => by subst hw'; exact side_any _ _) ?_
      conv => whnf
      intro f
      conv => whnf
      refine And.intro ?_ ?_
      · congr 1
        cases sideB (byi bays k).len <;> cases sideB (byi bays k).wid <;> rfl
      conv => whnf
      intro w' hw'
      subst hw'
      cases hsd : (sideB (byi bays k).len && sideB (byi bays k).wid)
      · have HE : Hid (bayE bays k = 9) := by show _ = _; unfold bayE; rw [if_neg (by rw [HNM.out]; decide), if_pos hsd]
        have HV := Lib.hid (planE_bays (l := l) HLG.out hf.out hlt (by rw [HE.out]; decide))
        clear hsd
        go_wp2_with fail
        go_ret
        exact ⟨ret_int (by rw [HV.out, HE.out]), HB2.out⟩
      have HSI := Lib.hid hsd; clear hsd
      go_upto_region 10 with fail
      have HT := Lib.hid ((HB.out.keep HB2.out).take k (by omega))
      refine wp_region_as dkT dkT_ok [bayO wr.heap.size 0 (byi bays k)] [(6, 0)] [(44, .nat k), (47, .ret (fdV (bays.take k) (byi bays k).name))] [(8, .bool (findD (bays.take k) (byi bays k).name).isSome)] 9 10 7 48 25 (dyA default) (dyA ((findD (bays.take k) (byi bays k).name).getD default)) (by kernel_rfl) mixed (by kernel_rfl) rfl ⟨_, rfl, rfl, rfl⟩ ⟨_, rfl, rfl, rfl, ⟨9, .data⟩, by simp, rfl, rfl⟩ alloc_Bay info_Bay rfl (one_bay _) (obs1 fun v hv => rangeKeep (range_new HO2.out) hv) ⟨rfl, trivial⟩ ?_
      conv => whnf
      refine And.intro (under_of ⟨rfl, by omega⟩) ?_
      conv => whnf
      refine And.intro (under_of fun v hv => find_any _ _ _ v (HT.out.keep hv)) ?_
      conv => whnf
      refine And.intro rfl ?_
      intro f1 nb
      conv => whnf
      refine And.intro rfl ?_
      conv => whnf
      intro w3 h3 _ _
      have HB3 := Lib.hid (ext_trans HB2.out h3)
      clear h3
      have HX : Hid ((findD (bays.take k) (byi bays k).name).isSome = (bays.take k).any (fun c => c.name == (byi bays k).name)) := by
        show _ = _; unfold findD; rw [Bool.eq_iff_iff, List.find?_isSome, List.any_eq_true]
      obtain ⟨ex, hex⟩ : ∃ ex, (bays.take k).any (fun c => c.name == (byi bays k).name) = ex := ⟨_, rfl⟩
      rw [HX.out, hex]
      have HE : Hid (bayE bays k = if ex then 7 else 0) := by
        show _ = _; unfold bayE; rw [if_neg (by rw [HNM.out]; decide), if_neg (by rw [HSI.out]; decide), hex]
      clear hex
      cases ex
      · have HF := Lib.hid ((firstE_zero hf.out).trans HE.out)
        go_wp2_with fail
        go_roundw
        case rel => exact ⟨k + 1, by omega, by go_num, HB3, HF⟩
        case measure => simp [intOf]; omega
      · have HV := Lib.hid (planE_bays (l := l) HLG.out hf.out hlt (by rw [HE.out]; decide))
        go_wp2_with fail
        go_ret
        exact ⟨ret_int (by rw [HV.out, HE.out]; rfl), HB3.out⟩
    · obtain rfl : k = bays.length := by omega
      have HSS := Lib.hid (sides_of hf.out)
      go_wp2_with fail
      go_loopw [54] (fun i wr => ∃ k : Nat, k ≤ l.length ∧ i = .int .i64 k ∧ Hid (Below w.heap.size w wr) ∧ Hid (firstE (fun i => stayE bays (l.take i) (bri l i)) k = 0)) (fun i _ => l.length - (intOf i).toNat)
      case atStart => exact ⟨0, Nat.zero_le _, rfl, hbl, Lib.hid rfl⟩
      case round =>
        obtain ⟨k, hk2, rfl, hbl2, hf2⟩ := hrel
        by_cases hlt2 : k < l.length
        · obtain ⟨b, off, rfl, hc⟩ := L3.out k hlt2
          obtain ⟨c0, c1, c2, c3, c4, c5, c6, c7⟩ := hc.keep hbl2.out
          obtain ⟨W1, hW1⟩ : ∃ W1, W1 = wr.alloc (.cells (syCs (bri l k)) 50) := ⟨_, rfl⟩
          have HO1 : Hid (ObjAt W1 wr.heap.size (syCs (bri l k)) 50) := by rw [hW1]; exact ObjAt.new _ _ _
          have HB1 : Hid (Below w.heap.size w W1) := by rw [hW1]; exact hbl2.out.alloc hbl2.out.size _
          have HW : Hid (wr.alloc (.cells #[.string (bs (bri l k).hull), .string (bs (bri l k).dock), .int .i64 (bri l k).x, .int .i64 (bri l k).y, .int .i64 (bri l k).len, .int .i64 (bri l k).wid, .int .i64 (bri l k).a, .int .i64 (bri l k).b] 50) = W1) := by rw [hW1]; rfl
          clear hW1 hc
          go_upto_region 17 with fail
          rw [HW.out]
          clear c0 c1 c2 c3 c4 c5 c6 c7 HW
          refine wp_region_ev dkT dkT_ok [berO wr.heap.size 0 (bri l k)] (Below W1.heap.size W1) [(10, 0)] [(62, .nat k), (64, .ret (.int .i64 (stayE bays (l.take k) (bri l k))))] [(11, .int .i64 (stayE bays (l.take k) (bri l k)))] (by kernel_rfl) mixed (by kernel_rfl) ((Below.refl _ _).drew) (obs1 fun v hv => rangeKeep (range_new HO1.out) hv) ⟨rfl, trivial⟩ ?_
          conv => whnf
          refine And.intro (under_of ⟨rfl, by omega⟩) ?_
          conv => whnf
          refine And.intro (Nat.le_refl 8) ?_
          conv => whnf
          refine And.intro (under_of fun v hv => (stay_any _ _ bays (l.take k) (bri l k) v (HB.out.keep (ext_trans HB1.out hv)) ((HL.out.keep (ext_trans HB1.out hv)).take k (by omega)) (HM.out.keep (ext_trans HB1.out hv)) (HSB.out.h _ (bri_mem hlt2)) HSS.out (small_of HSS.out hf2.out (by omega))).mono fun e v' he => ⟨he.1, ext_trans hv he.2⟩) ?_
          conv => whnf
          intro f1
          conv => whnf
          refine And.intro rfl ?_
          conv => whnf
          intro w3 h3
          have HB3 := Lib.hid (ext_trans HB1.out h3)
          clear h3
          obtain ⟨er, her⟩ : ∃ er, stayE bays (l.take k) (bri l k) = er := ⟨_, rfl⟩
          rw [her]
          by_cases he0 : er = 0
          · have HF := Lib.hid ((firstE_zero hf2.out).trans (her.trans he0))
            subst he0
            clear her
            go_wp2_with fail
            go_roundw
            case rel => exact ⟨k + 1, by omega, by go_num, HB3, HF⟩
            case measure => simp [intOf]; omega
          · have HV := Lib.hid (planE_stays HLG.out hf.out hf2.out hlt2 (by rw [her]; exact he0))
            have HER := Lib.hid her; clear her
            go_wp2_with fail
            go_ret
            exact ⟨ret_int (by rw [HV.out, HER.out]), HB3.out⟩
        · obtain rfl : k = l.length := by omega
          have HV := Lib.hid (planE_ok HLG.out hf.out hf2.out)
          go_wp2_with fail
          go_ret
          exact ⟨ret_int HV.out.symm, hbl2.out⟩
end Go.Proofs.YtlmfcigabojbmaaGreatDoor

/- Contracts: find, floors, stay, Check of bay's reference. -/
namespace Go.Proofs.YtlmfcigabojbmaaGreatDoor
open Go.RowKit

theorem rfind_any (v : Value) (l : List DBay) (name : List UInt8) (w : World) (h : SD w v l) : Calls Tryz.prog 64 #[v, .string (bs name)] w (Ret w (.int .i64 (findG (fun b => b.name == name) l))) := by
  obtain ⟨a, cap, rfl, h1, h2, h3⟩ := h
  have H3 := Lib.hid h3; clear h3
  have hm : l.length ≤ 9223372036854775807 := by unfold maxLen at h2; omega
  go_enter Tryz.func64, Tryz.ntmps64
  go_wp2_with fail
  go_loopw [5] (fun i wr => ∃ k : Nat, k ≤ l.length ∧ i = .int .i64 k ∧ Hid (Below w.heap.size w wr) ∧ Hid (∀ j, j < k → ((fun b : DBay => b.name == name) (byi l j)) = false)) (fun i _ => l.length - (intOf i).toNat)
  case atStart => exact ⟨0, Nat.zero_le _, rfl, Lib.hid (Below.refl _ _), Lib.hid fun j hj => by omega⟩
  case round =>
    obtain ⟨k, hk, rfl, hb, hj⟩ := hrel
    by_cases hlt : k < l.length
    · obtain ⟨b, off, rfl, hc⟩ := H3.out k hlt
      obtain ⟨c0, c1, c2⟩ := hc.keep hb.out
      have HE := Lib.hid (bs_eq (byi l k).name name)
      clear hc c1 c2
      obtain ⟨ex, hex⟩ : ∃ ex, ((bs (byi l k).name).toList == (bs name).toList) = ex := ⟨_, rfl⟩
      have HX := Lib.hid hex
      cases ex
      · have HJ := Lib.hid (upto (q := fun j => ((fun b : DBay => b.name == name) (byi l j)) = false) hj.out (HE.out.symm.trans hex))
        go_wp2_with fail
        go_roundw
        case rel => exact ⟨k + 1, by omega, by go_num, hb, HJ⟩
        case measure => simp [intOf]; omega
      · have HV := Lib.hid (findG_hit (fun b : DBay => b.name == name) l k hlt hj.out (HE.out.symm.trans hex))
        go_wp2_with fail
        go_ret
        exact ⟨ret_int HV.out.symm, hb.out⟩
    · have HV := Lib.hid (findG_miss (fun b : DBay => b.name == name) l (fun j h => hj.out j (by omega)))
      go_wp2_with fail
      go_ret
      exact ⟨ret_int HV.out.symm, hb.out⟩
theorem baysE_at {bays : List DBay} {k : Nat} (hk : firstE (bayE bays) k = 0) (hl : k < bays.length) (hb : bayE bays k ≠ 0) : baysE bays = bayE bays k := by
  unfold baysE
  rw [firstE_stop (k := k + 1) (by rw [firstE_zero hk]; exact hb) (by omega), firstE_zero hk]
set_option maxRecDepth 100000 in
set_option maxHeartbeats 1000000 in
theorem floors_any (bv : Value) (bays : List DBay) (w : World) (hb : SD w bv bays) (hsd : StrD bays maxLen) : Calls Tryz.prog 40 #[bv] w (Ret w (.int .i64 (baysE bays))) := by
  have HB := Lib.hid hb; have HSD := Lib.hid hsd
  obtain ⟨ba, bc, rfl, b1, b2, b3⟩ := hb
  have H3 := Lib.hid b3
  clear hsd b3
  unfold maxLen at b2
  go_enter Tryz.func40, Tryz.ntmps40
  go_wp2_with fail
  go_loopw [3] (fun i wr => ∃ k : Nat, k ≤ bays.length ∧ i = .int .i64 k ∧ Hid (Below w.heap.size w wr) ∧ Hid (firstE (bayE bays) k = 0)) (fun i _ => bays.length - (intOf i).toNat)
  case atStart => exact ⟨0, Nat.zero_le _, rfl, Lib.hid (Below.refl _ _), Lib.hid rfl⟩
  case round =>
    obtain ⟨k, hk, rfl, hbl, hf⟩ := hrel
    by_cases hlt : k < bays.length
    · obtain ⟨b, off, rfl, hc⟩ := H3.out k hlt
      obtain ⟨c0, c1, c2⟩ := hc.keep hbl.out
      obtain ⟨W1, hW1⟩ : ∃ W1, W1 = wr.alloc (.cells (dyA (byi bays k)) 25) := ⟨_, rfl⟩
      have HO1 : Hid (ObjAt W1 wr.heap.size (dyA (byi bays k)) 25) := by rw [hW1]; exact ObjAt.new _ _ _
      have HB1 : Hid (Below w.heap.size w W1) := by rw [hW1]; exact hbl.out.alloc hbl.out.size _
      have HW : Hid (wr.alloc (.cells #[.string (bs (byi bays k).name), .int .i64 (byi bays k).len, .int .i64 (byi bays k).wid] 25) = W1) := by rw [hW1]; rfl
      clear hW1 hc
      go_wp2_with fail
      rw [HW.out]
      clear c0 c1 c2 HW
      refine (rIsName_any _ _ (by rw [bs_size]; exact HSD.out.h _ (byi_mem hlt))).mono ?_
      rintro e W2 ⟨rfl, m2, rfl⟩
      rw [bs_list]
      have HO2 := Lib.hid (HO1.out.drewN m2)
      have HB2 := Lib.hid (below_drewN' HB1.out m2)
      obtain ⟨W2, hW2⟩ : ∃ W2, W1.drewN m2 = W2 := ⟨_, rfl⟩
      rw [hW2] at HO2 HB2
      rw [hW2]
      clear hW2
      cases hnm : nameB (byi bays k).name
      · have HE : Hid (bayE bays k = 6) := by show _ = _; unfold bayE; rw [if_pos hnm]
        have HV := Lib.hid (baysE_at hf.out hlt (by rw [HE.out]; decide))
        clear hnm
        go_wp2_with fail
        go_ret
        exact ⟨ret_int (by rw [HV.out, HE.out]), HB2.out⟩
      have HNM := Lib.hid hnm; clear hnm
      go_upto_region 7 with fail
      refine wp_region_et dkT dkT_ok [bayO wr.heap.size 0 (byi bays k)] (fun w' => w' = W2) [(4, 0)] [(21, .ret (.bool (decide (1 ≤ (byi bays k).len) && decide ((byi bays k).len ≤ 524288)))), (26, .ret (.bool (decide (1 ≤ (byi bays k).wid) && decide ((byi bays k).wid ≤ 524288))))] [(28, .bool (!(sideB (byi bays k).len && sideB (byi bays k).wid)))] (by kernel_rfl) rfl (obs1 fun w' hw' => by subst hw'; exact range_new HO2.out) ⟨rfl, trivial⟩ ?_
      conv => whnf
      refine And.intro (under_of fun w' hw' => by subst hw'; exact in41_any _ _ _ _) ?_
      conv => whnf
      refine And.intro (under_of fun w' hw' => by subst hw'; exact in41_any _ _ _ _) ?_
      conv => whnf
      intro f
      conv => whnf
      refine And.intro ?_ ?_
      · congr 1
        unfold sideB
        cases (decide (1 ≤ (byi bays k).len) && decide ((byi bays k).len ≤ 524288)) <;> cases (decide (1 ≤ (byi bays k).wid) && decide ((byi bays k).wid ≤ 524288)) <;> rfl
      conv => whnf
      intro w' hw'
      subst hw'
      cases hsd : (sideB (byi bays k).len && sideB (byi bays k).wid)
      · have HE : Hid (bayE bays k = 9) := by show _ = _; unfold bayE; rw [if_neg (by rw [HNM.out]; decide), if_pos hsd]
        have HV := Lib.hid (baysE_at hf.out hlt (by rw [HE.out]; decide))
        clear hsd
        go_wp2_with fail
        go_ret
        exact ⟨ret_int (by rw [HV.out, HE.out]), HB2.out⟩
      have HSI := Lib.hid hsd; clear hsd
      go_upto_region 9 with fail
      have HT := Lib.hid ((HB.out.keep HB2.out).take k (by omega))
      refine wp_region_ev dkT dkT_ok [bayO wr.heap.size 0 (byi bays k)] (Below w'.heap.size w') [(4, 0)] [(31, .nat k), (34, .ret (.int .i64 (findG (fun b => b.name == (byi bays k).name) (bays.take k))))] [(35, .bool ((bays.take k).any (fun c => c.name == (byi bays k).name)))] (by kernel_rfl) mixed (by kernel_rfl) ((Below.refl _ _).drew) (obs1 fun v hv => rangeKeep (range_new HO2.out) hv) ⟨rfl, trivial⟩ ?_
      conv => whnf
      refine And.intro (under_of ⟨rfl, by omega⟩) ?_
      conv => whnf
      refine And.intro (under_of fun v hv => (rfind_any _ _ _ v (HT.out.keep hv)).mono fun e v' he => ⟨he.1, ext_trans hv he.2⟩) ?_
      conv => whnf
      intro f1
      conv => whnf
      refine And.intro (congrArg Value.bool (findG_any _ _)) ?_
      conv => whnf
      intro w3 h3
      have HB3 := Lib.hid (ext_trans HB2.out h3)
      clear h3
      obtain ⟨ex, hex⟩ : ∃ ex, (bays.take k).any (fun c => c.name == (byi bays k).name) = ex := ⟨_, rfl⟩
      rw [hex]
      have HE : Hid (bayE bays k = if ex then 7 else 0) := by
        show _ = _; unfold bayE; rw [if_neg (by rw [HNM.out]; decide), if_neg (by rw [HSI.out]; decide), hex]
      clear hex
      cases ex
      · have HF := Lib.hid ((firstE_zero hf.out).trans HE.out)
        go_wp2_with fail
        go_roundw
        case rel => exact ⟨k + 1, by omega, by go_num, HB3, HF⟩
        case measure => simp [intOf]; omega
      · have HV := Lib.hid (baysE_at hf.out hlt (by rw [HE.out]; decide))
        go_wp2_with fail
        go_ret
        exact ⟨ret_int (by rw [HV.out, HE.out]; rfl), HB3.out⟩
    · obtain rfl : k = bays.length := by omega
      go_wp2_with fail
      go_ret
      exact ⟨ret_int hf.out.symm, hbl.out⟩
end Go.Proofs.YtlmfcigabojbmaaGreatDoor

/- Contracts: stay, Check of bay's reference. -/
namespace Go.Proofs.YtlmfcigabojbmaaGreatDoor
open Go.RowKit

theorem dAt_range {w : World} {b off : Nat} {x : DBay} (h : DAt w b off x) : w.rangeAt b off (dyCells x) := fun j v hv => by
  match j with
  | 0 => cases hv; exact h.c0
  | 1 => cases hv; exact h.c1
  | 2 => cases hv; exact h.c2
  | j + 3 => cases hv
theorem yAt_range {w : World} {b off : Nat} {x : Ber} (h : YAt w b off x) : w.rangeAt b off (beCells x) := fun j v hv => by
  match j with
  | 0 => cases hv; exact h.c0
  | 1 => cases hv; exact h.c1
  | 2 => cases hv; exact h.c2
  | 3 => cases hv; exact h.c3
  | 4 => cases hv; exact h.c4
  | 5 => cases hv; exact h.c5
  | 6 => cases hv; exact h.c6
  | 7 => cases hv; exact h.c7
  | j + 8 => cases hv
theorem bAt_range {w : World} {b off : Nat} {x : Ber} (h : BAt w b off x) : w.rangeAt b off (beCells x) := fun j v hv => by
  match j with
  | 0 => cases hv; exact h.c0
  | 1 => cases hv; exact h.c1
  | 2 => cases hv; exact h.c2
  | 3 => cases hv; exact h.c3
  | 4 => cases hv; exact h.c4
  | 5 => cases hv; exact h.c5
  | 6 => cases hv; exact h.c6
  | 7 => cases hv; exact h.c7
  | j + 8 => cases hv
set_option maxRecDepth 100000 in
set_option maxHeartbeats 1000000 in
theorem rstay_any (bv lv : Value) (bays : List DBay) (l : List Ber) (x : Ber) (w : World) (hb : SD w bv bays) (hl : SY w lv l) (hx : x.hull.length ≤ 1100000) (hd : ∀ d ∈ bays, sideD d) (hs : ∀ y ∈ l, SmB y) :
    Calls Tryz.prog 41 #[bv, lv, syV x] w (Ret w (.int .i64 (stayE bays l x))) := by
  have HB := Lib.hid hb; have HL := Lib.hid hl; have HX := Lib.hid hx; have HD := Lib.hid hd; have HS := Lib.hid hs
  obtain ⟨ba, bc, rfl, b1, b2, b3⟩ := hb
  obtain ⟨la, lc, rfl, l1, l2, l3⟩ := hl
  have H3 := Lib.hid b3; have L3 := Lib.hid l3
  clear hx hd hs b3 l3
  unfold maxLen at b2 l2
  obtain ⟨W0, hW0⟩ : ∃ W0, W0 = w.alloc (.cells (syCs x) 50) := ⟨_, rfl⟩
  have HO0 : Hid (ObjAt W0 w.heap.size (syCs x) 50) := by rw [hW0]; exact ObjAt.new _ _ _
  have HB0 : Hid (Below w.heap.size w W0) := by rw [hW0]; exact (Below.refl _ _).alloc (Nat.le_refl _) _
  have HW : Hid (w.alloc (.cells #[.string (bs x.hull), .string (bs x.dock), .int .i64 x.x, .int .i64 x.y, .int .i64 x.len, .int .i64 x.wid, .int .i64 x.a, .int .i64 x.b] 50) = W0) := by rw [hW0]; rfl
  clear hW0
  unfold syV
  go_enter Tryz.func41, Tryz.ntmps41
  go_wp2_with fail
  rw [HW.out]
  refine (rIsId_any _ _ (by rw [bs_size]; exact HX.out)).mono ?_
  rintro e w3 ⟨rfl, h3⟩
  rw [bs_list]
  have HO3 := Lib.hid (HO0.out.keep h3)
  have HB3 := Lib.hid (ext_trans HB0.out h3)
  clear h3
  have p1 := (syC HO3.out).c1
  cases hid : idB x.hull
  · have HV : Hid (stayE bays l x = 6) := by show _ = _; unfold stayE; rw [if_pos hid]
    clear hid
    go_wp2_with fail
    go_ret
    exact ⟨ret_int HV.out.symm, HB3.out⟩
  have HID := Lib.hid hid; clear hid
  go_wp2_with fail
  clear p1
  refine (rfind_any _ bays x.dock _ (HB.out.keep HB3.out)).mono ?_
  rintro e w4 ⟨rfl, h4⟩
  have HO4 := Lib.hid (HO3.out.keep h4)
  have HB4 := Lib.hid (ext_trans HB3.out h4)
  clear h4
  rcases findG_findD bays x.dock with ⟨hg, hd⟩ | ⟨k0, hg, hk0, hd⟩
  · have HV : Hid (stayE bays l x = 8) := by
      show _ = _; unfold stayE; rw [if_neg (by rw [HID.out]; decide), hd]
    clear hd
    generalize findG (fun b => b.name == x.dock) bays = z at *
    go_wp2_with fail
    go_ret
    exact ⟨ret_int HV.out.symm, HB4.out⟩
  have HF := Lib.hid hd; clear hd
  rw [hg]
  clear hg
  obtain ⟨bb, boff, rfl, hbc⟩ := H3.out k0 hk0
  have HBC := Lib.hid (hbc.keep HB4.out); clear hbc
  have HSD := Lib.hid (HD.out _ (findD_mem HF.out))
  go_upto_region 6 with fail
  refine wp_region_et dkT dkT_ok [berO w.heap.size 0 x] (fun w' => w' = w4) [(5, 0)] [(21, .ret (.bool (sideB x.len))), (26, .ret (.bool (sideB x.wid)))] [(49, .bool (!rangeB x))] (by kernel_rfl) rfl (obs1 fun w' hw' => by subst hw'; exact range_new HO4.out) ⟨rfl, trivial⟩ ?_
  conv => whnf
  refine And.intro (under_of fun w' hw' => by subst hw'; exact in41_any _ _ _ _) ?_
  conv => whnf
  refine And.intro (under_of fun w' hw' => by subst hw'; exact in41_any _ _ _ _) ?_
  conv => whnf
  intro f
  conv => whnf
  refine And.intro (congrArg Value.bool (range_not x)) ?_
  conv => whnf
  intro w' hw'
  subst hw'
  cases hrg : rangeB x
  · have HV : Hid (stayE bays l x = 9) := by
      show _ = _; unfold stayE; rw [if_neg (by rw [HID.out]; decide), HF.out]; dsimp only; rw [if_pos hrg]
    clear hrg
    go_wp2_with fail
    go_ret
    exact ⟨ret_int HV.out.symm, HB4.out⟩
  have HRG := Lib.hid hrg; clear hrg
  go_upto_region 8 with fail
  have hr := rangeB_iff.1 HRG.out
  have hd1 := sideB_iff.1 HSD.out.1; have hd2 := sideB_iff.1 HSD.out.2
  refine wp_region_ev dkT dkT_ok [berO w.heap.size 0 x, bayO bb (boff + k0 * 3) (byi bays k0)] (Below w'.heap.size w') [(5, 0)] [(55, .ix k0 1), (61, .ret (.bool (decide (0 ≤ x.x) && decide (x.x ≤ (byi bays k0).len - x.len)))), (69, .ix k0 1), (75, .ret (.bool (decide (0 ≤ x.y) && decide (x.y ≤ (byi bays k0).wid - x.wid))))] [(77, .bool (!fitB (byi bays k0) x))] (by kernel_rfl) mixed (by kernel_rfl) ((Below.refl _ _).drew) (obs2 (fun v hv => rangeKeep (range_new HO4.out) hv) (fun v hv => rangeKeep (dAt_range HBC.out) hv)) ⟨rfl, trivial⟩ ?_
  conv => whnf
  refine And.intro (under_of ⟨rfl, hk0, rfl, rfl⟩) ?_
  conv => whnf
  refine And.intro (under_of (by omega)) ?_
  conv => whnf
  refine And.intro (under_of fun v hv => (in41_any _ _ _ _).mono fun e v' he => ⟨he.1, by rw [he.2]; exact hv⟩) ?_
  conv => whnf
  refine And.intro (under_of ⟨rfl, hk0, rfl, rfl⟩) ?_
  conv => whnf
  refine And.intro (under_of (by omega)) ?_
  conv => whnf
  refine And.intro (under_of fun v hv => (in41_any _ _ _ _).mono fun e v' he => ⟨he.1, by rw [he.2]; exact hv⟩) ?_
  clear hr hd1 hd2
  conv => whnf
  intro f'
  conv => whnf
  refine And.intro ?_ ?_
  · refine congrArg Value.bool ?_
    unfold fitB
    cases decide (0 ≤ x.x) <;> cases decide (0 ≤ x.y) <;> cases decide (x.x ≤ (byi bays k0).len - x.len) <;> cases decide (x.y ≤ (byi bays k0).wid - x.wid) <;> rfl
  conv => whnf
  intro w5 h5
  have HO5 := Lib.hid (HO4.out.keep h5)
  have HB5 := Lib.hid (ext_trans HB4.out h5)
  clear h5
  cases hft : fitB (byi bays k0) x
  · have HV : Hid (stayE bays l x = 18) := by
      show _ = _; unfold stayE; rw [if_neg (by rw [HID.out]; decide), HF.out]; dsimp only; rw [if_neg (by rw [HRG.out]; decide), if_pos hft]
    clear hft
    go_wp2_with fail
    go_ret
    exact ⟨ret_int HV.out.symm, HB5.out⟩
  have HFT := Lib.hid hft; clear hft
  have HV : Hid (stayE bays l x = if l.any (overB x) then 19 else 0) := by
    show _ = _; unfold stayE; rw [if_neg (by rw [HID.out]; decide), HF.out]; dsimp only; rw [if_neg (by rw [HRG.out]; decide), if_neg (by rw [HFT.out]; decide)]
  go_wp2_with fail
  go_loopw [8] (fun i wr => ∃ k : Nat, k ≤ l.length ∧ i = .int .i64 k ∧ Hid (Below w5.heap.size w5 wr) ∧ Hid (∀ j, j < k → overB x (bri l j) = false)) (fun i _ => l.length - (intOf i).toNat)
  case atStart => exact ⟨0, Nat.zero_le _, rfl, Lib.hid (Below.refl _ _), Lib.hid fun j hj => by omega⟩
  case round =>
    obtain ⟨k, hk, rfl, hbl, hf⟩ := hrel
    by_cases hlt : k < l.length
    · obtain ⟨b, off, rfl, hc⟩ := L3.out k hlt
      have HC := Lib.hid (hc.keep (ext_trans HB5.out hbl.out)); clear hc
      go_upto_region 13 with fail
      refine wp_region_ev dkT dkT_ok [berO w.heap.size 0 x, berO b (off + k * 8) (bri l k)] (Below wr.heap.size wr) [(5, 0)] [(86, .ix k 1), (89, .ret (.bool (overB (bri l k) x)))] [(89, .bool (overB (bri l k) x))] (by kernel_rfl) mixed (by kernel_rfl) ((Below.refl _ _).drew) (obs2 (fun v hv => rangeKeep (range_new (HO5.out.keep hbl.out)) hv) (fun v hv => rangeKeep (yAt_range HC.out) hv)) ⟨rfl, trivial⟩ ?_
      conv => whnf
      refine And.intro (under_of ⟨rfl, hlt, rfl, rfl⟩) ?_
      conv => whnf
      refine And.intro (Nat.le_refl 8) ?_
      conv => whnf
      refine And.intro (Nat.le_refl 8) ?_
      conv => whnf
      refine And.intro (under_of fun v hv => (Overlap_any (bri l k) x v (HS.out _ (bri_mem hlt)) (smB_of HSD.out HRG.out HFT.out)).mono fun e v' he => ⟨he.1, ext_trans hv he.2⟩) ?_
      conv => whnf
      intro f1
      conv => whnf
      refine And.intro rfl ?_
      conv => whnf
      intro w6 h6
      have HB6 := Lib.hid (ext_trans hbl.out h6)
      clear h6
      obtain ⟨ov, hov⟩ : ∃ ov, overB (bri l k) x = ov := ⟨_, rfl⟩
      have HOV : Hid (overB x (bri l k) = ov) := by show _ = _; rw [overB_symm]; exact hov
      rw [hov]
      clear hov
      cases ov
      · have HJ := Lib.hid (upto (q := fun j => overB x (bri l j) = false) hf.out HOV.out)
        go_wp2_with fail
        go_roundw
        case rel => exact ⟨k + 1, by omega, by go_num, HB6, HJ⟩
        case measure => simp [intOf]; omega
      · have HA : Hid (l.any (overB x) = true) := by show _ = _; rw [List.any_eq_true]; exact ⟨_, bri_mem hlt, HOV.out⟩
        go_wp2_with fail
        go_ret
        exact ⟨ret_int (by rw [HV.out, HA.out]; rfl), ext_trans HB5.out HB6.out⟩
    · obtain rfl : k = l.length := by omega
      have HA : Hid (l.any (overB x) = false) := by
        show _ = _; rw [List.any_eq_false]; intro y hy
        obtain ⟨j, hj, rfl⟩ := mem_bri hy
        rw [hf.out j hj]; decide
      go_wp2_with fail
      go_ret
      exact ⟨ret_int (by rw [HV.out, HA.out]; rfl), ext_trans HB5.out hbl.out⟩
end Go.Proofs.YtlmfcigabojbmaaGreatDoor

/- Contracts: Check of bay's reference. -/
namespace Go.Proofs.YtlmfcigabojbmaaGreatDoor
open Go.RowKit

theorem planE_bays' {bays : List DBay} {l : List Ber} (h : ¬ (8 < bays.length ∨ 128 < l.length)) (hb : baysE bays ≠ 0) : planE bays l = baysE bays := by unfold planE; rw [if_neg h, if_neg hb]
set_option maxRecDepth 100000 in
set_option maxHeartbeats 1000000 in
theorem rCheck_any (bv lv : Value) (bays : List DBay) (l : List Ber) (w : World) (hb : SD w bv bays) (hl : SY w lv l) (hsd : StrD bays maxLen) (hsb : StrB l 1100000) :
    Calls Tryz.prog 16 #[bv, lv] w (Ret w (.int .i64 (planE bays l))) := by
  have HB := Lib.hid hb; have HL := Lib.hid hl; have HSD := Lib.hid hsd; have HSB := Lib.hid hsb
  obtain ⟨ba, bc, rfl, b1, b2, b3⟩ := hb
  obtain ⟨la, lc, rfl, l1, l2, l3⟩ := hl
  have L3 := Lib.hid l3
  clear hsd hsb b3 l3
  unfold maxLen at b2 l2
  by_cases hlong : 8 < bays.length ∨ 128 < l.length
  · have HV := Lib.hid (planE_long hlong)
    rcases hlong with hlong | hlong
    · go_enter Tryz.func16, Tryz.ntmps16
      go_wp2_with fail
      go_ret
      exact ⟨ret_int HV.out.symm, Below.refl _ _⟩
    · by_cases h8 : 8 < bays.length
      all_goals
        go_enter Tryz.func16, Tryz.ntmps16
        go_wp2_with fail
        go_ret
        exact ⟨ret_int HV.out.symm, Below.refl _ _⟩
  have HLG := Lib.hid hlong
  have g1 : bays.length ≤ 8 := by omega
  have g2 : l.length ≤ 128 := by omega
  clear hlong
  go_enter Tryz.func16, Tryz.ntmps16
  go_wp2_with fail
  refine (floors_any _ bays _ HB.out HSD.out).mono ?_
  rintro e w1 ⟨rfl, h1⟩
  have HB1 := Lib.hid h1; clear h1
  obtain ⟨be, hbe⟩ : ∃ be, baysE bays = be := ⟨_, rfl⟩
  rw [hbe]
  by_cases hb0 : be = 0
  rotate_left
  · have HV := Lib.hid (planE_bays' HLG.out (by rw [hbe]; exact hb0))
    have HBE := Lib.hid hbe; clear hbe
    go_wp2_with fail
    go_ret
    exact ⟨ret_int (by rw [HV.out, HBE.out]), HB1.out⟩
  subst hb0
  have HF : Hid (firstE (bayE bays) bays.length = 0) := hbe
  have HSS := Lib.hid (sides_of HF.out)
  clear hbe
  go_wp2_with fail
  go_loopw [6] (fun i wr => ∃ k : Nat, k ≤ l.length ∧ i = .int .i64 k ∧ Hid (Below w.heap.size w wr) ∧ Hid (firstE (fun i => stayE bays (l.take i) (bri l i)) k = 0)) (fun i _ => l.length - (intOf i).toNat)
  case atStart => exact ⟨0, Nat.zero_le _, rfl, HB1, Lib.hid rfl⟩
  case round =>
    obtain ⟨k, hk2, rfl, hbl2, hf2⟩ := hrel
    by_cases hlt2 : k < l.length
    · obtain ⟨b, off, rfl, hc⟩ := L3.out k hlt2
      have HC := Lib.hid (hc.keep hbl2.out); clear hc
      go_upto_region 9 with fail
      refine wp_region_ev dkT dkT_ok [berO b (off + k * 8) (bri l k)] (Below wr.heap.size wr) [] [(30, .nat k), (33, .ix k 0), (35, .ret (.int .i64 (stayE bays (l.take k) (bri l k))))] [(7, .int .i64 (stayE bays (l.take k) (bri l k)))] (by kernel_rfl) mixed (by kernel_rfl) ((Below.refl _ _).drew) (obs1 fun v hv => rangeKeep (yAt_range HC.out) hv) trivial ?_
      conv => whnf
      refine And.intro (under_of ⟨rfl, by omega⟩) ?_
      conv => whnf
      refine And.intro (under_of ⟨rfl, hlt2, rfl, rfl⟩) ?_
      conv => whnf
      refine And.intro (Nat.le_refl 8) ?_
      conv => whnf
      refine And.intro (under_of fun v hv => (rstay_any _ _ bays (l.take k) (bri l k) v (HB.out.keep (ext_trans hbl2.out hv)) ((HL.out.keep (ext_trans hbl2.out hv)).take k (by omega)) (HSB.out.h _ (bri_mem hlt2)) HSS.out (small_of HSS.out hf2.out (by omega))).mono fun e v' he => ⟨he.1, ext_trans hv he.2⟩) ?_
      conv => whnf
      intro f1
      conv => whnf
      refine And.intro rfl ?_
      conv => whnf
      intro w3 h3
      have HB3 := Lib.hid (ext_trans hbl2.out h3)
      clear h3
      obtain ⟨er, her⟩ : ∃ er, stayE bays (l.take k) (bri l k) = er := ⟨_, rfl⟩
      rw [her]
      by_cases he0 : er = 0
      · have HF := Lib.hid ((firstE_zero hf2.out).trans (her.trans he0))
        subst he0
        clear her
        go_wp2_with fail
        go_roundw
        case rel => exact ⟨k + 1, by omega, by go_num, HB3, HF⟩
        case measure => simp [intOf]; omega
      · have HV := Lib.hid (planE_stays HLG.out HF.out hf2.out hlt2 (by rw [her]; exact he0))
        have HER := Lib.hid her; clear her
        go_wp2_with fail
        go_ret
        exact ⟨ret_int (by rw [HV.out, HER.out]), HB3.out⟩
    · obtain rfl : k = l.length := by omega
      have HV := Lib.hid (planE_ok HLG.out HF.out hf2.out)
      go_wp2_with fail
      go_ret
      exact ⟨ret_int HV.out.symm, hbl2.out⟩
end Go.Proofs.YtlmfcigabojbmaaGreatDoor
