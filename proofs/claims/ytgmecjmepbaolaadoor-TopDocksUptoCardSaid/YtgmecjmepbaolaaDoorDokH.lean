/- Contracts: Check of bay. -/
import Derived.Test.YtgmecjmepbaolaaDoorDokG
import Derived.Deep.RegionHeld3
set_option linter.unusedSimpArgs false
set_option linter.unusedVariables false
namespace Go.Proofs.YtgmecjmepbaolaaDoor
open Go.RowKit

theorem planE_long {bays : List DBay} {l : List Ber} (h : 8 < bays.length ∨ 128 < l.length) : planE bays l = 4 := by unfold planE; rw [if_pos h]
theorem planE_bays {bays : List DBay} {l : List Ber} (h : ¬ (8 < bays.length ∨ 128 < l.length)) {k : Nat} (hk : firstE (bayE bays) k = 0) (hl : k < bays.length) (hb : bayE bays k ≠ 0) : planE bays l = bayE bays k := by
  have h1 : baysE bays = bayE bays k := by
    unfold baysE
    rw [firstE_stop (k := k + 1) (by rw [firstE_zero hk]; exact hb) (by omega), firstE_zero hk]
  unfold planE; rw [if_neg h, h1, if_neg hb]
theorem planE_stays {bays : List DBay} {l : List Ber} (h : ¬ (8 < bays.length ∨ 128 < l.length)) (hb : firstE (bayE bays) bays.length = 0) {k : Nat} (hk : firstE (fun i => stayE bays (l.take i) (bri l i)) k = 0) (hl : k < l.length) (he : stayE bays (l.take k) (bri l k) ≠ 0) : planE bays l = stayE bays (l.take k) (bri l k) := by
  have h1 : staysE bays l = stayE bays (l.take k) (bri l k) := by
    unfold staysE
    rw [firstE_stop (k := k + 1) (by rw [firstE_zero hk]; exact he) (by omega), firstE_zero hk]
  unfold planE; rw [if_neg h, show baysE bays = 0 from hb, if_pos rfl, h1]
theorem planE_ok {bays : List DBay} {l : List Ber} (h : ¬ (8 < bays.length ∨ 128 < l.length)) (hb : firstE (bayE bays) bays.length = 0) (hk : firstE (fun i => stayE bays (l.take i) (bri l i)) l.length = 0) : planE bays l = 0 := by
  unfold planE; rw [if_neg h, show baysE bays = 0 from hb, if_pos rfl]; exact hk
theorem sides_of {bays : List DBay} (hb : firstE (bayE bays) bays.length = 0) : ∀ d ∈ bays, sideD d := by
  intro d hd
  obtain ⟨k, hk, rfl⟩ := mem_byi hd
  have := (bayE_iff _ _).1 (firstE_iff.1 hb k hk)
  unfold bayOk at this
  simp only [Bool.and_eq_true] at this
  exact ⟨this.1.2.1, this.1.2.2⟩
theorem small_of {bays : List DBay} {l : List Ber} (hb : ∀ d ∈ bays, sideD d) {k : Nat} (hk : firstE (fun i => stayE bays (l.take i) (bri l i)) k = 0) (hl : k ≤ l.length) : ∀ y ∈ l.take k, SmB y := by
  intro y hy
  obtain ⟨j, hj, rfl⟩ := mem_bri hy
  have hjk : j < k := by rw [List.length_take] at hj; omega
  obtain ⟨d, h1, h2, h3, _⟩ := stay_range ((stayE_iff _ _ _).1 (firstE_iff.1 hk j hjk))
  rw [bri_take hjk]
  exact smB_of (hb d (findD_mem h1)) h2 h3
theorem mixed : Tryd.prog.follows .mixedOrders = true := by kernel_rfl
theorem rangeKeep {w w' : World} {b off : Nat} {cs : List Value} (h : w.rangeAt b off cs) (hb : Below w.heap.size w w') : w'.rangeAt b off cs := fun j v hv => cell_keep hb (h j v hv)
structure StrD (l : List DBay) (n : Nat) : Prop where
  h : ∀ d ∈ l, d.name.length ≤ n
structure StrB (l : List Ber) (n : Nat) : Prop where
  h : ∀ x ∈ l, x.hull.length ≤ n
set_option maxRecDepth 100000 in
set_option maxHeartbeats 1000000 in
theorem Check_any (bv lv : Value) (bays : List DBay) (l : List Ber) (w : World) (hb : SD w bv bays) (hl : SY w lv l) (hm : MLen w) (hsd : StrD bays maxLen) (hsb : StrB l maxLen) :
    Calls Tryd.prog 9 #[bv, lv] w (Ret w (.int .i64 (planE bays l))) := by
  have HB := Lib.hid hb; have HL := Lib.hid hl; have HM := Lib.hid hm; have HSD := Lib.hid hsd; have HSB := Lib.hid hsb
  obtain ⟨ba, bc, rfl, b1, b2, b3⟩ := hb
  obtain ⟨la, lc, rfl, l1, l2, l3⟩ := hl
  have H3 := Lib.hid b3; have L3 := Lib.hid l3
  clear hm hsd hsb b3 l3
  unfold maxLen at b2 l2
  by_cases hlong : 8 < bays.length ∨ 128 < l.length
  · have HV := Lib.hid (planE_long hlong)
    rcases hlong with hlong | hlong
    · go_enter Tryd.func9, Tryd.ntmps9
      go_wp2_with fail
      go_ret
      exact ⟨ret_int HV.out.symm, Below.refl _ _⟩
    · by_cases h8 : 8 < bays.length
      all_goals
        go_enter Tryd.func9, Tryd.ntmps9
        go_wp2_with fail
        go_ret
        exact ⟨ret_int HV.out.symm, Below.refl _ _⟩
  have HLG := Lib.hid hlong
  have g1 : bays.length ≤ 8 := by omega
  have g2 : l.length ≤ 128 := by omega
  clear hlong
  go_enter Tryd.func9, Tryd.ntmps9
  go_wp2_with fail
  go_loopw [22] (fun i wr => ∃ k : Nat, k ≤ bays.length ∧ i = .int .i64 k ∧ Hid (Below w.heap.size w wr) ∧ Hid (firstE (bayE bays) k = 0)) (fun i _ => bays.length - (intOf i).toNat)
  case atStart => exact ⟨0, Nat.zero_le _, rfl, Lib.hid (Below.refl _ _), Lib.hid rfl⟩
  case round =>
    obtain ⟨k, hk, rfl, hbl, hf⟩ := hrel
    by_cases hlt : k < bays.length
    · obtain ⟨b, off, rfl, hc⟩ := H3.out k hlt
      obtain ⟨c0, c1, c2⟩ := hc.keep hbl.out
      obtain ⟨W1, hW1⟩ : ∃ W1, W1 = wr.alloc (.cells (dyA (byi bays k)) 53) := ⟨_, rfl⟩
      have HO1 : Hid (ObjAt W1 wr.heap.size (dyA (byi bays k)) 53) := by rw [hW1]; exact ObjAt.new _ _ _
      have HB1 : Hid (Below w.heap.size w W1) := by rw [hW1]; exact hbl.out.alloc hbl.out.size _
      have HW : Hid (wr.alloc (.cells #[.string (bs (byi bays k).name), .int .i64 (byi bays k).len, .int .i64 (byi bays k).wid] 53) = W1) := by rw [hW1]; rfl
      clear hW1 hc
      go_wp2_with fail
      rw [HW.out]
      clear c0 c1 c2 HW
      refine (IsName_any _ _ (by rw [bs_size]; exact HSD.out.h _ (byi_mem hlt))).mono ?_
      rintro e W2 ⟨rfl, h2⟩
      rw [bs_list]
      have HO2 := Lib.hid (HO1.out.keep h2)
      have HB2 := Lib.hid (ext_trans HB1.out h2)
      clear h2
      cases hnm : nameB (byi bays k).name
      · have HE : Hid (bayE bays k = 6) := by show _ = _; unfold bayE; rw [if_pos hnm]
        have HV := Lib.hid (planE_bays (l := l) HLG.out hf.out hlt (by rw [HE.out]; decide))
        clear hnm
        go_wp2_with fail
        go_ret
        exact ⟨ret_int (by rw [HV.out, HE.out]), HB2.out⟩
      have HNM := Lib.hid hnm; clear hnm
      go_upto_region 8 with fail
      refine wp_region_et dkT dkT_ok [bayO wr.heap.size 0 (byi bays k)] (fun w' => w' = W2) [(6, 0)] [(33, .ret (.bool (sideB (byi bays k).len))), (38, .ret (.bool (sideB (byi bays k).wid)))] [(40, .bool (!(sideB (byi bays k).len && sideB (byi bays k).wid)))] (by kernel_rfl) rfl (obs1 fun w' hw' => by subst hw'; exact range_new HO2.out) ⟨rfl, trivial⟩ ?_
      conv => whnf
      refine And.intro (under_of fun w' hw' => by subst hw'; exact side_any _ _) ?_
      conv => whnf
      refine And.intro (under_of fun w' hw' => by subst hw'; exact side_any _ _) ?_
      conv => whnf
      intro f
      conv => whnf
      refine And.intro ?_ ?_
      · congr 1
        cases sideB (byi bays k).len <;> cases sideB (byi bays k).wid <;> rfl
      conv => whnf
      intro w' hw'
      subst hw'
      cases hsd : (sideB (byi bays k).len && sideB (byi bays k).wid)
      · have HE : Hid (bayE bays k = 9) := by show _ = _; unfold bayE; rw [if_neg (by rw [HNM.out]; decide), if_pos hsd]
        have HV := Lib.hid (planE_bays (l := l) HLG.out hf.out hlt (by rw [HE.out]; decide))
        clear hsd
        go_wp2_with fail
        go_ret
        exact ⟨ret_int (by rw [HV.out, HE.out]), HB2.out⟩
      have HSI := Lib.hid hsd; clear hsd
      go_upto_region 10 with fail
      have HT := Lib.hid ((HB.out.keep HB2.out).take k (by omega))
      refine wp_region_as dkT dkT_ok [bayO wr.heap.size 0 (byi bays k)] [(6, 0)] [(44, .nat k), (47, .ret (fdV (bays.take k) (byi bays k).name))] [(8, .bool (findD (bays.take k) (byi bays k).name).isSome)] 9 10 7 48 53 (dyA default) (dyA ((findD (bays.take k) (byi bays k).name).getD default)) (by kernel_rfl) mixed (by kernel_rfl) rfl ⟨_, rfl, rfl, rfl⟩ ⟨_, rfl, rfl, rfl, ⟨9, .data⟩, by simp, rfl, rfl⟩ alloc_Bay info_Bay rfl (one_bay _) (obs1 fun v hv => rangeKeep (range_new HO2.out) hv) ⟨rfl, trivial⟩ ?_
      conv => whnf
      refine And.intro (under_of ⟨rfl, by omega⟩) ?_
      conv => whnf
      refine And.intro (under_of fun v hv => find_any _ _ _ v (HT.out.keep hv)) ?_
      conv => whnf
      refine And.intro rfl ?_
      intro f1 nb
      conv => whnf
      refine And.intro rfl ?_
      conv => whnf
      intro w3 h3 _ _
      have HB3 := Lib.hid (ext_trans HB2.out h3)
      clear h3
      have HX : Hid ((findD (bays.take k) (byi bays k).name).isSome = (bays.take k).any (fun c => c.name == (byi bays k).name)) := by
        show _ = _; unfold findD; rw [Bool.eq_iff_iff, List.find?_isSome, List.any_eq_true]
      obtain ⟨ex, hex⟩ : ∃ ex, (bays.take k).any (fun c => c.name == (byi bays k).name) = ex := ⟨_, rfl⟩
      rw [HX.out, hex]
      have HE : Hid (bayE bays k = if ex then 7 else 0) := by
        show _ = _; unfold bayE; rw [if_neg (by rw [HNM.out]; decide), if_neg (by rw [HSI.out]; decide), hex]
      clear hex
      cases ex
      · have HF := Lib.hid ((firstE_zero hf.out).trans HE.out)
        go_wp2_with fail
        go_roundw
        case rel => exact ⟨k + 1, by omega, by go_num, HB3, HF⟩
        case measure => simp [intOf]; omega
      · have HV := Lib.hid (planE_bays (l := l) HLG.out hf.out hlt (by rw [HE.out]; decide))
        go_wp2_with fail
        go_ret
        exact ⟨ret_int (by rw [HV.out, HE.out]; rfl), HB3.out⟩
    · obtain rfl : k = bays.length := by omega
      have HSS := Lib.hid (sides_of hf.out)
      go_wp2_with fail
      go_loopw [54] (fun i wr => ∃ k : Nat, k ≤ l.length ∧ i = .int .i64 k ∧ Hid (Below w.heap.size w wr) ∧ Hid (firstE (fun i => stayE bays (l.take i) (bri l i)) k = 0)) (fun i _ => l.length - (intOf i).toNat)
      case atStart => exact ⟨0, Nat.zero_le _, rfl, hbl, Lib.hid rfl⟩
      case round =>
        obtain ⟨k, hk2, rfl, hbl2, hf2⟩ := hrel
        by_cases hlt2 : k < l.length
        · obtain ⟨b, off, rfl, hc⟩ := L3.out k hlt2
          obtain ⟨c0, c1, c2, c3, c4, c5, c6, c7⟩ := hc.keep hbl2.out
          obtain ⟨W1, hW1⟩ : ∃ W1, W1 = wr.alloc (.cells (syCs (bri l k)) 40) := ⟨_, rfl⟩
          have HO1 : Hid (ObjAt W1 wr.heap.size (syCs (bri l k)) 40) := by rw [hW1]; exact ObjAt.new _ _ _
          have HB1 : Hid (Below w.heap.size w W1) := by rw [hW1]; exact hbl2.out.alloc hbl2.out.size _
          have HW : Hid (wr.alloc (.cells #[.string (bs (bri l k).hull), .string (bs (bri l k).dock), .int .i64 (bri l k).x, .int .i64 (bri l k).y, .int .i64 (bri l k).len, .int .i64 (bri l k).wid, .int .i64 (bri l k).a, .int .i64 (bri l k).b] 40) = W1) := by rw [hW1]; rfl
          clear hW1 hc
          go_upto_region 17 with fail
          rw [HW.out]
          clear c0 c1 c2 c3 c4 c5 c6 c7 HW
          refine wp_region_ev dkT dkT_ok [berO wr.heap.size 0 (bri l k)] (Below W1.heap.size W1) [(10, 0)] [(62, .nat k), (64, .ret (.int .i64 (stayE bays (l.take k) (bri l k))))] [(11, .int .i64 (stayE bays (l.take k) (bri l k)))] (by kernel_rfl) mixed (by kernel_rfl) ((Below.refl _ _).drew) (obs1 fun v hv => rangeKeep (range_new HO1.out) hv) ⟨rfl, trivial⟩ ?_
          conv => whnf
          refine And.intro (under_of ⟨rfl, by omega⟩) ?_
          conv => whnf
          refine And.intro (Nat.le_refl 8) ?_
          conv => whnf
          refine And.intro (under_of fun v hv => (stay_any _ _ bays (l.take k) (bri l k) v (HB.out.keep (ext_trans HB1.out hv)) ((HL.out.keep (ext_trans HB1.out hv)).take k (by omega)) (HM.out.keep (ext_trans HB1.out hv)) (HSB.out.h _ (bri_mem hlt2)) HSS.out (small_of HSS.out hf2.out (by omega))).mono fun e v' he => ⟨he.1, ext_trans hv he.2⟩) ?_
          conv => whnf
          intro f1
          conv => whnf
          refine And.intro rfl ?_
          conv => whnf
          intro w3 h3
          have HB3 := Lib.hid (ext_trans HB1.out h3)
          clear h3
          obtain ⟨er, her⟩ : ∃ er, stayE bays (l.take k) (bri l k) = er := ⟨_, rfl⟩
          rw [her]
          by_cases he0 : er = 0
          · have HF := Lib.hid ((firstE_zero hf2.out).trans (her.trans he0))
            subst he0
            clear her
            go_wp2_with fail
            go_roundw
            case rel => exact ⟨k + 1, by omega, by go_num, HB3, HF⟩
            case measure => simp [intOf]; omega
          · have HV := Lib.hid (planE_stays HLG.out hf.out hf2.out hlt2 (by rw [her]; exact he0))
            have HER := Lib.hid her; clear her
            go_wp2_with fail
            go_ret
            exact ⟨ret_int (by rw [HV.out, HER.out]), HB3.out⟩
        · obtain rfl : k = l.length := by omega
          have HV := Lib.hid (planE_ok HLG.out hf.out hf2.out)
          go_wp2_with fail
          go_ret
          exact ⟨ret_int HV.out.symm, hbl2.out⟩
end Go.Proofs.YtgmecjmepbaolaaDoor
