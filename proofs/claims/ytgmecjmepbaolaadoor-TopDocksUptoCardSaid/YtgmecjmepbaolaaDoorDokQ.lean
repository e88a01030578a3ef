/- Contract: Fit of dock. -/
import Derived.Test.YtgmecjmepbaolaaDoorDokP
set_option linter.unusedSimpArgs false
set_option linter.unusedVariables false
namespace Go.Proofs.YtgmecjmepbaolaaDoor
open Go.RowKit

theorem from_any (n a b : Int) (w : World) : Calls Tryd.prog 20 #[.int .i64 n, .int .i64 a, .int .i64 b] w fun e w' => e = .returned (.bool (decide (a ≤ n) && decide (n ≤ b))) ∧ w' = w := by
  obtain ⟨c1, h1⟩ : ∃ c, decide (a ≤ n) = c := ⟨_, rfl⟩
  obtain ⟨c2, h2⟩ : ∃ c, decide (n ≤ b) = c := ⟨_, rfl⟩
  have HV : Hid ((decide (a ≤ n) && decide (n ≤ b)) = (c1 && c2)) := by show _ = _; rw [h1, h2]
  cases c1 <;> cases c2
  all_goals
    go_enter Tryd.func20, Tryd.ntmps20
    go_wp2_with fail
    go_ret
    exact ⟨ret_bool HV.out.symm, rfl⟩
/-- sizes and times that can be asked for -/
def askB (x : Ber) (hours : Int) : Bool := sideB x.len && sideB x.wid && (decide (1 ≤ hours) && decide (hours ≤ 1048576)) && (decide (0 ≤ x.a) && decide (x.a ≤ 1048576))
/-- there is a place in dock d from s on -/
def FoundP (l : List Ber) (x : Ber) (hours : Int) (s : Int) (d : DBay) (e X Y : Int) : Prop := e ∈ endsL l (s + hours) ∧ e ≤ 1048576 ∧ PlaceP d l (mkBer x.hull d x.len x.wid s e) X Y
def FitV (docks : List DBay) (l : List Ber) (x : Ber) (hours : Int) (v : Value) : Prop :=
  if idB x.hull = false then v = .tuple #[.agg (syCs default), .int .i64 6] else if l.any (fun u => u.hull == x.hull) = true then v = .tuple #[.agg (syCs default), .int .i64 7] else
  if askB x hours = false then v = .tuple #[.agg (syCs default), .int .i64 9] else
  (∃ s ∈ endsL l x.a, ∃ d ∈ docks, ∃ e X Y, FoundP l x hours s d e X Y ∧ v = .tuple #[.agg (syCs ((mkBer x.hull d x.len x.wid s e).put X Y)), .int .i64 0]) ∨
  ((∀ s ∈ endsL l x.a, ∀ d ∈ docks, ∀ e X Y, ¬ FoundP l x hours s d e X Y) ∧ v = .tuple #[.agg (syCs default), .int .i64 18])
theorem copyD (w : World) (x : DBay) : ∃ W1, Hid (ObjAt W1 w.heap.size (dyA x) 53) ∧ Hid (Below w.heap.size w W1) ∧ Hid (w.alloc (.cells #[.string (bs x.name), .int .i64 x.len, .int .i64 x.wid] 53) = W1) ∧ Hid (w.heap.size < W1.heap.size) :=
  ⟨w.alloc (.cells (dyA x) 53), ObjAt.new _ _ _, (Below.refl _ _).alloc (Nat.le_refl _) _, rfl, by show _ < _; simp⟩
theorem dyC {w : World} {b : Nat} {x : DBay} {e : TypeId} (h : ObjAt w b (dyA x) e) : w.cell? ⟨b, 0, none⟩ = some (.string (bs x.name)) ∧ w.cell? ⟨b, 1, none⟩ = some (.int .i64 x.len) ∧ w.cell? ⟨b, 2, none⟩ = some (.int .i64 x.wid) := ⟨h.cell 0, h.cell 1, h.cell 2⟩
theorem start_fit (w : World) (x : Ber) : ∃ W0, Hid (ObjAt W0 w.heap.size (syCs x) 29) ∧ Hid (ObjAt W0 (w.heap.size + 1) (syCs default) 29) ∧ Hid (Below w.heap.size w W0) ∧ Hid (W0.heap.size = w.heap.size + 2) ∧
    Hid ((w.alloc (.cells #[.string (bs x.hull), .string (bs x.dock), .int .i64 x.x, .int .i64 x.y, .int .i64 x.len, .int .i64 x.wid, .int .i64 x.a, .int .i64 x.b] 29)).alloc
      (.cells #[.string ⟨#[]⟩, .string ⟨#[]⟩, .int .i64 0, .int .i64 0, .int .i64 0, .int .i64 0, .int .i64 0, .int .i64 0] 29) = W0) :=
  ⟨(w.alloc (.cells (syCs x) 29)).alloc (.cells (syCs default) 29), (obj_two w (syCs x) (syCs default) 29 29).1, (obj_two w (syCs x) (syCs default) 29 29).2,
    (((Below.refl _ _).alloc (Nat.le_refl _) _).alloc (by simp) _), by show _ = _; simp, rfl⟩
theorem tiB_of {docks : List DBay} {l : List Ber} (h : planOk docks l = true) (hs : ∀ d ∈ docks, sideD d) : ∀ u ∈ l, TiB u := by
  intro u hu
  obtain ⟨d, h1, h2, h3⟩ := plan_stay h hu
  have h4 := hs d (findD_mem h1)
  have h5 := rangeB_iff.1 h2; have h6 := fitB_iff.1 h3
  have h7 := sideB_iff.1 h4.1; have h8 := sideB_iff.1 h4.2
  constructor <;> omega
theorem ask_iff {x : Ber} {hours : Int} : askB x hours = true ↔ (1 ≤ x.len ∧ x.len ≤ 524288) ∧ (1 ≤ x.wid ∧ x.wid ≤ 524288) ∧ (1 ≤ hours ∧ hours ≤ 1048576) ∧ (0 ≤ x.a ∧ x.a ≤ 1048576) := by
  unfold askB; simp only [Bool.and_eq_true, sideB_iff, decide_eq_true_eq, and_assoc]
theorem sides_plan {docks : List DBay} {l : List Ber} (h : planOk docks l = true) : ∀ d ∈ docks, sideD d := by
  intro d hd
  obtain ⟨k, hk, rfl⟩ := mem_byi hd
  unfold planOk at h
  simp only [Bool.and_eq_true, List.all_eq_true] at h
  have := h.1.2 k (List.mem_range.2 hk)
  unfold bayOk at this
  simp only [Bool.and_eq_true] at this
  exact ⟨this.1.2.1, this.1.2.2⟩
theorem starts_small {docks : List DBay} {l : List Ber} {a t : Int} (h : planOk docks l = true) (ha : 0 ≤ a ∧ a ≤ 1048576) (ht : t ∈ endsL l a) : 0 ≤ t ∧ t ≤ 1048576 := by
  unfold endsL at ht
  rw [List.mem_cons, List.mem_map] at ht
  rcases ht with rfl | ⟨u, hu, rfl⟩
  · exact ha
  · obtain ⟨d, _, h2, _⟩ := plan_stay h (List.mem_filter.1 hu).1
    have := rangeB_iff.1 h2
    omega
theorem ask_not (x : Ber) (hours : Int) : ((((!(decide (1 ≤ x.len) && decide (x.len ≤ 524288)) || !(decide (1 ≤ x.wid) && decide (x.wid ≤ 524288))) || !(decide (1 ≤ hours) && decide (hours ≤ 1048576))) || !(decide (0 ≤ x.a) && decide (x.a ≤ 1048576)))) = !askB x hours := by
  unfold askB sideB; simp only [Bool.not_and]
set_option maxRecDepth 100000 in
set_option maxHeartbeats 2000000 in
theorem dFit_any (dv lv : Value) (docks : List DBay) (l : List Ber) (x : Ber) (hours : Int) (w : World) (hd : SD w dv docks) (hl : SB w lv l) (hm : MLen w) (hsd : StrD docks maxLen) (hsb : StrB l maxLen) (hx : x.hull.length ≤ maxLen) (hn : l.length ≤ 8) (hok : dokE docks l = 0) (hdn : docks.length ≤ 3) :
    Calls Tryd.prog 7 #[dv, lv, syV x, .int .i64 hours] w (RetP w (FitV docks l x hours)) := by
  have HD := Lib.hid hd; have HL := Lib.hid hl; have HM := Lib.hid hm; have HSD := Lib.hid hsd; have HSB := Lib.hid hsb; have HX := Lib.hid hx; have HOK := Lib.hid hok
  obtain ⟨da, dc, rfl, d1, d2, d3⟩ := hd
  obtain ⟨la, lc, rfl, l1, l2, l3⟩ := hl
  have D3 := Lib.hid d3
  clear hm hsd hsb d3 l3 hx hok
  unfold maxLen at d2 l2
  have HFV : Hid (∀ v, FitV docks l x hours v ↔ (if idB x.hull = false then v = .tuple #[.agg (syCs default), .int .i64 6] else if l.any (fun u => u.hull == x.hull) = true then v = .tuple #[.agg (syCs default), .int .i64 7] else
  if askB x hours = false then v = .tuple #[.agg (syCs default), .int .i64 9] else
  (∃ s ∈ endsL l x.a, ∃ d ∈ docks, ∃ e X Y, FoundP l x hours s d e X Y ∧ v = .tuple #[.agg (syCs ((mkBer x.hull d x.len x.wid s e).put X Y)), .int .i64 0]) ∨
  ((∀ s ∈ endsL l x.a, ∀ d ∈ docks, ∀ e X Y, ¬ FoundP l x hours s d e X Y) ∧ v = .tuple #[.agg (syCs default), .int .i64 18]))) := fun v => Iff.rfl
  obtain ⟨W0, HX0, HR0, HB0, HZ0, HW⟩ := start_fit w x
  unfold syV
  go_enter Tryd.func7, Tryd.ntmps7
  go_wp2_with fail
  rw [HW.out]
  clear HW
  refine (dCheck_any _ _ docks l W0 (HD.out.keep HB0.out) (HL.out.keep HB0.out) (HM.out.keep HB0.out) HSD.out HSB.out (by omega)).mono ?_
  rintro e w1 ⟨rfl, h1⟩
  rw [HOK.out]
  have HB1 := Lib.hid (ext_trans HB0.out h1)
  have HX1 := Lib.hid (HX0.out.keep h1)
  have HR1 := Lib.hid (HR0.out.keep h1)
  clear h1 HX0 HR0
  have p0 := (syC HX1.out).c0
  go_wp2_with fail
  clear p0
  refine (IsId_any _ _ (by rw [bs_size]; exact HX.out) (HM.out.keep HB1.out)).mono ?_
  rintro e w2 ⟨rfl, h2⟩
  rw [bs_list]
  have HB2 := Lib.hid (ext_trans HB1.out h2)
  have HX2 := Lib.hid (HX1.out.keep h2)
  have HR2 := Lib.hid (HR1.out.keep h2)
  clear h2 HX1 HR1
  cases hid : idB x.hull
  · have HV : Hid (FitV docks l x hours (.tuple #[.agg (syCs default), .int .i64 6])) := by show FitV _ _ _ _ _; unfold FitV; rw [if_pos hid]
    clear hid HFV
    go_wp2_with (refine wpList_store_row (o := ⟨none, .store _ _ _, _, _, _, _⟩) rfl 29 (.tmp 8) (.tmp 32) rfl (w.heap.size + 1) (syCs default) rfl rfl 29 _ HR2.out info_Berth rfl (one_ber _) ?_)
    refine bodyPost_ret (v := .tuple #[.agg (syCs default), .int .i64 6]) (results_two Tryd.results7 rfl rfl (load_Ber (setRow_heap _ _ _ _ _ _ HR2.out))) rfl ⟨_, rfl, HV.out, below_setRow HB2.out (by omega) _⟩
  have HID := Lib.hid hid; clear hid
  go_wp2_with fail
  refine (containsFunc_B (.func (.func 19) #[] #[.pointer (some ⟨w.heap.size, 0, none⟩)]) _ (fun _ => True) (fun u => u.hull == x.hull) l w2 (HL.out.keep HB2.out) (fun _ _ => trivial) ⟨_, _, rfl, enter_hullF, fun y w4 _ hb4 => hullF_any y x _ w4 (syC (HX2.out.keep hb4)).c0⟩).mono ?_
  rintro e w3 ⟨rfl, h3⟩
  have HB3 := Lib.hid (ext_trans HB2.out h3)
  have HX3 := Lib.hid (HX2.out.keep h3)
  have HR3 := Lib.hid (HR2.out.keep h3)
  clear h3 HX2 HR2
  obtain ⟨ex, hex⟩ : ∃ ex, l.any (fun u => u.hull == x.hull) = ex := ⟨_, rfl⟩
  rw [hex]
  have HEX := Lib.hid hex; clear hex
  cases ex
  rotate_left
  · have HV : Hid (FitV docks l x hours (.tuple #[.agg (syCs default), .int .i64 7])) := by show FitV _ _ _ _ _; rw [HFV.out, if_neg (by rw [HID.out]; decide), if_pos HEX.out]
    clear HFV HEX
    go_wp2_with (refine wpList_store_row (o := ⟨none, .store _ _ _, _, _, _, _⟩) rfl 29 (.tmp 8) (.tmp 37) rfl (w.heap.size + 1) (syCs default) rfl rfl 29 _ HR3.out info_Berth rfl (one_ber _) ?_)
    refine bodyPost_ret (v := .tuple #[.agg (syCs default), .int .i64 7]) (results_two Tryd.results7 rfl rfl (load_Ber (setRow_heap _ _ _ _ _ _ HR3.out))) rfl ⟨_, rfl, HV.out, below_setRow HB3.out (by omega) _⟩
  go_upto_region 8 with fail
  refine wp_region_et dkT dkT_ok [berO w.heap.size 0 x] (fun w' => w' = w3) [(6, 0)] [(41, .ret (.bool (decide (1 ≤ x.len) && decide (x.len ≤ 524288)))), (46, .ret (.bool (decide (1 ≤ x.wid) && decide (x.wid ≤ 524288)))), (51, .ret (.bool (decide (1 ≤ hours) && decide (hours ≤ 1048576)))), (58, .ret (.bool (decide (0 ≤ x.a) && decide (x.a ≤ 1048576))))] [(38, .bool (!askB x hours))] (by kernel_rfl) rfl (obs1 fun w' hw' => by subst hw'; exact range_new HX3.out) ⟨rfl, trivial⟩ ?_
  conv => whnf
  refine And.intro (under_of fun w' hw' => by subst hw'; exact from_any _ _ _ _) ?_
  conv => whnf
  refine And.intro (under_of fun w' hw' => by subst hw'; exact from_any _ _ _ _) ?_
  conv => whnf
  refine And.intro (under_of fun w' hw' => by subst hw'; exact from_any _ _ _ _) ?_
  conv => whnf
  refine And.intro (under_of fun w' hw' => by subst hw'; exact from_any _ _ _ _) ?_
  conv => whnf
  intro f
  conv => whnf
  refine And.intro (congrArg Value.bool (ask_not x hours)) ?_
  conv => whnf
  intro w' hw'
  subst hw'
  obtain ⟨ak, hak⟩ : ∃ ak, askB x hours = ak := ⟨_, rfl⟩
  rw [hak]
  have HAK := Lib.hid hak; clear hak
  cases ak
  · have HV : Hid (FitV docks l x hours (.tuple #[.agg (syCs default), .int .i64 9])) := by show FitV _ _ _ _ _; rw [HFV.out, if_neg (by rw [HID.out]; decide), if_neg (by rw [HEX.out]; decide), if_pos HAK.out]
    clear HFV HEX
    go_wp2_with (refine wpList_store_row (o := ⟨none, .store _ _ _, _, _, _, _⟩) rfl 29 (.tmp 8) (.tmp 61) rfl (w.heap.size + 1) (syCs default) rfl rfl 29 _ HR3.out info_Berth rfl (one_ber _) ?_)
    refine bodyPost_ret (v := .tuple #[.agg (syCs default), .int .i64 9]) (results_two Tryd.results7 rfl rfl (load_Ber (setRow_heap _ _ _ _ _ _ HR3.out))) rfl ⟨_, rfl, HV.out, below_setRow HB3.out (by omega) _⟩
  have HFV2 : Hid (∀ v, FitV docks l x hours v ↔ ((∃ s ∈ endsL l x.a, ∃ d ∈ docks, ∃ e X Y, FoundP l x hours s d e X Y ∧ v = .tuple #[.agg (syCs ((mkBer x.hull d x.len x.wid s e).put X Y)), .int .i64 0]) ∨
  ((∀ s ∈ endsL l x.a, ∀ d ∈ docks, ∀ e X Y, ¬ FoundP l x hours s d e X Y) ∧ v = .tuple #[.agg (syCs default), .int .i64 18]))) := fun v => by
    rw [HFV.out, if_neg (by rw [HID.out]; decide), if_neg (by rw [HEX.out]; decide), if_neg (by rw [HAK.out]; decide)]
  clear HFV
  have q6 := (syC HX3.out).c6
  have i0 : ¬ (128 : Int) ≤ l.length := by omega
  go_wp2_with fail
  clear q6 i0
  refine (starts_any _ l x.a _ (HL.out.keep HB3.out) (by omega)).mono ?_
  rintro e w4 ⟨tv, rfl, ht4, h4⟩
  have HB4 := Lib.hid (ext_trans HB3.out h4)
  have HX4 := Lib.hid (HX3.out.keep h4)
  have HR4 := Lib.hid (HR3.out.keep h4)
  have HTM := Lib.hid (fun t => (retTs_mem (zs := endsL l x.a) (t := t)))
  obtain ⟨ts, hts⟩ : ∃ ts, Lib.compact (sortL (endsL l x.a)) = ts := ⟨_, rfl⟩
  rw [hts] at ht4 HTM
  have HT4 := Lib.hid ht4
  obtain ⟨ta, tc, rfl, t1, t2, t3⟩ := ht4
  have T3 := Lib.hid t3
  clear h4 t3 HX3 HR3 hts
  unfold maxLen at t2
  have HTI := Lib.hid (tiB_of (dok_plan ((dokE_iff docks l).1 HOK.out)) (sides_plan (dok_plan ((dokE_iff docks l).1 HOK.out))))
  have HSR : Hid (∀ k, k < ts.length → 0 ≤ gi ts k ∧ gi ts k ≤ 1048576) := fun k hk => starts_small (dok_plan ((dokE_iff docks l).1 HOK.out)) (ask_iff.1 HAK.out).2.2.2 ((HTM.out _).1 (gi_mem hk))
  have HHR := Lib.hid (ask_iff.1 HAK.out)
  have hm1 : ts.length ≤ 9223372036854775807 := by omega
  go_wp2_with fail
  go_loopw [73] (fun i wr => ∃ k : Nat, k ≤ ts.length ∧ i = .int .i64 k ∧ Hid (Below w4.heap.size w4 wr) ∧ Hid (∀ j, j < k → ∀ d ∈ docks, ∀ e X Y, ¬ FoundP l x hours (gi ts j) d e X Y)) (fun i _ => ts.length - (intOf i).toNat)
  case atStart => exact ⟨0, Nat.zero_le _, rfl, Lib.hid (Below.refl _ _), Lib.hid fun j hj => by omega⟩
  case round =>
    obtain ⟨k, hk, rfl, hb1, hf1⟩ := hrel
    by_cases hlt : k < ts.length
    · obtain ⟨tb, tof, rfl, hc⟩ := T3.out k hlt
      have hcc := cell_keep hb1.out hc
      clear hc
      go_wp2_with fail
      go_loopw [79] (fun i wr => ∃ m : Nat, m ≤ docks.length ∧ i = .int .i64 m ∧ Hid (Below w4.heap.size w4 wr) ∧ Hid (∀ j, j < m → ∀ e X Y, ¬ FoundP l x hours (gi ts k) (byi docks j) e X Y)) (fun i _ => docks.length - (intOf i).toNat)
      case atStart => exact ⟨0, Nat.zero_le _, rfl, hb1, Lib.hid fun j hj => by omega⟩
      case round =>
        clear hcc
        obtain ⟨m, hm, rfl, hb2, hf2⟩ := hrel
        by_cases hlt2 : m < docks.length
        · obtain ⟨db, do_, rfl, hc⟩ := D3.out m hlt2
          obtain ⟨c0, c1, c2⟩ := hc.keep (ext_trans HB4.out hb2.out)
          clear hc
          have hsr := HSR.out k hlt
          have hhr := HHR.out.2.2.1
          obtain ⟨W1, HDO, HC1, HW, _⟩ := copyD wr (byi docks m)
          have HB5 := Lib.hid (ext_trans hb2.out HC1.out)
          go_wp2_with fail
          rw [HW.out]
          clear c0 c1 c2 HW
          refine (starts_any _ l (gi ts k + hours) _ (HL.out.keep (ext_trans HB4.out HB5.out)) (by omega)).mono ?_
          rintro e w5 ⟨ev, rfl, he5, h5⟩
          have HB6 := Lib.hid (ext_trans HB5.out h5)
          have HD5 := Lib.hid (HDO.out.keep h5)
          have HEM := Lib.hid (fun t => (retTs_mem (zs := endsL l (gi ts k + hours)) (t := t)))
          obtain ⟨es, hes⟩ : ∃ es, Lib.compact (sortL (endsL l (gi ts k + hours))) = es := ⟨_, rfl⟩
          rw [hes] at he5 HEM
          obtain ⟨ea, ec, rfl, e1, e2, e3⟩ := he5
          have E3 := Lib.hid e3
          have HX5 := Lib.hid (HX4.out.keep HB6.out)
          have HR5 := Lib.hid (HR4.out.keep HB6.out)
          clear h5 e3 hes HDO HC1 HB5 hb1 hb2
          unfold maxLen at e2
          have hm2 : es.length ≤ 9223372036854775807 := by omega
          go_wp2_with fail
          go_loopw [89] (fun i wr => ∃ n : Nat, n ≤ es.length ∧ i = .int .i64 n ∧ Hid (Below w5.heap.size w5 wr) ∧ Hid (∀ j, j < n → ∀ X Y, ¬ FoundP l x hours (gi ts k) (byi docks m) (gi es j) X Y)) (fun i _ => es.length - (intOf i).toNat)
          case atStart => exact ⟨0, Nat.zero_le _, rfl, Lib.hid (Below.refl _ _), Lib.hid fun j hj => by omega⟩
          case round =>
            obtain ⟨n, hn3, rfl, hb3, hf3⟩ := hrel
            by_cases hlt3 : n < es.length
            · obtain ⟨eb, eof, rfl, hc⟩ := E3.out n hlt3
              have hcc := cell_keep hb3.out hc
              have HX6 := Lib.hid (HX5.out.keep hb3.out)
              have HD6 := Lib.hid (HD5.out.keep hb3.out)
              obtain ⟨W6, HY6, HC6, HW, _⟩ := copyB wr (mkBer x.hull (byi docks m) x.len x.wid (gi ts k) (gi es n))
              obtain ⟨c0, c1, c2, c3, c4, c5, c6, c7⟩ := syC HX6.out
              obtain ⟨d0, d1, d2⟩ := dyC HD6.out
              clear hc
              go_upto_region 22 with fail
              rw [show wr.alloc (.cells #[.string (bs x.hull), .string (bs (byi docks m).name), .int .i64 0, .int .i64 0, .int .i64 x.len, .int .i64 x.wid, .int .i64 (gi ts k), .int .i64 (gi es n)] 29) = W6 from HW.out]
              clear c0 c1 c2 c3 c4 c5 c6 c7 d0 d1 d2 HW hcc
              have HB8 := Lib.hid (ext_trans HB6.out (ext_trans hb3.out HC6.out))
              have HW8 : Hid (Below w5.heap.size w5 W6) := ext_trans hb3.out HC6.out
              have HD8 := Lib.hid (HD6.out.keep HC6.out)
              clear HX6 HD6 HC6 hb3
              by_cases hbig : 1048576 < gi es n
              · have HJ := Lib.hid (upto (q := fun j => ∀ X Y, ¬ FoundP l x hours (gi ts k) (byi docks m) (gi es j) X Y) hf3.out (fun X Y hfo => by have := hfo.2.1; omega))
                go_wp2_with fail
                go_roundw
                case rel => exact ⟨n + 1, by omega, by go_num, HW8, HJ⟩
                case measure => simp [intOf]; omega
              obtain ⟨z, hz⟩ : ∃ z, mkBer x.hull (byi docks m) x.len x.wid (gi ts k) (gi es n) = z := ⟨_, rfl⟩
              rw [hz] at HY6
              have HZ := Lib.hid hz; clear hz
              have HSL := Lib.hid (sideB_iff.2 HHR.out.1)
              have HSW := Lib.hid (sideB_iff.2 HHR.out.2.1)
              obtain ⟨c0, c1, c2, c3, c4, c5, c6, c7⟩ := syC HY6.out
              obtain ⟨d0, d1, d2⟩ := dyC HD8.out
              go_wp2_with fail
              clear c0 c1 c2 c3 c4 c5 c6 c7 d0 d1 d2
              have g1 : z.len = x.len := by rw [← HZ.out]; rfl
              have g2 : z.wid = x.wid := by rw [← HZ.out]; rfl
              have g3 : z.dock = (byi docks m).name := by rw [← HZ.out]; rfl
              refine (place_any _ (byi docks m) l z W6 (HL.out.keep (ext_trans HB4.out HB8.out)) (by omega) HTI.out (by rw [g1]; exact HSL.out) (by rw [g2]; exact HSW.out) g3).mono ?_
              clear g1 g2 g3
              rintro e w7 ⟨pv, rfl, hpv, h7⟩
              have HB9 := Lib.hid (ext_trans HB8.out h7)
              have HW9 := Lib.hid (ext_trans HW8.out h7)
              obtain ⟨y, fl, rfl, hfl⟩ : ∃ y fl, pv = .tuple #[.agg (syCs y), .bool fl] ∧ ((fl = true ∧ ∃ X Y, PlaceP (byi docks m) l z X Y ∧ y = z.put X Y) ∨ (fl = false ∧ ∀ X Y, ¬ PlaceP (byi docks m) l z X Y)) := by
                rcases hpv with ⟨X, Y, h, rfl⟩ | ⟨h, rfl⟩
                · exact ⟨_, _, rfl, .inl ⟨rfl, X, Y, h, rfl⟩⟩
                · exact ⟨_, _, rfl, .inr ⟨rfl, h⟩⟩
              have HFL := Lib.hid hfl
              have HN := Lib.hid (heap_alloc_new w7 (.cells (syCs default) 29))
              obtain ⟨W8, hW8⟩ : ∃ W8, W8 = w7.alloc (.cells (syCs y) 29) := ⟨_, rfl⟩
              have HW : Hid ((w7.alloc (.cells #[.string ⟨#[]⟩, .string ⟨#[]⟩, .int .i64 0, .int .i64 0, .int .i64 0, .int .i64 0, .int .i64 0, .int .i64 0] 29)).setRow w7.heap.size (syCs y) = W8) := by
                rw [hW8]; exact World.setRow_alloc_new _ _ _ _
              have HY8 : Hid (ObjAt W8 w7.heap.size (syCs y) 29) := by rw [hW8]; exact ObjAt.new _ _ _
              have HBA : Hid (Below w4.heap.size w4 W8) := by rw [hW8]; exact HB9.out.alloc HB9.out.size _
              have HWA : Hid (Below w5.heap.size w5 W8) := by rw [hW8]; exact HW9.out.alloc HW9.out.size _
              clear hW8 hpv h7 hfl HY6 HD8 HB8 HW8
              go_upto_region 24 with ((refine wpList_store_row (o := ⟨none, .store _ _ _, _, _, _, _⟩) rfl 29 (.tmp 18) (.tmp 112) rfl w7.heap.size (syCs y) rfl rfl 29 _ HN.out info_Berth rfl (one_ber _) ?_); (rw [HW.out]))
              clear HN HW
              cases fl
              · have HJ := Lib.hid (upto (q := fun j => ∀ X Y, ¬ FoundP l x hours (gi ts k) (byi docks m) (gi es j) X Y) hf3.out (fun X Y hfo => by
                  rcases HFL.out with ⟨h, _⟩ | ⟨_, h⟩
                  · cases h
                  · exact h X Y (by rw [← HZ.out]; exact hfo.2.2)))
                go_wp2_with fail
                go_roundw
                case rel => exact ⟨n + 1, by omega, by go_num, HWA, HJ⟩
                case measure => simp [intOf]; omega
              · have HV : Hid (FitV docks l x hours (.tuple #[.agg (syCs y), .int .i64 0])) := by
                  show FitV _ _ _ _ _; rw [HFV2.out]
                  rcases HFL.out with ⟨_, X, Y, h1, rfl⟩ | ⟨h, _⟩
                  · refine .inl ⟨_, (HTM.out _).1 (gi_mem hlt), _, byi_mem hlt2, _, X, Y, ⟨(HEM.out _).1 (gi_mem hlt3), by omega, ?_⟩, ?_⟩
                    · rw [HZ.out]; exact h1
                    · rw [HZ.out]
                  · cases h
                have HO := Lib.hid (HR4.out.keep HBA.out)
                have HB := Lib.hid (ext_trans HB4.out HBA.out)
                obtain ⟨c0, c1, c2, c3, c4, c5, c6, c7⟩ := syC HY8.out
                clear HFV2
                go_wp2_with (refine wpList_store_row (o := ⟨none, .store _ _ _, _, _, _, _⟩) rfl 29 (.tmp 8) (.tmp 115) rfl (w.heap.size + 1) (syCs y) rfl rfl 29 _ HO.out info_Berth rfl (one_ber _) ?_)
                refine bodyPost_ret (v := .tuple #[.agg (syCs y), .int .i64 0]) (results_two Tryd.results7 rfl rfl (load_Ber (setRow_heap _ _ _ _ _ _ HO.out))) rfl ⟨_, rfl, HV.out, below_setRow HB.out (by omega) _⟩
            · obtain rfl : n = es.length := by omega
              have HJ := Lib.hid (upto (q := fun j => ∀ e X Y, ¬ FoundP l x hours (gi ts k) (byi docks j) e X Y) hf2.out (by
                intro e X Y hfo
                obtain ⟨j, hj, e'⟩ := mem_gi ((HEM.out e).2 hfo.1)
                rw [← e'] at hfo
                exact hf3.out j hj X Y hfo))
              have HB7 := Lib.hid (ext_trans HB6.out hb3.out)
              go_wp2_with fail
              go_roundw
              case rel => exact ⟨m + 1, by omega, by go_num, HB7, HJ⟩
              case measure => simp [intOf]; omega
        · obtain rfl : m = docks.length := by omega
          have HJ := Lib.hid (upto (q := fun j => ∀ d ∈ docks, ∀ e X Y, ¬ FoundP l x hours (gi ts j) d e X Y) hf1.out (by
            intro d hd
            obtain ⟨j, hj, rfl⟩ := mem_byi hd
            exact hf2.out j hj))
          go_wp2_with fail
          go_roundw
          case rel => exact ⟨k + 1, by omega, by go_num, hb2, HJ⟩
          case measure => simp [intOf]; omega
    · obtain rfl : k = ts.length := by omega
      have HR := Lib.hid (HR4.out.keep hb1.out)
      have HB := Lib.hid (ext_trans HB4.out hb1.out)
      have HV : Hid (FitV docks l x hours (.tuple #[.agg (syCs default), .int .i64 18])) := by
        show FitV _ _ _ _ _; rw [HFV2.out]
        refine .inr ⟨fun s hs => ?_, rfl⟩
        obtain ⟨j, hj, e⟩ := mem_gi ((HTM.out s).2 hs)
        rw [← e]; exact hf1.out j hj
      clear HFV2
      go_wp2_with (refine wpList_store_row (o := ⟨none, .store _ _ _, _, _, _, _⟩) rfl 29 (.tmp 8) (.tmp 119) rfl (w.heap.size + 1) (syCs default) rfl rfl 29 _ HR.out info_Berth rfl (one_ber _) ?_)
      refine bodyPost_ret (v := .tuple #[.agg (syCs default), .int .i64 18]) (results_two Tryd.results7 rfl rfl (load_Ber (setRow_heap _ _ _ _ _ _ HR.out))) rfl ⟨_, rfl, HV.out, below_setRow HB.out (by omega) _⟩
end Go.Proofs.YtgmecjmepbaolaaDoor
