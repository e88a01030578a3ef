/- The frame of docks' row: docks, berths, a call that came in; what the bound on the arguments gives. -/
import Derived.Test.YtgmecjmepbaolaaDoorDokU
import Derived.Laws.StructEq
import Derived.Test.YtgmecjmepbaolaaDoorRowL
import Derived.Deep.DeepHandedRow
set_option linter.unusedSimpArgs false
set_option linter.unusedVariables false

/- What Fit finds, and what its reference finds: plain. -/
namespace Go.Proofs.YtgmecjmepbaolaaDoor

theorem ends_ge {l : List Ber} {a t : Int} (h : t ∈ endsL l a) : a ≤ t := by
  unfold endsL at h
  rw [List.mem_cons, List.mem_map] at h
  rcases h with rfl | ⟨u, hu, rfl⟩
  · exact Int.le_refl _
  · have := (List.mem_filter.1 hu).2
    rw [decide_eq_true_eq] at this; omega
theorem fitR_of {docks : List DBay} {l : List Ber} {x : Ber} {hours : Int} (h : dokE docks l = 0) (hn : l.length ≤ 8) (hid : idB x.hull = true) (hne : l.any (fun u => u.hull == x.hull) = false) (ha : askB x hours = true) : FitR docks l x.hull x.len x.wid x.a hours :=
  { ok := (dokE_iff _ _).1 h, few := hn, id := hid, new := hne, sl := sideB_iff.2 (ask_iff.1 ha).1, sw := sideB_iff.2 (ask_iff.1 ha).2.1, h1 := (ask_iff.1 ha).2.2.1.1, a0 := (ask_iff.1 ha).2.2.2.1 }
structure Good (docks : List DBay) (l : List Ber) (x : Ber) (hours : Int) (y : Ber) : Prop where
  ok : dokE docks (l ++ [y]) = 0
  hull : y.hull = x.hull
  ge : x.a ≤ y.a
  long : hours ≤ y.b - y.a
  lo : 0 ≤ y.a
  hi : y.b ≤ 1048576
  a0 : y.a ≤ y.b
theorem fit_good {docks : List DBay} {l : List Ber} {x : Ber} {hours : Int} (H : FitR docks l x.hull x.len x.wid x.a hours) {s : Int} {d : DBay} {e X Y : Int} (hs : s ∈ endsL l x.a) (hd : d ∈ docks) (hf : FoundP l x hours s d e X Y) : Good docks l x hours ((mkBer x.hull d x.len x.wid s e).put X Y) := by
  obtain ⟨he, hm, ht, hX, hY, hsp⟩ := hf
  have h1 := ends_ge hs
  have h2 := ends_ge he
  have h3 := H.h1
  have h4 := H.a0
  obtain ⟨p1, p2⟩ := cand_nonneg (dok_plan H.ok) hX hY
  have := place_ok H (s := s) (e := e) (X := X) (Y := Y) h1 hd (by omega) hm p1 p2 ht hsp
  exact ⟨(dokE_iff _ _).2 this, rfl, h1, by show hours ≤ e - s; omega, by show 0 ≤ s; omega, hm, by show s ≤ e; omega⟩
theorem fit_none {docks : List DBay} {l : List Ber} {x : Ber} {hours : Int} (H : FitR docks l x.hull x.len x.wid x.a hours) (h : ∀ s ∈ endsL l x.a, ∀ d ∈ docks, ∀ e X Y, ¬ FoundP l x hours s d e X Y) : ∀ s ∈ endsL l x.a, ∀ d ∈ docks, ∀ e, ¬ FoundR docks l x hours s d e := by
  rintro s hs d hd e ⟨he, hf⟩
  obtain ⟨X, hX, Y, hY, h0⟩ := at_found.1 hf
  obtain ⟨e', he', hm, X', Y', hp⟩ := (search_iff H (ends_ge hs) hd).2 ⟨e, he, X, hX, Y, hY, (dokE_iff _ _).1 h0⟩
  exact h s hs d hd e' X' Y' ⟨he', hm, hp⟩
/-- the two answers -/
theorem fit_both {docks : List DBay} {l : List Ber} {x : Ber} {hours : Int} {v : Go.Value} (h : dokE docks l = 0) (hn : l.length ≤ 8) (hv : FitV docks l x hours v) :
    (∃ y, v = .tuple #[.agg (syCs y), .int .i64 0] ∧ Good docks l x hours y) ∨ ∃ er, er ≠ 0 ∧ v = .tuple #[.agg (syCs default), .int .i64 er] ∧ ∀ u, RFitV docks l x hours u → ∃ y, u = .tuple #[.agg (syCs y), .int .i64 er] := by
  unfold FitV at hv
  split at hv
  · rename_i h1
    refine .inr ⟨6, by decide, hv, ?_⟩
    rintro u ⟨y, er, rfl, hu⟩
    rw [if_pos h1] at hu
    exact ⟨y, by rw [hu]⟩
  rename_i h1
  split at hv
  · rename_i h2
    refine .inr ⟨7, by decide, hv, ?_⟩
    rintro u ⟨y, er, rfl, hu⟩
    rw [if_neg h1, if_pos h2] at hu
    exact ⟨y, by rw [hu]⟩
  rename_i h2
  split at hv
  · rename_i h3
    refine .inr ⟨9, by decide, hv, ?_⟩
    rintro u ⟨y, er, rfl, hu⟩
    rw [if_neg h1, if_neg h2, if_pos h3] at hu
    exact ⟨y, by rw [hu]⟩
  rename_i h3
  have H := fitR_of (docks := docks) (x := x) (hours := hours) h hn (by simpa using h1) (by simpa using h2) (by simpa using h3)
  rcases hv with ⟨s, hs, d, hd, e, X, Y, hf, rfl⟩ | ⟨hv, rfl⟩
  · exact .inl ⟨_, rfl, fit_good H hs hd hf⟩
  · refine .inr ⟨18, by decide, rfl, ?_⟩
    rintro u ⟨y, er, rfl, hu⟩
    rw [if_neg h1, if_neg h2, if_neg h3] at hu
    rcases hu with ⟨_, s, hs, d, hd, e, hfo⟩ | ⟨hu, _⟩
    · exact absurd hfo (fit_none H hv s hs d hd e)
    · exact ⟨y, by rw [hu]⟩
theorem plan_zero {docks : List DBay} {l : List Ber} (h : dokE docks l = 0) : planE docks l = 0 := by
  unfold dokE at h
  split at h
  · assumption
  · exact h
end Go.Proofs.YtgmecjmepbaolaaDoor

/- The law of docks: it answers true. -/
namespace Go.Proofs.YtgmecjmepbaolaaDoor
open Go.RowKit

/-- a berth asked for, and its hours -/
def caCs (x : Ber) (hours : Int) : Array Value := #[.string (bs x.hull), .string (bs x.dock), .int .i64 x.x, .int .i64 x.y, .int .i64 x.len, .int .i64 x.wid, .int .i64 x.a, .int .i64 x.b, .int .i64 hours]
theorem enter_dC : ∀ args w, (callFunc 5 args).run Tryd.prog w = .ok (.enter 5 args) w := enters_of Tryd.func5 (by kernel_rfl) rfl
theorem enter_bC : ∀ args w, (callFunc 9 args).run Tryd.prog w = .ok (.enter 9 args) w := enters_of Tryd.func9 (by kernel_rfl) rfl
def dkFo3 : TypeId → Nat → Option Nat
  | 31, 0 => some 0
  | 31, 1 => some 8
  | t, f => dkFo t f
theorem dkFo3_ok (t f d : Nat) (h : dkFo3 t f = some d) (b off : Nat) (w : World) : (Instr.fieldAt t (.pointer (some ⟨b, off, none⟩)) f).run Tryd.prog w = .ok (.pointer (some ⟨b, off + d, none⟩)) w := by
  unfold dkFo3 at h
  split at h
  · cases h; go_simp
  · cases h; go_simp
  · exact dkFo_ok t f d h b off w
def dkEn3 : FuncId → Bool
  | 5 => true
  | 9 => true
  | _ => false
theorem dkEn3_ok (f : FuncId) (h : dkEn3 f = true) (args : Array Value) (w : World) : (callFunc f args).run Tryd.prog w = .ok (.enter f args) w := by
  unfold dkEn3 at h
  split at h
  · exact enter_dC args w
  · exact enter_bC args w
  · cases h
def dkT3 : QTab := { dkT with fo := dkFo3, en := dkEn3 }
theorem dkT3_ok : dkT3.Ok := ⟨dkFo3_ok, dkT_ok.sc, dkT_ok.ag, dkT_ok.es, dkT_ok.ln, dkEn3_ok, dkT_ok.sl⟩
theorem flood_mem {l : List Ber} {dock : List UInt8} {t : Int} : t ∈ floodL l dock ↔ ∃ u ∈ l, u.dock = dock ∧ u.b = t := by
  unfold floodL
  rw [List.mem_map]
  constructor
  · rintro ⟨u, hu, rfl⟩
    have := List.mem_filter.1 hu
    exact ⟨u, this.1, by simpa using this.2, rfl⟩
  · rintro ⟨u, hu, h1, rfl⟩
    exact ⟨u, List.mem_filter.2 ⟨hu, by simpa using h1⟩, rfl⟩
theorem caC {w : World} {b : Nat} {x : Ber} {hours : Int} {e : TypeId} (h : ObjAt w b (caCs x hours) e) : SyC w b x ∧ w.cell? ⟨b, 8, none⟩ = some (.int .i64 hours) := ⟨⟨h.cell 0, h.cell 1, h.cell 2, h.cell 3, h.cell 4, h.cell 5, h.cell 6, h.cell 7⟩, h.cell 8⟩
theorem zeroC {w : World} {b : Nat} {e : TypeId} (h : ObjAt w b (syCs default) e) : w.cell? ⟨b, 0, none⟩ = some (.string ⟨#[]⟩) ∧ w.cell? ⟨b, 1, none⟩ = some (.string ⟨#[]⟩) ∧ w.cell? ⟨b, 2, none⟩ = some (.int .i64 0) ∧ w.cell? ⟨b, 3, none⟩ = some (.int .i64 0) ∧ w.cell? ⟨b, 4, none⟩ = some (.int .i64 0) ∧ w.cell? ⟨b, 5, none⟩ = some (.int .i64 0) ∧ w.cell? ⟨b, 6, none⟩ = some (.int .i64 0) ∧ w.cell? ⟨b, 7, none⟩ = some (.int .i64 0) :=
  ⟨h.cell 0, h.cell 1, h.cell 2, h.cell 3, h.cell 4, h.cell 5, h.cell 6, h.cell 7⟩
theorem new_ber (w7 : World) (y : Ber) : ∃ W8, Hid ((w7.alloc (.cells (syCs default) 29)).heap[w7.heap.size]? = some (.cells (syCs default) 29)) ∧
    Hid ((w7.alloc (.cells #[.string ⟨#[]⟩, .string ⟨#[]⟩, .int .i64 0, .int .i64 0, .int .i64 0, .int .i64 0, .int .i64 0, .int .i64 0] 29)).setRow w7.heap.size (syCs y) = W8) ∧ Hid (ObjAt W8 w7.heap.size (syCs y) 29) ∧ Hid (Below w7.heap.size w7 W8) :=
  ⟨w7.alloc (.cells (syCs y) 29), heap_alloc_new w7 (.cells (syCs default) 29), World.setRow_alloc_new _ _ _ _, ObjAt.new _ _ _, (Below.refl _ _).alloc (Nat.le_refl _) _⟩
set_option maxRecDepth 100000 in
set_option maxHeartbeats 2000000 in
theorem TopDocks_any (dv lv : Value) (docks : List DBay) (l : List Ber) (x : Ber) (hours : Int) (w : World) (hd : SD w dv docks) (hl : SB w lv l) (hnil : lv = .slice none 0 0 ∨ ∃ ad n c, lv = .slice (some ad) n c) (hm : MLen w) (hsd : StrD docks maxLen) (hsb : StrB l 1100000) (hx : x.hull.length ≤ 1100000) :
    Calls Tryd.prog 3 #[dv, lv, .agg (caCs x hours)] w (Ret w (.bool true)) := by
  have HD := Lib.hid hd; have HL := Lib.hid hl; have HM := Lib.hid hm; have HSD := Lib.hid hsd; have HSB := Lib.hid hsb; have HX := Lib.hid hx; have HNIL := Lib.hid hnil
  have HSM : Hid (StrB l maxLen) := ⟨fun u hu => Nat.le_trans (hsb.h u hu) (by unfold maxLen; omega)⟩
  obtain ⟨da, dc, rfl, d1, d2, d3⟩ := hd
  obtain ⟨la, lc, rfl, l1, l2, l3⟩ := hl
  have L3 := Lib.hid l3
  clear hm hsd hsb d3 l3 hx hnil
  unfold maxLen at d2 l2
  obtain ⟨W0, hW0⟩ : ∃ W0, W0 = w.alloc (.cells (caCs x hours) 31) := ⟨_, rfl⟩
  have HX0 : Hid (ObjAt W0 w.heap.size (caCs x hours) 31) := by rw [hW0]; exact ObjAt.new _ _ _
  have HB0 : Hid (Below w.heap.size w W0) := by rw [hW0]; exact (Below.refl _ _).alloc (Nat.le_refl _) _
  have HW : Hid (w.alloc (.cells #[.string (bs x.hull), .string (bs x.dock), .int .i64 x.x, .int .i64 x.y, .int .i64 x.len, .int .i64 x.wid, .int .i64 x.a, .int .i64 x.b, .int .i64 hours] 31) = W0) := by rw [hW0]; rfl
  clear hW0
  unfold caCs
  by_cases hbig : 3 < docks.length ∨ 8 < l.length
  · have hb1 := HB0.out
    by_cases h3 : 3 < docks.length
    all_goals
      go_enter Tryd.func3, Tryd.ntmps3
      go_wp2_with fail
      go_ret
      rw [HW.out]
      exact ⟨rfl, hb1⟩
  have h3 : docks.length ≤ 3 := by omega
  have h8 : l.length ≤ 8 := by omega
  clear hbig
  go_enter Tryd.func3, Tryd.ntmps3
  go_wp2_with fail
  rw [HW.out]
  clear HW
  refine (rdCheck_any _ _ docks l W0 (HD.out.keep HB0.out) (HL.out.keep HB0.out) HSD.out HSB.out (by omega)).mono ?_
  rintro e w1 ⟨rfl, h1⟩
  have HB1 := Lib.hid (ext_trans HB0.out h1)
  have HX1 := Lib.hid (HX0.out.keep h1)
  clear h1 HX0
  obtain ⟨er, her⟩ : ∃ er, dokE docks l = er := ⟨_, rfl⟩
  rw [her, show decide ((3 : Int) < docks.length) = false from decide_eq_false (by omega), show decide ((8 : Int) < l.length) = false from decide_eq_false (by omega)]
  by_cases he0 : er = 0
  rotate_left
  · have hne : (er != 0) = true := by simp [he0]
    clear her
    go_wp2_with fail
    go_ret
    exact ⟨rfl, HB1.out⟩
  subst he0
  try rw [show ((0 : Int) != 0) = false from rfl]
  have HOK := Lib.hid her; clear her
  go_wp2_with fail
  refine (dCheck_any _ _ docks l w1 (HD.out.keep HB1.out) (HL.out.keep HB1.out) (HM.out.keep HB1.out) HSD.out HSM.out (by omega)).mono ?_
  rintro e w2 ⟨rfl, h2⟩
  rw [HOK.out]
  have HB2 := Lib.hid (ext_trans HB1.out h2)
  have HX2 := Lib.hid (HX1.out.keep h2)
  clear h2 HX1
  have hm8 : l.length ≤ 9223372036854775807 := by omega
  go_wp2_with fail
  go_loopw [7] (fun i wr => ∃ k : Nat, k ≤ l.length ∧ i = .int .i64 k ∧ Hid (Below w2.heap.size w2 wr)) (fun i _ => l.length - (intOf i).toNat)
  case atStart => exact ⟨0, Nat.zero_le _, rfl, Lib.hid (Below.refl _ _)⟩
  case round =>
    obtain ⟨k, hk, rfl, hb⟩ := hrel
    by_cases hlt : k < l.length
    · obtain ⟨b, off, rfl, hc⟩ := L3.out k hlt
      have HC := Lib.hid (hc.keep (ext_trans HB2.out hb.out))
      have c1 := HC.out.c1
      clear hc
      go_wp2_with fail
      clear c1
      refine (Floods_any _ l (bri l k).dock wr (HL.out.keep (ext_trans HB2.out hb.out)) (by omega)).mono ?_
      rintro e w3 ⟨tv, rfl, ht, h3'⟩
      have HB3 := Lib.hid (ext_trans hb.out h3')
      have HC3 := Lib.hid (bAt_range (HC.out.keep h3'))
      have HTM := Lib.hid (fun t => (retTs_mem (zs := floodL l (bri l k).dock) (t := t)))
      obtain ⟨ts, hts⟩ : ∃ ts, Lib.compact (sortL (floodL l (bri l k).dock)) = ts := ⟨_, rfl⟩
      rw [hts] at ht HTM
      obtain ⟨ta, tc, rfl, t1, t2, t3⟩ := ht
      have T3 := Lib.hid t3
      clear h3' t3 hts HC hb
      unfold maxLen at t2
      have hmt : ts.length ≤ 9223372036854775807 := by omega
      go_wp2_with fail
      go_loopw [9] (fun i wr => ∃ j : Nat, j ≤ ts.length ∧ i = .int .i64 j ∧ Hid (Below w3.heap.size w3 wr)) (fun i _ => ts.length - (intOf i).toNat)
      case atStart => exact ⟨0, Nat.zero_le _, rfl, Lib.hid (Below.refl _ _)⟩
      case round =>
        obtain ⟨j, hj, rfl, hb2⟩ := hrel
        by_cases hlt2 : j < ts.length
        · obtain ⟨tb, tof, rfl, hc⟩ := T3.out j hlt2
          have HTC := Lib.hid (intR (cell_keep hb2.out hc))
          have HBC := Lib.hid (rangeKeep HC3.out hb2.out)
          have HFL : Hid ((decide ((bri l k).a < gi ts j) && decide (gi ts j < (bri l k).b)) = false) := by
            obtain ⟨u, hu, e1, e2⟩ := flood_mem.1 ((HTM.out _).1 (gi_mem hlt2))
            have := floods_ok ((dokE_iff _ _).1 HOK.out) (bri_mem hlt) hu e1
            rw [e2] at this
            show _ = _
            rw [Bool.eq_false_iff]
            simpa using this
          clear hc
          go_upto_region 12 with fail
          refine wp_region_ev dkT3 dkT3_ok [⟨tb, tof + j, [.int .i64 (gi ts j)]⟩, berO b (off + k * 8) (bri l k)] (Below wr.heap.size wr) [] [(57, .ix j 0), (61, .ix k 1), (69, .ix j 0), (73, .ix k 1)] [(78, .bool (decide ((bri l k).a < gi ts j) && decide (gi ts j < (bri l k).b)))] (by kernel_rfl) mixed (by kernel_rfl) ((Below.refl _ _).drew) (obs2 (fun v hv => rangeKeep HTC.out hv) (fun v hv => rangeKeep HBC.out hv)) trivial ?_
          conv => whnf
          refine And.intro (under_of ⟨rfl, hlt2, rfl, by show tof + j = tof + j * 1; omega⟩) ?_
          conv => whnf
          refine And.intro (under_of ⟨rfl, hlt, rfl, rfl⟩) ?_
          conv => whnf
          refine And.intro (under_of ⟨rfl, hlt2, rfl, by show tof + j = tof + j * 1; omega⟩) ?_
          conv => whnf
          refine And.intro (under_of ⟨rfl, hlt, rfl, rfl⟩) ?_
          conv => whnf
          intro f1
          conv => whnf
          refine And.intro rfl ?_
          conv => whnf
          intro w4 h4
          rw [HFL.out]
          have HB4 := Lib.hid (ext_trans hb2.out h4)
          clear h4
          go_wp2_with fail
          go_roundw
          case rel => exact ⟨j + 1, by omega, by go_num, HB4⟩
          case measure => simp [intOf]; omega
        · obtain rfl : j = ts.length := by omega
          have HB4 := Lib.hid (ext_trans HB3.out hb2.out)
          go_wp2_with fail
          go_roundw
          case rel => exact ⟨k + 1, by omega, by go_num, HB4⟩
          case measure => simp [intOf]; omega
    · obtain rfl : k = l.length := by omega
      have HB3 := Lib.hid (ext_trans HB2.out hb.out)
      have HX3 := Lib.hid (HX2.out.keep hb.out)
      obtain ⟨⟨c0, c1, c2, c3, c4, c5, c6, c7⟩, c8⟩ := caC HX3.out
      go_wp2_with fail
      clear c0 c1 c2 c3 c4 c5 c6 c7 c8
      refine (dFit_any _ _ docks l x hours wr (HD.out.keep HB3.out) (HL.out.keep HB3.out) (HM.out.keep HB3.out) HSD.out HSM.out (Nat.le_trans HX.out (by unfold maxLen; omega)) h8 HOK.out h3).mono ?_
      rintro e w4 ⟨v, rfl, hfv, h4⟩
      have HB4 := Lib.hid (ext_trans HB3.out h4)
      have HX4 := Lib.hid (HX3.out.keep h4)
      clear h4 hb HX3
      rcases fit_both HOK.out h8 hfv with ⟨y, rfl, hg⟩ | ⟨er, hne, rfl, href⟩
      · have HG := Lib.hid hg
        clear hfv hg
        obtain ⟨W5, HN, HW, HY5, HC5⟩ := new_ber w4 y
        have HB5 := Lib.hid (ext_trans HB4.out HC5.out)
        have HX5 := Lib.hid (HX4.out.keep HC5.out)
        clear HC5 HX4
        go_upto_region 18 with ((refine wpList_store_row (o := ⟨none, .store _ _ _, _, _, _, _⟩) rfl 29 (.tmp 10) (.tmp 87) rfl w4.heap.size (syCs y) rfl rfl 29 _ HN.out info_Berth rfl (one_ber _) ?_); (rw [HW.out]))
        clear HN HW
        refine wp_region_apa dkT3 dkT3_ok [berO w4.heap.size 0 y] [(10, 0)] [] [] 0 2 4 5 6 109 111 113 114 14 110 112 [109, 111, 113, 114, 14] (.slice la l.length lc) l y (by kernel_rfl) mixed (by kernel_rfl) rfl ⟨by decide, by decide, by decide, by decide, by decide, by decide⟩ (by decide)
          ⟨⟨_, rfl, rfl, rfl⟩, ⟨_, rfl, rfl, rfl, ⟨0, .data⟩, by simp, rfl, rfl⟩, ⟨_, rfl, rfl, rfl⟩, ⟨_, rfl, rfl, rfl, ⟨⟨2, .data⟩, by simp, rfl, rfl⟩, ⟨4, .data⟩, by simp, rfl, rfl⟩⟩
          ⟨_, rfl, rfl, rfl, ⟨5, .data⟩, by simp, rfl, rfl⟩ (HL.out.keep HB5.out) HNIL.out (by omega) (obs1 fun v hv => rangeKeep (range_new HY5.out) hv) ⟨rfl, trivial⟩ ?_
        conv => whnf
        refine And.intro (Nat.le_refl 8) ?_
        conv => whnf
        refine And.intro ⟨_, rfl⟩ ?_
        refine And.intro ⟨_, rfl⟩ ?_
        intro f1 mv
        conv => whnf
        intro w6 h6 hm6
        rw [show selV 114 mv (selV 14 mv f1) 14 = mv from rfl, show selV 114 mv (selV 14 mv f1) 114 = mv from rfl]
        have HB6 := Lib.hid (ext_trans HB5.out h6)
        have HX6 := Lib.hid (HX5.out.keep h6)
        have HY6 := Lib.hid (HY5.out.keep h6)
        have HM6 := Lib.hid hm6.s
        have hms := hm6.s
        clear h6 hm6 HX5 HY5
        obtain ⟨M, hM⟩ : ∃ M, l ++ [y] = M := ⟨_, rfl⟩
        rw [hM] at HM6 hms
        have HMM := Lib.hid hM
        have hM9 : M.length ≤ 9 := by rw [← hM, List.length_append, List.length_singleton]; omega
        clear hM
        obtain ⟨ma, mc, rfl, m1, m2, m3⟩ := hms
        have M3 := Lib.hid m3
        clear m3
        unfold maxLen at m2
        have hmm : M.length ≤ 9223372036854775807 := by omega
        go_wp2_with fail
        go_loopw [15, 16] (fun s i wr => ∃ k : Nat, k ≤ M.length ∧ i = .int .i64 k ∧ Hid (Below w6.heap.size w6 wr) ∧ Hid (OwnY wr w6.heap.size s (M.take k))) (fun _ i _ => M.length - (intOf i).toNat)
        case atStart => exact ⟨0, Nat.zero_le _, rfl, Lib.hid (Below.refl _ _), OwnY_nil _ _⟩
        case round =>
          obtain ⟨k, hk, rfl, hb, ho⟩ := hrel
          by_cases hlt : k < M.length
          · obtain ⟨b, off, rfl, hc⟩ := M3.out k hlt
            obtain ⟨c0, c1, c2, c3, c4, c5, c6, c7⟩ := hc.keep hb.out
            clear hc
            have HO := Lib.hid (((ho.out.alloc (.cells #[.string (bs (bri M k).hull), .string (bs (bri M k).dock), .int .i64 (bri M k).x, .int .i64 (bri M k).y, .int .i64 (bri M k).len, .int .i64 (bri M k).wid, .int .i64 (bri M k).a, .int .i64 (bri M k).b] 29)).alloc (.cells #[.string (bs (bri M k).hull), .string (bs (bri M k).dock), .int .i64 (bri M k).x, .int .i64 (bri M k).y, .int .i64 (bri M k).len, .int .i64 (bri M k).wid, .int .i64 (bri M k).a, .int .i64 (bri M k).b] 40)))
            have HN := Lib.hid (sY_one (yAt_new2 wr (bri M k) 29 40))
            unfold syCs at HN
            go_wp2_with (at_builtin; refine wpList_app_Y rfl (.tmp 125) (.tmp 139) rfl w6.heap.size _ (M.take k) [bri M k] rfl HO.out ⟨wr.heap.size + 1, 0, none⟩ 1 1 rfl HN.out ?c3 ?c4 ?_)
            case c3 => simp; omega
            case c4 => have := hb.out.size; simp; omega
            intro v' w' ho' hg' _
            clear c0 c1 c2 c3 c4 c5 c6 c7
            have HO' : Hid (OwnY w' w6.heap.size v' (M.take (k + 1))) := by show _; rw [take_bri hlt]; exact ho'
            have HB' : Hid (Below w6.heap.size w6 w') := ((hb.out.alloc hb.out.size _).alloc (by have := hb.out.size; simp; omega) _).grown hg' (by have := hb.out.size; simp; omega) (fun q hq => (OwnY.lt ho.out q hq).1)
            clear ho' hg'
            go_wp2_with fail
            go_roundw
            case rel => exact ⟨k + 1, by omega, by go_num, HB', HO'⟩
            case measure => simp [intOf]; omega
          · obtain rfl : k = M.length := by omega
            have HS : Hid (SY wr u15 M) := by have := ho.out.s; rw [List.take_length] at this; exact this
            have HB7 := Lib.hid (ext_trans HB6.out hb.out)
            have HX7 := Lib.hid (HX6.out.keep hb.out)
            have HY7 := Lib.hid (HY6.out.keep hb.out)
            have HM7 := Lib.hid (HM6.out.keep hb.out)
            have HSN : Hid (StrB M maxLen) := ⟨fun u hu => by
              rw [← HMM.out] at hu
              rcases List.mem_append.1 hu with hu | hu
              · exact HSM.out.h u hu
              · rw [List.mem_singleton.1 hu, HG.out.hull]; exact Nat.le_trans HX.out (by unfold maxLen; omega)⟩
            have HE : Hid (dokE docks M = 0) := by show _ = _; rw [← HMM.out]; exact HG.out.ok
            obtain ⟨sa, sc, e, s1, s2, s3⟩ := HS.out
            subst e
            clear s1 s2 s3 HX6 HY6 HM6 ho hb
            go_upto_region 25 with fail
            refine wp_region_et dkT3 dkT3_ok [berO w4.heap.size 0 y, ⟨w.heap.size, 0, (caCs x hours).toList⟩] (Below wr.heap.size wr) [(10, 0), (5, 1)] [(143, .ret (.int .i64 0)), (148, .ret (.int .i64 0))] [(6, .bool true)] (by kernel_rfl) (Below.refl _ _) (obs2 (fun v hv => rangeKeep (range_new HY7.out) hv) (fun v hv => rangeKeep (range_new HX7.out) hv)) ⟨rfl, rfl, trivial⟩ ?_
            conv => whnf
            refine And.intro (under_of fun v hv => (dCheck_any _ _ docks M v (HD.out.keep (ext_trans HB7.out hv)) (HM7.out.keep hv) (HM.out.keep (ext_trans HB7.out hv)) HSD.out HSN.out (by omega)).mono fun e v' he => ⟨by rw [he.1, HE.out], ext_trans hv he.2⟩) ?_
            conv => whnf
            refine And.intro (under_of fun v hv => (Check_any _ _ docks M v (HD.out.keep (ext_trans HB7.out hv)) (HS.out.keep hv) (HM.out.keep (ext_trans HB7.out hv)) HSD.out HSN.out).mono fun e v' he => ⟨by rw [he.1, plan_zero HE.out], ext_trans hv he.2⟩) ?_
            conv => whnf
            refine And.intro (under_of (by have h := HG.out; have := h.lo; have := h.hi; have := h.a0; omega)) ?_
            conv => whnf
            intro f2
            conv => whnf
            refine And.intro ?_ ?_
            · have h := HG.out
              refine congrArg Value.bool ?_
              rw [h.hull]
              simp [h.ge, h.long]
            conv => whnf
            intro w8 h8'
            have HB8 := Lib.hid (ext_trans HB7.out h8')
            clear h8'
            go_wp2_with fail
            go_ret
            exact ⟨rfl, HB8.out⟩
      · have HR := Lib.hid href
        have hne' : (er != 0) = true := by simp [hne]
        clear hfv href hne
        obtain ⟨W5, HN, HW, HY5, HC5⟩ := new_ber w4 default
        have HB5 := Lib.hid (ext_trans HB4.out HC5.out)
        have HX5 := Lib.hid (HX4.out.keep HC5.out)
        clear HC5 HX4
        go_upto_region 15 with ((refine wpList_store_row (o := ⟨none, .store _ _ _, _, _, _, _⟩) rfl 29 (.tmp 10) (.tmp 87) rfl w4.heap.size (syCs default) rfl rfl 29 _ HN.out info_Berth rfl (one_ber _) ?_); (rw [HW.out]))
        clear HN HW
        obtain ⟨⟨c0, c1, c2, c3, c4, c5, c6, c7⟩, c8⟩ := caC HX5.out
        go_wp2_with fail
        clear c0 c1 c2 c3 c4 c5 c6 c7 c8
        refine (rFit_any _ _ docks l x hours W5 (HD.out.keep HB5.out) (HL.out.keep HB5.out) HNIL.out HSD.out HSB.out HX.out h8 HOK.out h3).mono ?_
        rintro e w6 ⟨v, rfl, hrv, h6⟩
        obtain ⟨y, rfl⟩ := HR.out v hrv
        have HB6 := Lib.hid (ext_trans HB5.out h6)
        have HY6 := Lib.hid (HY5.out.keep h6)
        clear h6 HY5 HX5
        obtain ⟨W7, HN, HW, HY7, HC7⟩ := new_ber w6 y
        have HB7 := Lib.hid (ext_trans HB6.out HC7.out)
        have HYD := Lib.hid (HY6.out.keep HC7.out)
        clear HC7 HY6 hrv
        go_upto_region 17 with ((refine wpList_store_row (o := ⟨none, .store _ _ _, _, _, _, _⟩) rfl 29 (.tmp 12) (.tmp 99) rfl w6.heap.size (syCs y) rfl rfl 29 _ HN.out info_Berth rfl (one_ber _) ?_); (rw [HW.out]))
        clear HN HW
        obtain ⟨c0, c1, c2, c3, c4, c5, c6, c7⟩ := zeroC HYD.out
        go_wp2_with fail
        go_ret
        exact ⟨rfl, HB7.out⟩
end Go.Proofs.YtgmecjmepbaolaaDoor

/- The frame of docks' row: docks, berths, a call that came in; what the bound on the arguments gives. -/
namespace Go.Proofs.YtgmecjmepbaolaaDoor
open Go.ChangeShapes Go.WideShapes Go.ChangeAt Go.RowKit Go.Deep

theorem mlen_of {W : World} (h : W.ShapedOpen Tryd.prog) : MLen W :=
  cell_of_shapedOpen_int (P := Tryd.prog) (g := 0) (t := 3) (zero := #[.int .i64 0]) h (of_decide_eq_true (by kernel_rfl)) (by kernel_rfl) rfl (by kernel_rfl) (by kernel_rfl) Tryd.underlying3
section
variable {H : Type} {enc : TypeId × Value → H} {W : World}
theorem leaves_bay : leavesOf Tryd.prog 3 53 = some [9, 3, 3] := by kernel_rfl
theorem leaves_berth : leavesOf Tryd.prog 3 29 = some [9, 9, 3, 3, 3, 3, 3, 3] := by kernel_rfl
theorem leaves_call : leavesOf Tryd.prog 4 31 = some [9, 9, 3, 3, 3, 3, 3, 3, 3] := by kernel_rfl
def gInt : Value → Int | .int .i64 k => k | _ => 0
def gStr : Value → List UInt8 | .string s => s.data.toList | _ => []
theorem gInt_of {q : Nat} {v : Value} {y : DataW H × List MemPlace} (h : DataW.trod enc Tryd.prog W 0 (fun _ => true) true q 3 [v] = some y) : v = .int .i64 (gInt v) := by
  obtain ⟨k, e, _⟩ := int_trod Tryd.underlying3 h
  rw [e]; rfl
theorem gStr_of {q : Nat} {v : Value} {y : DataW H × List MemPlace} (h : DataW.trod enc Tryd.prog W 0 (fun _ => true) true q 9 [v] = some y) : v = .string (bs (gStr v)) ∧ (gStr v).length ≤ maxLen := by
  obtain ⟨s, e, hs⟩ := str_trod Tryd.underlying9 h
  rw [e]
  exact ⟨by show _ = Value.string (bs s.data.toList); rw [bs_of], by show s.data.toList.length ≤ _; rw [Array.length_toList]; exact hs⟩
theorem bays_trod {fuel : Nat} {v : Value} {x : DataW H × List MemPlace} (h : DataW.trod enc Tryd.prog W 0 (fun _ => true) true fuel 22 [v] = some x) : ∃ l : List DBay, SD W v l ∧ StrD l maxLen := by
  obtain ⟨v', m, C, hcs, ⟨a, cap, rfl, h1, h2, h3⟩, hC⟩ := open_rows Tryd.underlying22 leaves_bay (by kernel_rfl) (by decide) h
  simp at hcs
  subst hcs
  let X : Nat → DBay := fun i => ⟨gStr (C i 0), gInt (C i 1), gInt (C i 2)⟩
  have hl : ((List.range m).map X).length = m := by simp
  have hk : ∀ i, i < m → byi ((List.range m).map X) i = X i := fun i hi => by simp [byi, hi]
  refine ⟨(List.range m).map X, ⟨a, cap, by rw [hl], by rw [hl]; exact h1, h2, fun i hi => ?_⟩, ⟨fun t ht => ?_⟩⟩
  · rw [hl] at hi
    obtain ⟨b, off, ha, hc⟩ := h3 i hi
    refine ⟨b, off, ha, ?_⟩
    rw [hk i hi]
    obtain ⟨q0, y0, t0⟩ := hC i hi 0 _ rfl
    obtain ⟨q1, y1, t1⟩ := hC i hi 1 _ rfl
    obtain ⟨q2, y2, t2⟩ := hC i hi 2 _ rfl
    exact ⟨by rw [← (gStr_of t0).1]; exact hc 0 (by decide), by rw [← gInt_of t1]; exact hc 1 (by decide), by rw [← gInt_of t2]; exact hc 2 (by decide)⟩
  · obtain ⟨i, hi, rfl⟩ := List.mem_map.1 ht
    obtain ⟨q0, y0, t0⟩ := hC i (List.mem_range.1 hi) 0 _ rfl
    exact (gStr_of t0).2
theorem berths_trod {fuel : Nat} {v : Value} {x : DataW H × List MemPlace} (h : DataW.trod enc Tryd.prog W 0 (fun _ => true) true fuel 23 [v] = some x) : ∃ l : List Ber, SB W v l ∧ (v = .slice none 0 0 ∨ ∃ ad n c, v = .slice (some ad) n c) := by
  have hnil : v = .slice none 0 0 ∨ ∃ ad n c, v = .slice (some ad) n c := by
    rcases DataW.trod_slice Tryd.underlying23 h with ⟨e, _⟩ | ⟨a, len, cp, elems, rest, n, _, e, _⟩
    · simp only [List.cons.injEq, and_true] at e
      exact .inl e
    · simp only [List.cons.injEq, and_true] at e
      exact .inr ⟨_, _, _, e⟩
  obtain ⟨v', m, C, hcs, ⟨a, cap, e, h1, h2, h3⟩, hC⟩ := open_rows Tryd.underlying23 leaves_berth (by kernel_rfl) (by decide) h
  simp at hcs
  subst hcs
  let X : Nat → Ber := fun i => ⟨gStr (C i 0), gStr (C i 1), gInt (C i 2), gInt (C i 3), gInt (C i 4), gInt (C i 5), gInt (C i 6), gInt (C i 7)⟩
  have hl : ((List.range m).map X).length = m := by simp
  have hk : ∀ i, i < m → bri ((List.range m).map X) i = X i := fun i hi => by simp [bri, hi]
  refine ⟨(List.range m).map X, ⟨a, cap, by rw [hl]; exact e, by rw [hl]; exact h1, h2, fun i hi => ?_⟩, hnil⟩
  rw [hl] at hi
  obtain ⟨b, off, ha, hc⟩ := h3 i hi
  refine ⟨b, off, ha, ?_⟩
  rw [hk i hi]
  obtain ⟨q0, y0, t0⟩ := hC i hi 0 _ rfl
  obtain ⟨q1, y1, t1⟩ := hC i hi 1 _ rfl
  obtain ⟨q2, y2, t2⟩ := hC i hi 2 _ rfl
  obtain ⟨q3, y3, t3⟩ := hC i hi 3 _ rfl
  obtain ⟨q4, y4, t4⟩ := hC i hi 4 _ rfl
  obtain ⟨q5, y5, t5⟩ := hC i hi 5 _ rfl
  obtain ⟨q6, y6, t6⟩ := hC i hi 6 _ rfl
  obtain ⟨q7, y7, t7⟩ := hC i hi 7 _ rfl
  exact ⟨by rw [← (gStr_of t0).1]; exact hc 0 (by decide), by rw [← (gStr_of t1).1]; exact hc 1 (by decide), by rw [← gInt_of t2]; exact hc 2 (by decide), by rw [← gInt_of t3]; exact hc 3 (by decide), by rw [← gInt_of t4]; exact hc 4 (by decide), by rw [← gInt_of t5]; exact hc 5 (by decide), by rw [← gInt_of t6]; exact hc 6 (by decide), by rw [← gInt_of t7]; exact hc 7 (by decide)⟩
set_option maxRecDepth 100000 in
theorem call_arg {r : Reach} {b0 : Nat} {v : Value} {d : DataW H} {p : List MemPlace} (hv : Value.okWide Tryd.prog W r b0 31 v) (h : DataW.Trod enc Tryd.prog W 0 (fun _ => true) true 31 v d p) : ∃ x hours, v = .agg (caCs x hours) := by
  obtain ⟨cs, rfl, hsz, hx⟩ := open_leaves Tryd.underlying31 leaves_call (by kernel_rfl) hv h
  obtain ⟨u0, m0, y0, c0, t0⟩ := hx 0 _ rfl
  obtain ⟨u1, m1, y1, c1, t1⟩ := hx 1 _ rfl
  obtain ⟨u2, m2, y2, c2, t2⟩ := hx 2 _ rfl
  obtain ⟨u3, m3, y3, c3, t3⟩ := hx 3 _ rfl
  obtain ⟨u4, m4, y4, c4, t4⟩ := hx 4 _ rfl
  obtain ⟨u5, m5, y5, c5, t5⟩ := hx 5 _ rfl
  obtain ⟨u6, m6, y6, c6, t6⟩ := hx 6 _ rfl
  obtain ⟨u7, m7, y7, c7, t7⟩ := hx 7 _ rfl
  obtain ⟨u8, m8, y8, c8, t8⟩ := hx 8 _ rfl
  obtain ⟨csl⟩ := cs
  match csl, hsz with
  | [a0, a1, a2, a3, a4, a5, a6, a7, a8], _ =>
    simp at c0 c1 c2 c3 c4 c5 c6 c7 c8
    subst c0 c1 c2 c3 c4 c5 c6 c7 c8
    refine ⟨⟨gStr a0, gStr a1, gInt a2, gInt a3, gInt a4, gInt a5, gInt a6, gInt a7⟩, gInt a8, ?_⟩
    unfold caCs
    dsimp only
    rw [← (gStr_of t0).1, ← (gStr_of t1).1, ← gInt_of t2, ← gInt_of t3, ← gInt_of t4, ← gInt_of t5, ← gInt_of t6, ← gInt_of t7, ← gInt_of t8]
theorem docks_arg {a : Option Addr} {n c : Nat} {d : DataW H} {p : List MemPlace} (h : DataW.Trod enc Tryd.prog W 0 (fun _ => true) true 22 (.slice a n c) d p) : ∃ l : List DBay, SD W (.slice a n c) l ∧ StrD l maxLen := by
  obtain ⟨fuel, hf⟩ := h
  exact bays_trod (v := .slice a n c) hf
theorem part_le {d : DataW H} {l : List (DataW H)} (h : d ∈ l) : Rows.uptoBulk d ≤ Rows.uptoBulkAll l := by
  induction l with
  | nil => cases h
  | cons x r ih =>
    simp only [Rows.uptoBulkAll]
    cases List.mem_cons.1 h with
    | inl e => subst e; omega
    | inr e => have := ih e; omega
theorem agg_le {d : DataW H} {l : List (DataW H)} (h : d ∈ l) : Rows.uptoBulk d ≤ Rows.uptoBulk (.agg l) := by
  have := part_le h
  simp only [Rows.uptoBulk]
  omega
theorem elem_le {d : DataW H} {l r : List (DataW H)} (h : d ∈ l) : Rows.uptoBulk d ≤ Rows.uptoBulk (.slice l r) := by
  have := part_le h
  simp only [Rows.uptoBulk]
  omega
theorem berth_bulk {fuel : Nat} {cs : List Value} {x : DataW H × List MemPlace} {s : List UInt8} {N : Nat} (h : DataW.trod enc Tryd.prog W 0 (fun _ => true) true fuel 29 cs = some x) (hc : cs.take 1 = [.string (bs s)]) (hN : Rows.uptoBulk x.1 ≤ N) : s.length ≤ N := by
  obtain ⟨ys, n', _, hy, _, hyl, hf⟩ := DataW.trod_struct Tryd.underlying29 h
  have hf0 := hf 0 _ rfl
  have hy0 : 0 < ys.length := by rw [hyl]; decide
  rw [List.getElem?_eq_getElem hy0] at hf0
  have hcs : (cs.drop 0).take (Tryd.prog.cellsOf 9) = [Value.string (bs s)] := by
    rw [show Tryd.prog.cellsOf 9 = 1 by kernel_rfl]; exact hc
  have hf0' : DataW.trod enc Tryd.prog W 0 (fun _ => true) true n' 9 ((cs.drop 0).take (Tryd.prog.cellsOf 9)) = some ys[0] := hf0
  rw [hcs] at hf0'
  obtain ⟨u, q1, q2, q3⟩ := DataW.trod_string Tryd.underlying9 hf0'
  simp only [List.cons.injEq, Value.string.injEq, and_true] at q1
  have k1 : Rows.uptoBulk (ys[0]).1 = s.length + 1 := by
    rw [q2, ← q1]
    simp [Rows.uptoBulk, bs]
  have k2 : Rows.uptoBulk (ys[0]).1 ≤ Rows.uptoBulk x.1 := by
    have e1 : x.1 = .agg (ys.map (·.1)) := by rw [hy]
    rw [e1]
    exact agg_le (List.mem_map.2 ⟨_, List.getElem_mem hy0, rfl⟩)
  omega
theorem berths_bulk {fuel : Nat} {v : Value} {l : List Ber} {x : DataW H × List MemPlace} {N : Nat} (h : DataW.trod enc Tryd.prog W 0 (fun _ => true) true fuel 23 [v] = some x) (hm : SB W v l) (hN : Rows.uptoBulk x.1 ≤ N) : ∀ u ∈ l, u.hull.length ≤ N := by
  intro u hu
  obtain ⟨i, hi, rfl⟩ := mem_bri hu
  obtain ⟨a0, cap, rfl, h1, h2, h3⟩ := hm
  obtain ⟨b, off, rfl, hat⟩ := h3 i hi
  rcases DataW.trod_slice Tryd.underlying23 h with ⟨e, _⟩ | ⟨a, len, cp, elems, rest, n, _, e, rfl, _, _, _, hl, hel, _, _⟩
  · simp at e
  · simp only [List.cons.injEq, Value.slice.injEq, Option.some.injEq, and_true] at e
    obtain ⟨rfl, rfl, _⟩ := e
    have he := hel i hi
    rw [show Tryd.prog.cellsOf 29 = 8 by kernel_rfl] at he
    rw [List.getElem?_eq_getElem (show i < elems.length by omega)] at he
    obtain ⟨cs, hc, ht⟩ := Option.bind_eq_some_iff.1 he
    obtain ⟨_, hcl, hca⟩ := World.cells?_some hc
    have hc0 := hca 0 (by decide)
    have hadd : (⟨b, off, none⟩ : Addr).add (i * 8) = ⟨b, off + i * 8, none⟩ := by unfold Addr.add; simp
    rw [hadd] at hc0
    have hc1 : W.cell? ((⟨b, off + i * 8, none⟩ : Addr).add 0) = W.cell? ⟨b, off + i * 8, none⟩ := by unfold Addr.add; simp
    rw [hc1, hat.c0] at hc0
    have hcs : cs.take 1 = [Value.string (bs (bri l i).hull)] := by
      cases cs with
      | nil => simp at hcl
      | cons c r => simp at hc0; subst hc0; rfl
    refine berth_bulk ht hcs ?_
    have k3 : Rows.uptoBulk (elems[i]).1 ≤ Rows.uptoBulk (DataW.slice (elems.map (·.1)) (rest.map (·.1))) := elem_le (List.mem_map.2 ⟨_, List.getElem_mem (by omega), rfl⟩)
    dsimp only at hN
    omega
theorem call_bulk {x : Ber} {hours : Int} {d : DataW H} {p : List MemPlace} {N : Nat} (h : DataW.Trod enc Tryd.prog W 0 (fun _ => true) true 31 (.agg (caCs x hours)) d p) (hN : Rows.uptoBulk d ≤ N) : x.hull.length ≤ N := by
  obtain ⟨fuel, hf⟩ := h
  have hf : DataW.trod enc Tryd.prog W 0 (fun _ => true) true fuel 31 (caCs x hours).toList = some (d, p) := hf
  obtain ⟨xs, n, _, hx, _, hxl, hg⟩ := DataW.trod_struct Tryd.underlying31 hf
  have hg0 := hg 0 _ rfl
  have h0 : 0 < xs.length := by rw [hxl]; decide
  rw [List.getElem?_eq_getElem h0] at hg0
  have hg0' : DataW.trod enc Tryd.prog W 0 (fun _ => true) true n 29 (((caCs x hours).toList.drop 0).take (Tryd.prog.cellsOf 29)) = some xs[0] := hg0
  rw [show Tryd.prog.cellsOf 29 = 8 by kernel_rfl] at hg0'
  refine berth_bulk hg0' rfl ?_
  have e1 : d = .agg (xs.map (·.1)) := congrArg Prod.fst hx
  have := agg_le (H := H) (d := (xs[0]).1) (l := xs.map (·.1)) (List.mem_map.2 ⟨_, List.getElem_mem h0, rfl⟩)
  rw [← e1] at this
  omega
/-- what is known of berths that came in -/
structure BeA (enc : TypeId × Value → H) (W : World) (v : Value) (d : DataW H) (l : List Ber) : Prop where
  sb : SB W v l
  nil : v = .slice none 0 0 ∨ ∃ ad n c, v = .slice (some ad) n c
  le : ∀ N, Rows.uptoBulk d ≤ N → StrB l N
theorem berths_arg {a : Option Addr} {n c : Nat} {d : DataW H} {p : List MemPlace} (h : DataW.Trod enc Tryd.prog W 0 (fun _ => true) true 23 (.slice a n c) d p) : ∃ l : List Ber, BeA enc W (.slice a n c) d l := by
  obtain ⟨fuel, hf⟩ := h
  obtain ⟨l, h1, h2⟩ := berths_trod (v := .slice a n c) hf
  exact ⟨l, h1, h2, fun N hN => ⟨berths_bulk (v := .slice a n c) hf h1 hN⟩⟩
theorem bound {l : List (DataW H)} (hk : Rows.uptoSmall H l = true) : Rows.uptoBulkAll l ≤ 1048576 := by
  unfold Rows.uptoSmall at hk
  rw [decide_eq_true_eq] at hk
  exact hk
end
end Go.Proofs.YtgmecjmepbaolaaDoor
