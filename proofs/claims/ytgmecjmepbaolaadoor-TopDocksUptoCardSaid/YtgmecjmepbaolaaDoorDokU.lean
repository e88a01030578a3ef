/- Contract: Fit of dock's reference. -/
import Derived.Test.YtgmecjmepbaolaaDoorDokS2
set_option linter.unusedSimpArgs false
set_option linter.unusedVariables false
namespace Go.Proofs.YtgmecjmepbaolaaDoor
open Go.RowKit

theorem foldP_mem (p : Ber → Bool) (f : Ber → Int) (t : Int) : ∀ (l : List Ber) (acc : List Int), t ∈ l.foldl (fun acc u => if p u = true then withL acc (f u) else acc) acc ↔ t ∈ acc ∨ ∃ u ∈ l.filter p, f u = t
  | [], acc => by simp
  | u :: l, acc => by
    rw [List.foldl_cons, foldP_mem p f t l]
    by_cases h : p u = true
    · rw [if_pos h, withL_mem, List.filter_cons, if_pos h]
      constructor
      · rintro ((h1 | h1) | ⟨v, hv, h2⟩)
        · exact .inl h1
        · exact .inr ⟨u, List.mem_cons_self .., h1.symm⟩
        · exact .inr ⟨v, List.mem_cons_of_mem _ hv, h2⟩
      · rintro (h1 | ⟨v, hv, h2⟩)
        · exact .inl (.inl h1)
        · rcases List.mem_cons.1 hv with rfl | hv
          · exact .inl (.inr h2.symm)
          · exact .inr ⟨v, hv, h2⟩
    · rw [if_neg h, List.filter_cons, if_neg h]
theorem foldP_len (p : Ber → Bool) (f : Ber → Int) : ∀ (l : List Ber) (acc : List Int), (l.foldl (fun acc u => if p u = true then withL acc (f u) else acc) acc).length ≤ acc.length + l.length
  | [], acc => by simp
  | u :: l, acc => by
    rw [List.foldl_cons]
    refine Nat.le_trans (foldP_len p f l _) ?_
    by_cases h : p u = true
    · rw [if_pos h]; have := withL_len acc (f u); simp; omega
    · rw [if_neg h, List.length_cons]; omega
def tsR (l : List Ber) (a : Int) : List Int := l.foldl (fun acc u => if decide (a < u.b) = true then withL acc u.b else acc) [a]
def esR (l : List Ber) (dock : List UInt8) (t : Int) : List Int := l.foldl (fun acc u => if (u.dock == dock && decide (t < u.b)) = true then withL acc u.b else acc) [t]
theorem tsR_mem {l : List Ber} {a t : Int} : t ∈ tsR l a ↔ t ∈ endsL l a := by
  unfold tsR endsL
  rw [foldP_mem (fun u => decide (a < u.b)) (·.b), List.mem_singleton, List.mem_cons, List.mem_map]
theorem esR_mem {l : List Ber} {dock : List UInt8} {a t : Int} : t ∈ esR l dock a ↔ t ∈ endsD l dock a := by
  unfold esR endsD
  rw [foldP_mem (fun u => u.dock == dock && decide (a < u.b)) (·.b), List.mem_singleton, List.mem_cons, List.mem_map]
theorem tsR_len (l : List Ber) (a : Int) : (tsR l a).length ≤ l.length + 1 := by have := foldP_len (fun u => decide (a < u.b)) (·.b) l [a]; unfold tsR; rw [List.length_singleton] at this; omega
theorem esR_len (l : List Ber) (dock : List UInt8) (a : Int) : (esR l dock a).length ≤ l.length + 1 := by have := foldP_len (fun u => u.dock == dock && decide (a < u.b)) (·.b) l [a]; unfold esR; rw [List.length_singleton] at this; omega
theorem tsR_snoc (l : List Ber) (u : Ber) (a : Int) : tsR (l ++ [u]) a = if decide (a < u.b) = true then withL (tsR l a) u.b else tsR l a := by unfold tsR; rw [List.foldl_append]; rfl
theorem esR_snoc (l : List Ber) (u : Ber) (dock : List UInt8) (a : Int) : esR (l ++ [u]) dock a = if (u.dock == dock && decide (a < u.b)) = true then withL (esR l dock a) u.b else esR l dock a := by unfold esR; rw [List.foldl_append]; rfl
/-- the reference finds a place in dock d from s to e -/
def FoundR (docks : List DBay) (l : List Ber) (x : Ber) (hours s : Int) (d : DBay) (e : Int) : Prop := e ∈ endsD l d.name (s + hours) ∧ atF docks l (mkBer x.hull d x.len x.wid s e) = true
def RFitV (docks : List DBay) (l : List Ber) (x : Ber) (hours : Int) (v : Value) : Prop :=
  ∃ y er, v = .tuple #[.agg (syCs y), .int .i64 er] ∧
  if idB x.hull = false then er = 6 else if l.any (fun u => u.hull == x.hull) = true then er = 7 else
  if askB x hours = false then er = 9 else
  (er = 0 ∧ ∃ s ∈ endsL l x.a, ∃ d ∈ docks, ∃ e, FoundR docks l x hours s d e) ∨ (er = 18 ∧ ∀ s ∈ endsL l x.a, ∀ d ∈ docks, ∀ e, ¬ FoundR docks l x hours s d e)
theorem enter_at : ∀ args w, (callFunc 25 args).run Tryd.prog w = .ok (.enter 25 args) w := enters_of Tryd.func25 (by kernel_rfl) rfl
def dkT2 : QTab := { dkT with en := fun f => match f with | 25 => true | _ => false }
theorem dkT2_en (f : FuncId) (h : dkT2.en f = true) (args : Array Value) (w : World) : (callFunc f args).run Tryd.prog w = .ok (.enter f args) w := by
  dsimp only [dkT2] at h
  split at h
  · exact enter_at args w
  · cases h
theorem dkT2_ok : dkT2.Ok := ⟨dkT_ok.fo, dkT_ok.sc, dkT_ok.ag, dkT_ok.es, dkT_ok.ln, dkT2_en, dkT_ok.sl⟩
theorem build_span (a b : Int) (w : World) : (Instr.build 27 #[(0, .int .i64 a), (1, .int .i64 b)]).run Tryd.prog w = .ok (.agg #[.int .i64 a, .int .i64 b]) w := by go_simp
theorem build_ber (h d : ByteArray) (len wid a b : Int) (w : World) : (Instr.build 29 #[(0, .string h), (1, .string d), (3, .int .i64 len), (4, .int .i64 wid), (5, .agg #[.int .i64 a, .int .i64 b])]).run Tryd.prog w = .ok (.agg #[.string h, .string d, .int .i64 0, .int .i64 0, .int .i64 len, .int .i64 wid, .int .i64 a, .int .i64 b]) w := by go_simp
theorem obs4 {C : World → Prop} {x y z u : Ob} (hx : ∀ w, C w → w.rangeAt x.b x.off x.cells) (hy : ∀ w, C w → w.rangeAt y.b y.off y.cells) (hz : ∀ w, C w → w.rangeAt z.b z.off z.cells) (hu : ∀ w, C w → w.rangeAt u.b u.off u.cells) : ObsIn C [x, y, z, u] := fun w hw k => by
  match k with
  | 0 => exact hx w hw
  | 1 => exact hy w hw
  | 2 => exact hz w hw
  | 3 => exact hu w hw
  | k + 4 => intro j v h; cases h
theorem intR {w : World} {b off : Nat} {v : Value} (h : w.cell? ⟨b, off, none⟩ = some v) : w.rangeAt b off [v] := fun j u hj => by
  match j with
  | 0 => cases hj; exact h
  | j + 1 => cases hj
theorem ask_not2 (x : Ber) (hours : Int) : (decide (x.len < 1) || decide (524288 < x.len) || decide (x.wid < 1) || decide (524288 < x.wid) || decide (hours < 1) || decide (1048576 < hours) || decide (x.a < 0) || decide (1048576 < x.a)) = !askB x hours := by
  rw [Bool.eq_iff_iff]
  simp only [Bool.or_eq_true, decide_eq_true_eq, Bool.not_eq_true', ← Bool.not_eq_true, ask_iff]
  omega
set_option maxRecDepth 100000 in
set_option maxHeartbeats 2000000 in
theorem rFit_any (dv lv : Value) (docks : List DBay) (l : List Ber) (x : Ber) (hours : Int) (w : World) (hd : SD w dv docks) (hl : SB w lv l) (hnil : lv = .slice none 0 0 ∨ ∃ ad n c, lv = .slice (some ad) n c) (hsd : StrD docks maxLen) (hsb : StrB l 1100000) (hx : x.hull.length ≤ 1100000) (hn : l.length ≤ 8) (hok : dokE docks l = 0) (hdn : docks.length ≤ 3) :
    Calls Tryd.prog 8 #[dv, lv, syV x, .int .i64 hours] w (RetP w (RFitV docks l x hours)) := by
  have HD := Lib.hid hd; have HL := Lib.hid hl; have HSD := Lib.hid hsd; have HSB := Lib.hid hsb; have HX := Lib.hid hx; have HOK := Lib.hid hok; have HNIL := Lib.hid hnil
  obtain ⟨da, dc, rfl, d1, d2, d3⟩ := hd
  obtain ⟨la, lc, rfl, l1, l2, l3⟩ := hl
  have D3 := Lib.hid d3; have L3 := Lib.hid l3
  clear hsd hsb d3 l3 hx hok hnil
  unfold maxLen at d2 l2
  have HFV : Hid (∀ y er, RFitV docks l x hours (.tuple #[.agg (syCs y), .int .i64 er]) ↔ (if idB x.hull = false then er = 6 else if l.any (fun u => u.hull == x.hull) = true then er = 7 else
  if askB x hours = false then er = 9 else
  (er = 0 ∧ ∃ s ∈ endsL l x.a, ∃ d ∈ docks, ∃ e, FoundR docks l x hours s d e) ∨ (er = 18 ∧ ∀ s ∈ endsL l x.a, ∀ d ∈ docks, ∀ e, ¬ FoundR docks l x hours s d e))) := fun y er => by
    unfold RFitV
    constructor
    · rintro ⟨y', er', e, h⟩
      simp only [Value.tuple.injEq, Array.mk.injEq, List.cons.injEq, Value.int.injEq, and_true, true_and] at e
      rw [e.2]; exact h
    · exact fun h => ⟨y, er, rfl, h⟩
  obtain ⟨W0, HX0, HR0, HB0, HZ0, HW⟩ := start_fit w x
  unfold syV
  go_enter Tryd.func8, Tryd.ntmps8
  go_wp2_with fail
  rw [HW.out]
  clear HW
  refine (rdCheck_any _ _ docks l W0 (HD.out.keep HB0.out) (HL.out.keep HB0.out) HSD.out HSB.out (by omega)).mono ?_
  rintro e w1 ⟨rfl, h1⟩
  rw [HOK.out]
  have HB1 := Lib.hid (ext_trans HB0.out h1)
  have HX1 := Lib.hid (HX0.out.keep h1)
  have HR1 := Lib.hid (HR0.out.keep h1)
  clear h1 HX0 HR0
  have p0 := (syC HX1.out).c0
  go_wp2_with fail
  refine (rIsId_any _ _ (by rw [bs_size]; exact HX.out)).mono ?_
  clear p0
  rintro e w2 ⟨rfl, h2⟩
  rw [bs_list]
  have HB2 := Lib.hid (ext_trans HB1.out h2)
  have HX2 := Lib.hid (HX1.out.keep h2)
  have HR2 := Lib.hid (HR1.out.keep h2)
  clear h2 HX1 HR1
  cases hid : idB x.hull
  · have HV : Hid (RFitV docks l x hours (.tuple #[.agg (syCs default), .int .i64 6])) := by show RFitV _ _ _ _ _; rw [HFV.out, if_pos hid]
    clear hid HFV
    go_wp2_with (refine wpList_store_row (o := ⟨none, .store _ _ _, _, _, _, _⟩) rfl 29 (.tmp 8) (.tmp 31) rfl (w.heap.size + 1) (syCs default) rfl rfl 29 _ HR2.out info_Berth rfl (one_ber _) ?_)
    refine bodyPost_ret (v := .tuple #[.agg (syCs default), .int .i64 6]) (results_two Tryd.results8 rfl rfl (load_Ber (setRow_heap _ _ _ _ _ _ HR2.out))) rfl ⟨_, rfl, HV.out, below_setRow HB2.out (by omega) _⟩
  have HID := Lib.hid hid; clear hid
  have p0 := (syC HX2.out).c0
  go_wp2_with fail
  clear p0
  refine (rfindB_any _ l x.hull w2 (HL.out.keep HB2.out)).mono ?_
  rintro e w3 ⟨rfl, h3⟩
  have HB3 := Lib.hid (ext_trans HB2.out h3)
  have HX3 := Lib.hid (HX2.out.keep h3)
  have HR3 := Lib.hid (HR2.out.keep h3)
  clear h3 HX2 HR2
  have HFA := Lib.hid (findG_any (fun b => b.hull == x.hull) l)
  obtain ⟨fi, hfi⟩ : ∃ fi, findG (fun b => b.hull == x.hull) l = fi := ⟨_, rfl⟩
  rw [hfi] at HFA ⊢
  clear hfi
  by_cases hex : 0 ≤ fi
  · have HV : Hid (RFitV docks l x hours (.tuple #[.agg (syCs default), .int .i64 7])) := by show RFitV _ _ _ _ _; rw [HFV.out, if_neg (by rw [HID.out]; decide), if_pos (by rw [← HFA.out, decide_eq_true hex])]
    clear HFV HFA
    go_wp2_with (refine wpList_store_row (o := ⟨none, .store _ _ _, _, _, _, _⟩) rfl 29 (.tmp 8) (.tmp 37) rfl (w.heap.size + 1) (syCs default) rfl rfl 29 _ HR3.out info_Berth rfl (one_ber _) ?_)
    refine bodyPost_ret (v := .tuple #[.agg (syCs default), .int .i64 7]) (results_two Tryd.results8 rfl rfl (load_Ber (setRow_heap _ _ _ _ _ _ HR3.out))) rfl ⟨_, rfl, HV.out, below_setRow HB3.out (by omega) _⟩
  have HEX : Hid (l.any (fun u => u.hull == x.hull) = false) := by show _ = _; rw [← HFA.out, decide_eq_false hex]
  clear HFA
  go_upto_region 8 with fail
  refine wp_region_et dkT dkT_ok [berO w.heap.size 0 x] (fun w' => w' = w3) [(6, 0)] [] [(75, .bool (!askB x hours))] (by kernel_rfl) rfl (obs1 fun w' hw' => by subst hw'; exact range_new HX3.out) ⟨rfl, trivial⟩ ?_
  conv => whnf
  intro f
  conv => whnf
  refine And.intro (congrArg Value.bool (ask_not2 x hours)) ?_
  conv => whnf
  intro w' hw'
  subst hw'
  obtain ⟨ak, hak⟩ : ∃ ak, askB x hours = ak := ⟨_, rfl⟩
  rw [hak]
  have HAK := Lib.hid hak; clear hak
  cases ak
  · have HV : Hid (RFitV docks l x hours (.tuple #[.agg (syCs default), .int .i64 9])) := by show RFitV _ _ _ _ _; rw [HFV.out, if_neg (by rw [HID.out]; decide), if_neg (by rw [HEX.out]; decide), if_pos HAK.out]
    clear HFV HEX
    go_wp2_with (refine wpList_store_row (o := ⟨none, .store _ _ _, _, _, _, _⟩) rfl 29 (.tmp 8) (.tmp 76) rfl (w.heap.size + 1) (syCs default) rfl rfl 29 _ HR3.out info_Berth rfl (one_ber _) ?_)
    refine bodyPost_ret (v := .tuple #[.agg (syCs default), .int .i64 9]) (results_two Tryd.results8 rfl rfl (load_Ber (setRow_heap _ _ _ _ _ _ HR3.out))) rfl ⟨_, rfl, HV.out, below_setRow HB3.out (by omega) _⟩
  have HFV2 : Hid (∀ y er, RFitV docks l x hours (.tuple #[.agg (syCs y), .int .i64 er]) ↔ ((er = 0 ∧ ∃ s ∈ endsL l x.a, ∃ d ∈ docks, ∃ e, FoundR docks l x hours s d e) ∨ (er = 18 ∧ ∀ s ∈ endsL l x.a, ∀ d ∈ docks, ∀ e, ¬ FoundR docks l x hours s d e))) := fun y er => by
    rw [HFV.out, if_neg (by rw [HID.out]; decide), if_neg (by rw [HEX.out]; decide), if_neg (by rw [HAK.out]; decide)]
  clear HFV
  rw [Bool.not_true]
  have q6 := (syC HX3.out).c6
  have i0 : ((l.length : Int) == 128) = false := beq_eq_false_iff_ne.2 (by omega)
  obtain ⟨W4, hW4⟩ : ∃ W4, W4 = w'.alloc (.cells #[.int .i64 x.a] 3) := ⟨_, rfl⟩
  have HB4 : Hid (Below w.heap.size w W4) := by rw [hW4]; exact HB3.out.alloc HB3.out.size _
  have HX4 : Hid (ObjAt W4 w.heap.size (syCs x) 29) := by rw [hW4]; exact HX3.out.alloc _
  have HR4 : Hid (ObjAt W4 (w.heap.size + 1) (syCs default) 29) := by rw [hW4]; exact HR3.out.alloc _
  have HT4 : Hid (SI W4 (.slice (some ⟨w'.heap.size, 0, none⟩) 1 1) (tsR (l.take 0) x.a)) := by rw [hW4]; exact SI_one w' x.a 3
  have HW : Hid (w'.alloc (.cells #[.int .i64 x.a] 3) = W4) := hW4.symm
  clear hW4 HX3 HR3
  have hm : l.length ≤ 9223372036854775807 := by omega
  go_wp2_with fail
  rw [HW.out]
  clear HW q6 i0
  go_loopw [11, 12] (fun tv i wr => ∃ k : Nat, k ≤ l.length ∧ i = .int .i64 k ∧ Hid (Below W4.heap.size W4 wr) ∧ Hid (SI wr tv (tsR (l.take k) x.a))) (fun _ i _ => l.length - (intOf i).toNat)
  case atStart => exact ⟨0, Nat.zero_le _, rfl, Lib.hid (Below.refl _ _), HT4⟩
  case round =>
    obtain ⟨k, hk, rfl, hb, hts⟩ := hrel
    have HLT := Lib.hid (tsR_len (l.take k) x.a)
    have HTK : Hid ((l.take k).length = k) := by show _ = _; rw [List.length_take]; omega
    by_cases hlt : k < l.length
    · obtain ⟨b, off, rfl, hc⟩ := L3.out k hlt
      have HBW := Lib.hid (ext_trans HB4.out hb.out)
      have HC := Lib.hid (hc.keep HBW.out)
      have HO := Lib.hid (range_new (HX4.out.keep hb.out))
      clear hc
      obtain ⟨ta, tc, e, x1, x2, x3⟩ := hts.out
      subst e
      clear x1 x2 x3
      go_upto_region 16 with fail
      refine wp_region_ev dkT dkT_ok [berO b (off + k * 8) (bri l k), berO w.heap.size 0 x] (Below wr.heap.size wr) [(6, 1)] [(93, .ix k 0)] [(100, .bool (decide (x.a < (bri l k).b)))] (by kernel_rfl) mixed (by kernel_rfl) ((Below.refl _ _).drew) (obs2 (fun v hv => rangeKeep (bAt_range HC.out) hv) (fun v hv => rangeKeep HO.out hv)) ⟨rfl, trivial⟩ ?_
      conv => whnf
      refine And.intro (under_of ⟨rfl, hlt, rfl, rfl⟩) ?_
      conv => whnf
      intro f1
      conv => whnf
      refine And.intro rfl ?_
      conv => whnf
      intro w5 h5
      obtain ⟨dk, hdk⟩ : ∃ dk, decide (x.a < (bri l k).b) = dk := ⟨_, rfl⟩
      rw [hdk]
      have HB5 := Lib.hid (ext_trans hb.out h5)
      have HT5 := Lib.hid (hts.out.keep h5)
      have HC5 := Lib.hid (HC.out.keep h5)
      clear h5 hts HC HBW HO hb
      cases dk
      · have HTN : Hid (tsR (l.take (k + 1)) x.a = tsR (l.take k) x.a) := by show _ = _; rw [take_snoc hlt, tsR_snoc, if_neg (by rw [hdk]; decide)]
        clear hdk
        go_wp2_with fail
        go_roundw
        case rel => exact ⟨k + 1, by omega, by go_num, HB5, by rw [HTN.out]; exact HT5⟩
        case measure => simp [intOf]; omega
      · have HTN : Hid (tsR (l.take (k + 1)) x.a = withL (tsR (l.take k) x.a) (bri l k).b) := by show _ = _; rw [take_snoc hlt, tsR_snoc, if_pos hdk]
        obtain ⟨c0, c1, c2, c3, c4, c5, c6, c7⟩ := HC5.out
        have i1 : (k : Int) < l.length := by omega
        clear hdk
        go_wp2_with fail
        clear c0 c1 c2 c3 c4 c5 c6 c7 i1
        refine (with_any _ _ (bri l k).b w5 HT5.out (by have := HLT.out; have := HTK.out; omega)).mono ?_
        rintro e w6 ⟨v, rfl, ho, h6⟩
        have HB6 := Lib.hid (ext_trans HB5.out h6)
        have HT6 : Hid (SI w6 v (tsR (l.take (k + 1)) x.a)) := by show _; rw [HTN.out]; exact ho.si
        clear ho h6
        go_wp2_with fail
        go_roundw
        case rel => exact ⟨k + 1, by omega, by go_num, HB6, HT6⟩
        case measure => simp [intOf]; omega
    · obtain rfl : k = l.length := by omega
      have HT5 : Hid (SI wr u11 (tsR l x.a)) := by have := hts.out; rw [List.take_length] at this; exact this
      have HLT2 := Lib.hid (tsR_len l x.a)
      have HTM := Lib.hid (fun t => (tsR_mem (l := l) (a := x.a) (t := t)))
      obtain ⟨Ts, hTs⟩ : ∃ Ts, tsR l x.a = Ts := ⟨_, rfl⟩
      rw [hTs] at HT5 HLT2 HTM
      obtain ⟨wT, rfl⟩ : ∃ wT : World, wT = wr := ⟨_, rfl⟩
      have HBT := Lib.hid (ext_trans HB4.out hb.out)
      have HXT := Lib.hid (HX4.out.keep hb.out)
      have HRT := Lib.hid (HR4.out.keep hb.out)
      have n1 : Ts.length ≤ 1000 := by have := HLT2.out; omega
      obtain ⟨ta, tc, e, t1, t2, t3⟩ := HT5.out
      subst e
      have T3 := Lib.hid t3
      clear hTs hts hb t3 HLT HTK HLT2 HT4 HX4 HR4 HB4
      unfold maxLen at t2
      have HPL := Lib.hid (dok_plan ((dokE_iff docks l).1 HOK.out))
      have HTI := Lib.hid (tiB_of HPL.out (sides_plan HPL.out))
      have HSR : Hid (∀ k, k < Ts.length → 0 ≤ gi Ts k ∧ gi Ts k ≤ 1048576) := fun k hk => starts_small HPL.out (ask_iff.1 HAK.out).2.2.2 ((HTM.out _).1 (gi_mem hk))
      have HHR := Lib.hid (ask_iff.1 HAK.out)
      go_wp2_with fail
      go_loopw [13] (fun i wr => ∃ k : Nat, k ≤ Ts.length ∧ i = .int .i64 k ∧ Hid (Below wT.heap.size wT wr) ∧ Hid (∀ j, j < k → ∀ d ∈ docks, ∀ e, ¬ FoundR docks l x hours (gi Ts j) d e)) (fun i _ => Ts.length - (intOf i).toNat)
      case atStart => exact ⟨0, Nat.zero_le _, rfl, Lib.hid (Below.refl _ _), Lib.hid fun j hj => by omega⟩
      case round =>
        obtain ⟨k, hk, rfl, hb1, hf1⟩ := hrel
        by_cases hlt : k < Ts.length
        · go_wp2_with fail
          go_loopw [14] (fun i wr => ∃ m : Nat, m ≤ docks.length ∧ i = .int .i64 m ∧ Hid (Below wT.heap.size wT wr) ∧ Hid (∀ j, j < m → ∀ e, ¬ FoundR docks l x hours (gi Ts k) (byi docks j) e)) (fun i _ => docks.length - (intOf i).toNat)
          case atStart => exact ⟨0, Nat.zero_le _, rfl, hb1, Lib.hid fun j hj => by omega⟩
          case round =>
            obtain ⟨m, hm3, rfl, hb2, hf2⟩ := hrel
            by_cases hlt2 : m < docks.length
            · obtain ⟨db, dof, rfl, hc⟩ := D3.out m hlt2
              have HDC := Lib.hid (dAt_range (hc.keep (ext_trans HBT.out hb2.out)))
              clear hc
              obtain ⟨tb, tof, rfl, hc⟩ := T3.out k hlt
              have HTC := Lib.hid (intR (cell_keep hb2.out hc))
              have hcc := cell_keep hb2.out hc
              have hsr := HSR.out k hlt
              have hhr := HHR.out.2.2.1
              have i1 : (k : Int) < Ts.length := by omega
              clear hc
              obtain ⟨s, hs⟩ : ∃ s, gi Ts k = s := ⟨_, rfl⟩
              obtain ⟨d, hd⟩ : ∃ d, byi docks m = d := ⟨_, rfl⟩
              have HS := Lib.hid hs; have HDD := Lib.hid hd
              rw [hs] at HTC hcc hsr
              rw [hd] at HDC
              clear hs hd
              obtain ⟨W5, hW5⟩ : ∃ W5, W5 = wr.alloc (.cells #[.int .i64 (s + hours)] 3) := ⟨_, rfl⟩
              have HB5 : Hid (Below wT.heap.size wT W5) := by rw [hW5]; exact hb2.out.alloc hb2.out.size _
              have HE5 : Hid (SI W5 (.slice (some ⟨wr.heap.size, 0, none⟩) 1 1) (esR (l.take 0) d.name (s + hours))) := by rw [hW5]; exact SI_one wr (s + hours) 3
              have HK5 : Hid (Below wr.heap.size wr W5) := by rw [hW5]; exact (Below.refl _ _).alloc (Nat.le_refl _) _
              have HW : Hid (wr.alloc (.cells #[.int .i64 (s + hours)] 3) = W5) := hW5.symm
              have HDC5 := Lib.hid (rangeKeep HDC.out HK5.out)
              have HTC5 := Lib.hid (rangeKeep HTC.out HK5.out)
              clear hW5 HDC HTC
              go_upto_region 25 with fail
              rw [HW.out]
              clear HW hcc HK5 i1
              go_wp2_with fail
              go_loopw [15, 16] (fun ev i wr => ∃ q : Nat, q ≤ l.length ∧ i = .int .i64 q ∧ Hid (Below W5.heap.size W5 wr) ∧ Hid (SI wr ev (esR (l.take q) d.name (s + hours)))) (fun _ i _ => l.length - (intOf i).toNat)
              case atStart => exact ⟨0, Nat.zero_le _, rfl, Lib.hid (Below.refl _ _), HE5⟩
              case round =>
                obtain ⟨q, hq, rfl, hb3, hes⟩ := hrel
                have HLE := Lib.hid (esR_len (l.take q) d.name (s + hours))
                have HTK : Hid ((l.take q).length = q) := by show _ = _; rw [List.length_take]; omega
                by_cases hlt3 : q < l.length
                · obtain ⟨b, off, rfl, hc⟩ := L3.out q hlt3
                  have HC := Lib.hid (hc.keep (ext_trans HBT.out (ext_trans HB5.out hb3.out)))
                  have HDC6 := Lib.hid (rangeKeep HDC5.out hb3.out)
                  have HTC6 := Lib.hid (rangeKeep HTC5.out hb3.out)
                  clear hc
                  obtain ⟨ea, ec, e, x1, x2, x3⟩ := hes.out
                  subst e
                  clear x1 x2 x3
                  go_upto_region 28 with fail
                  refine wp_region_ev dkT dkT_ok [berO b (off + q * 8) (bri l q), bayO db (dof + m * 3) d, ⟨tb, tof + k, [.int .i64 s]⟩] (Below wr.heap.size wr) [] [(136, .ix q 0), (141, .ix m 1), (148, .ix q 0), (154, .ix k 2)] [(159, .bool ((bri l q).dock == d.name && decide (s + hours < (bri l q).b)))] (by kernel_rfl) mixed (by kernel_rfl) ((Below.refl _ _).drew) (obs3 (fun v hv => rangeKeep (bAt_range HC.out) hv) (fun v hv => rangeKeep HDC6.out hv) (fun v hv => rangeKeep HTC6.out hv)) trivial ?_
                  conv => whnf
                  refine And.intro (under_of ⟨rfl, hlt3, rfl, rfl⟩) ?_
                  conv => whnf
                  refine And.intro (under_of ⟨rfl, hlt2, rfl, rfl⟩) ?_
                  conv => whnf
                  refine And.intro (under_of ⟨rfl, hlt3, rfl, rfl⟩) ?_
                  conv => whnf
                  refine And.intro (under_of ⟨rfl, hlt, rfl, by show tof + k = tof + k * 1; omega⟩) ?_
                  conv => whnf
                  refine And.intro (under_of (by omega)) ?_
                  conv => whnf
                  intro f1
                  conv => whnf
                  refine And.intro (congrArg Value.bool (by rw [bs_eq])) ?_
                  conv => whnf
                  intro w5 h5
                  obtain ⟨dk, hdk⟩ : ∃ dk, ((bri l q).dock == d.name && decide (s + hours < (bri l q).b)) = dk := ⟨_, rfl⟩
                  rw [hdk]
                  have HB7 := Lib.hid (ext_trans hb3.out h5)
                  have HE7 := Lib.hid (hes.out.keep h5)
                  have HC7 := Lib.hid (HC.out.keep h5)
                  clear h5 hes HC HDC6 HTC6 hb3
                  cases dk
                  · have HTN : Hid (esR (l.take (q + 1)) d.name (s + hours) = esR (l.take q) d.name (s + hours)) := by show _ = _; rw [take_snoc hlt3, esR_snoc, if_neg (by rw [hdk]; decide)]
                    clear hdk
                    go_wp2_with fail
                    go_roundw
                    case rel => exact ⟨q + 1, by omega, by go_num, HB7, by rw [HTN.out]; exact HE7⟩
                    case measure => simp [intOf]; omega
                  · have HTN : Hid (esR (l.take (q + 1)) d.name (s + hours) = withL (esR (l.take q) d.name (s + hours)) (bri l q).b) := by show _ = _; rw [take_snoc hlt3, esR_snoc, if_pos hdk]
                    obtain ⟨c0, c1, c2, c3, c4, c5, c6, c7⟩ := HC7.out
                    have i1 : (q : Int) < l.length := by omega
                    clear hdk
                    go_wp2_with fail
                    clear c0 c1 c2 c3 c4 c5 c6 c7 i1
                    refine (with_any _ _ (bri l q).b w5 HE7.out (by have := HLE.out; have := HTK.out; omega)).mono ?_
                    rintro e w6 ⟨v, rfl, ho, h6⟩
                    have HB8 := Lib.hid (ext_trans HB7.out h6)
                    have HE8 : Hid (SI w6 v (esR (l.take (q + 1)) d.name (s + hours))) := by show _; rw [HTN.out]; exact ho.si
                    clear ho h6
                    go_wp2_with fail
                    go_roundw
                    case rel => exact ⟨q + 1, by omega, by go_num, HB8, HE8⟩
                    case measure => simp [intOf]; omega
                · obtain rfl : q = l.length := by omega
                  have HE6 : Hid (SI wr u15 (esR l d.name (s + hours))) := by have := hes.out; rw [List.take_length] at this; exact this
                  have HLE2 := Lib.hid (esR_len l d.name (s + hours))
                  have HEM := Lib.hid (fun t => (esR_mem (l := l) (dock := d.name) (a := s + hours) (t := t)))
                  obtain ⟨Es, hEs⟩ : ∃ Es, esR l d.name (s + hours) = Es := ⟨_, rfl⟩
                  rw [hEs] at HE6 HLE2 HEM
                  obtain ⟨wE, rfl⟩ : ∃ wE : World, wE = wr := ⟨_, rfl⟩
                  have HB6 := Lib.hid (ext_trans HB5.out hb3.out)
                  have HDC6 := Lib.hid (rangeKeep HDC5.out hb3.out)
                  have HTC6 := Lib.hid (rangeKeep HTC5.out hb3.out)
                  have n2 : Es.length ≤ 1000 := by have := HLE2.out; omega
                  obtain ⟨ea, ec, e, e1, e2, e3⟩ := HE6.out
                  subst e
                  have E3 := Lib.hid e3
                  clear hEs hes hb3 e3 HLE HTK HLE2 HE5 HDC5 HTC5 HB5
                  unfold maxLen at e2
                  go_wp2_with fail
                  go_loopw [17] (fun i wr => ∃ n : Nat, n ≤ Es.length ∧ i = .int .i64 n ∧ Hid (Below wE.heap.size wE wr) ∧ Hid (∀ j, j < n → ¬ FoundR docks l x hours (gi Ts k) (byi docks m) (gi Es j))) (fun i _ => Es.length - (intOf i).toNat)
                  case atStart => exact ⟨0, Nat.zero_le _, rfl, Lib.hid (Below.refl _ _), Lib.hid fun j hj => by omega⟩
                  case round =>
                    obtain ⟨n, hn5, rfl, hb4, hf4⟩ := hrel
                    by_cases hlt4 : n < Es.length
                    · obtain ⟨eb, eof, rfl, hc⟩ := E3.out n hlt4
                      have HEC := Lib.hid (intR (cell_keep hb4.out hc))
                      have HDC7 := Lib.hid (rangeKeep HDC6.out hb4.out)
                      have HTC7 := Lib.hid (rangeKeep HTC6.out hb4.out)
                      have HXE := Lib.hid (range_new (HXT.out.keep (ext_trans HB6.out hb4.out)))
                      have HB8 := Lib.hid (ext_trans HBT.out (ext_trans HB6.out hb4.out))
                      clear hc
                      obtain ⟨z, hz⟩ : ∃ z, z = mkBer x.hull d x.len x.wid s (gi Es n) := ⟨_, rfl⟩
                      go_upto_region 33 with fail
                      refine wp_region_as dkT2 dkT2_ok [berO w.heap.size 0 x, bayO db (dof + m * 3) d, ⟨tb, tof + k, [.int .i64 s]⟩, ⟨eb, eof + n, [.int .i64 (gi Es n)]⟩] [(6, 0)] [(181, .ix m 1), (190, .ix k 2), (194, .ix n 3), (196, .ret (.agg #[.int .i64 s, .int .i64 (gi Es n)])), (197, .ret (syV (mkBer x.hull d x.len x.wid s (gi Es n)))), (198, .ret (atV docks l (mkBer x.hull d x.len x.wid s (gi Es n))))] [(19, .bool (atF docks l (mkBer x.hull d x.len x.wid s (gi Es n))))] 27 28 18 199 29 (syCs default) (syCs (atB docks l (mkBer x.hull d x.len x.wid s (gi Es n)))) (by kernel_rfl) mixed (by kernel_rfl) rfl ⟨_, rfl, rfl, rfl⟩ ⟨_, rfl, rfl, rfl, ⟨27, .data⟩, by simp, rfl, rfl⟩ alloc_Berth info_Berth rfl (one_ber _) (obs4 (fun v hv => rangeKeep HXE.out hv) (fun v hv => rangeKeep HDC7.out hv) (fun v hv => rangeKeep HTC7.out hv) (fun v hv => rangeKeep HEC.out hv)) ⟨rfl, trivial⟩ ?_
                      conv => whnf
                      refine And.intro (under_of ⟨rfl, hlt2, rfl, rfl⟩) ?_
                      conv => whnf
                      refine And.intro (under_of ⟨rfl, hlt, rfl, by show tof + k = tof + k * 1; omega⟩) ?_
                      conv => whnf
                      refine And.intro (under_of ⟨rfl, hlt4, rfl, by show eof + n = eof + n * 1; omega⟩) ?_
                      conv => whnf
                      refine And.intro (under_of fun w => build_span _ _ w) ?_
                      conv => whnf
                      refine And.intro (under_of fun w => build_ber _ _ _ _ _ _ w) ?_
                      conv => whnf
                      refine And.intro (under_of fun v hv => at_any _ _ docks l (mkBer x.hull d x.len x.wid s (gi Es n)) v (HD.out.keep (ext_trans HB8.out hv)) (HL.out.keep (ext_trans HB8.out hv)) HNIL.out HSD.out HSB.out HX.out hn HTI.out) ?_
                      conv => whnf
                      refine And.intro rfl ?_
                      intro f2 nb
                      conv => whnf
                      refine And.intro rfl ?_
                      conv => whnf
                      intro w7 h7 _ hy7
                      have HB9 := Lib.hid (ext_trans hb4.out h7)
                      have HY7 := Lib.hid hy7
                      clear h7 hy7 hz HEC HDC7 HTC7 HXE HB8
                      have HFE : Hid (FoundR docks l x hours (gi Ts k) (byi docks m) (gi Es n) ↔ atF docks l (mkBer x.hull d x.len x.wid s (gi Es n)) = true) := by
                        show _ ↔ _
                        unfold FoundR
                        rw [HS.out, HDD.out]
                        exact ⟨fun h => h.2, fun h => ⟨(HEM.out _).1 (gi_mem hlt4), h⟩⟩
                      obtain ⟨fl, hfl⟩ : ∃ fl, atF docks l (mkBer x.hull d x.len x.wid s (gi Es n)) = fl := ⟨_, rfl⟩
                      rw [hfl] at HFE ⊢
                      clear hfl
                      cases fl
                      · have HJ := Lib.hid (upto (q := fun j => ¬ FoundR docks l x hours (gi Ts k) (byi docks m) (gi Es j)) hf4.out (fun h => by have := HFE.out.1 h; cases this))
                        go_wp2_with fail
                        go_roundw
                        case rel => exact ⟨n + 1, by omega, by go_num, HB9, HJ⟩
                        case measure => simp [intOf]; omega
                      · obtain ⟨y, hy⟩ : ∃ y, atB docks l (mkBer x.hull d x.len x.wid s (gi Es n)) = y := ⟨_, rfl⟩
                        rw [hy] at HY7
                        have HV : Hid (RFitV docks l x hours (.tuple #[.agg (syCs y), .int .i64 0])) := by
                          show RFitV _ _ _ _ _; rw [HFV2.out]
                          exact .inl ⟨rfl, _, (HTM.out _).1 (gi_mem hlt), _, byi_mem hlt2, _, HFE.out.2 rfl⟩
                        have HO := Lib.hid (HRT.out.keep (ext_trans HB6.out HB9.out))
                        have HB := Lib.hid (ext_trans HBT.out (ext_trans HB6.out HB9.out))
                        obtain ⟨c0, c1, c2, c3, c4, c5, c6, c7⟩ := syC HY7.out
                        clear HFV2 hy
                        go_wp2_with (refine wpList_store_row (o := ⟨none, .store _ _ _, _, _, _, _⟩) rfl 29 (.tmp 8) (.tmp 202) rfl (w.heap.size + 1) (syCs y) rfl rfl 29 _ HO.out info_Berth rfl (one_ber _) ?_)
                        refine bodyPost_ret (v := .tuple #[.agg (syCs y), .int .i64 0]) (results_two Tryd.results8 rfl rfl (load_Ber (setRow_heap _ _ _ _ _ _ HO.out))) rfl ⟨_, rfl, HV.out, below_setRow HB.out (by omega) _⟩
                    · obtain rfl : n = Es.length := by omega
                      have HJ := Lib.hid (upto (q := fun j => ∀ e, ¬ FoundR docks l x hours (gi Ts k) (byi docks j) e) hf2.out (by
                        intro e hfo
                        have h1 := hfo.1
                        rw [HS.out, HDD.out] at h1
                        obtain ⟨j, hj, e'⟩ := mem_gi ((HEM.out e).2 h1)
                        rw [← e'] at hfo
                        exact hf4.out j hj hfo))
                      have HB7 := Lib.hid (ext_trans HB6.out hb4.out)
                      go_wp2_with fail
                      go_roundw
                      case rel => exact ⟨m + 1, by omega, by go_num, HB7, HJ⟩
                      case measure => simp [intOf]; omega
            · obtain rfl : m = docks.length := by omega
              have HJ := Lib.hid (upto (q := fun j => ∀ d ∈ docks, ∀ e, ¬ FoundR docks l x hours (gi Ts j) d e) hf1.out (by
                intro d hd
                obtain ⟨j, hj, rfl⟩ := mem_byi hd
                exact hf2.out j hj))
              go_wp2_with fail
              go_roundw
              case rel => exact ⟨k + 1, by omega, by go_num, hb2, HJ⟩
              case measure => simp [intOf]; omega
        · obtain rfl : k = Ts.length := by omega
          have HO := Lib.hid (HRT.out.keep hb1.out)
          have HB := Lib.hid (ext_trans HBT.out hb1.out)
          have HV : Hid (RFitV docks l x hours (.tuple #[.agg (syCs default), .int .i64 18])) := by
            show RFitV _ _ _ _ _; rw [HFV2.out]
            refine .inr ⟨rfl, fun s hs => ?_⟩
            obtain ⟨j, hj, e⟩ := mem_gi ((HTM.out s).2 hs)
            rw [← e]; exact hf1.out j hj
          clear HFV2
          go_wp2_with (refine wpList_store_row (o := ⟨none, .store _ _ _, _, _, _, _⟩) rfl 29 (.tmp 8) (.tmp 203) rfl (w.heap.size + 1) (syCs default) rfl rfl 29 _ HO.out info_Berth rfl (one_ber _) ?_)
          refine bodyPost_ret (v := .tuple #[.agg (syCs default), .int .i64 18]) (results_two Tryd.results8 rfl rfl (load_Ber (setRow_heap _ _ _ _ _ _ HO.out))) rfl ⟨_, rfl, HV.out, below_setRow HB.out (by omega) _⟩
end Go.Proofs.YtgmecjmepbaolaaDoor
