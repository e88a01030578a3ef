/- Contract: place of dock. -/
import Derived.Test.YtgmecjmepbaolaaDoorDokP0
set_option linter.unusedSimpArgs false
set_option linter.unusedVariables false
namespace Go.Proofs.YtgmecjmepbaolaaDoor
open Go.RowKit

theorem bAt_new (w : World) (x : Ber) (e : TypeId) : BAt (w.alloc (.cells (syCs x) e)) w.heap.size 0 x := by
  have h := syC (ObjAt.new w (syCs x) e)
  exact ⟨h.c0, h.c1, h.c2, h.c3, h.c4, h.c5, h.c6, h.c7⟩
structure TiB (u : Ber) : Prop where
  x0 : 0 ≤ u.x
  x1 : u.x ≤ 524288
  y0 : 0 ≤ u.y
  y1 : u.y ≤ 524288
  l0 : 1 ≤ u.len
  l1 : u.len ≤ 524288
  w0 : 1 ≤ u.wid
  w1 : u.wid ≤ 524288
theorem TiB.sm {u : Ber} (h : TiB u) : SmB u := by
  obtain ⟨a, b, c, d, e, f, g, i⟩ := h
  constructor <;> unfold smallB <;> omega
theorem obs3 {C : World → Prop} {x y z : Ob} (hx : ∀ w, C w → w.rangeAt x.b x.off x.cells) (hy : ∀ w, C w → w.rangeAt y.b y.off y.cells) (hz : ∀ w, C w → w.rangeAt z.b z.off z.cells) : ObsIn C [x, y, z] := fun w hw k => by
  match k with
  | 0 => exact hx w hw
  | 1 => exact hy w hw
  | 2 => exact hz w hw
  | k + 3 => intro j v h; cases h
theorem tog_snoc (l : List Ber) (u x : Ber) : togB (l ++ [u]) x = (togB l x && (!(u.dock == x.dock && meetT x u) || decide (u.b = x.b))) := by
  unfold togB; rw [List.all_append]; simp
theorem beside_snoc (l : List Ber) (u x : Ber) : besideL (l ++ [u]) x = if (u.dock == x.dock && meetT x u) = true then besideL l x ++ [u] else besideL l x := by
  unfold besideL; rw [List.filter_append]
  cases h : (u.dock == x.dock && meetT x u) <;> simp [List.filter_cons, h]
theorem tog_take {l : List Ber} {x : Ber} {k : Nat} (h : togB (l.take k) x = false) : togB l x = false := by
  unfold togB at *
  rw [List.all_eq_false] at *
  obtain ⟨u, hu, h2⟩ := h
  exact ⟨u, List.mem_of_mem_take hu, h2⟩
theorem beside_len (l : List Ber) (x : Ber) : (besideL l x).length ≤ l.length := List.length_filter_le _ _
/-- what place returns -/
def PlaceV (d : DBay) (l : List Ber) (x : Ber) (v : Value) : Prop := (∃ X Y, PlaceP d l x X Y ∧ v = .tuple #[.agg (syCs (x.put X Y)), .bool true]) ∨ ((∀ X Y, ¬ PlaceP d l x X Y) ∧ v = .tuple #[.agg (syCs default), .bool false])
def RetP (w : World) (P : Value → Prop) (e : Ending) (w' : World) : Prop := ∃ v, e = .returned v ∧ P v ∧ Below w.heap.size w w'
theorem place_tog {d : DBay} {l : List Ber} {x : Ber} (h : togB l x = false) : PlaceV d l x (.tuple #[.agg (syCs default), .bool false]) :=
  .inr ⟨fun X Y hp => absurd (h.symm.trans hp.1) (by decide), rfl⟩
theorem any_congr' {α : Type} {p q : α → Bool} {l : List α} (h : ∀ u ∈ l, p u = q u) : l.any p = l.any q := by
  induction l with
  | nil => rfl
  | cons a l ih => rw [List.any_cons, List.any_cons, h a (by simp), ih fun u hu => h u (by simp [hu])]
theorem beside_mem {l : List Ber} {x u : Ber} (h : u ∈ besideL l x) : u ∈ l := (List.mem_filter.1 h).1
theorem put_sm {l : List Ber} {x : Ber} {X Y : Int} (h : ∀ u ∈ l, TiB u) (hl : 1 ≤ x.len ∧ x.len ≤ 524288) (hw : 1 ≤ x.wid ∧ x.wid ≤ 524288) (hX : X ∈ candX (besideL l x)) (hY : Y ∈ candY (besideL l x)) : 0 ≤ X ∧ X ≤ 1048576 ∧ 0 ≤ Y ∧ Y ≤ 1048576 ∧ SmB (x.put X Y) := by
  have a : 0 ≤ X ∧ X ≤ 1048576 := by
    unfold candX at hX
    rw [List.mem_cons, List.mem_map] at hX
    rcases hX with rfl | ⟨u, hu, rfl⟩
    · omega
    · obtain ⟨a, b, c, d, e, f, g, i⟩ := h u (beside_mem hu)
      omega
  have b : 0 ≤ Y ∧ Y ≤ 1048576 := by
    unfold candY at hY
    rw [List.mem_cons, List.mem_map] at hY
    rcases hY with rfl | ⟨u, hu, rfl⟩
    · omega
    · obtain ⟨a, b, c, d, e, f, g, i⟩ := h u (beside_mem hu)
      omega
  refine ⟨a.1, a.2, b.1, b.2, ?_⟩
  constructor <;> (unfold smallB Ber.put; dsimp only; omega)
theorem any_meet (l : List Ber) (x : Ber) (X Y : Int) : (besideL l x).any (fun u => meetT (x.put X Y) u && meetS (x.put X Y) u) = (besideL l x).any (fun u => meetS (x.put X Y) u) := by
  have : ∀ u ∈ besideL l x, (meetT (x.put X Y) u && meetS (x.put X Y) u) = meetS (x.put X Y) u := by
    intro u hu
    have h := (List.mem_filter.1 hu).2
    simp only [Bool.and_eq_true] at h
    rw [show meetT (x.put X Y) u = meetT x u from rfl, h.2]; rfl
  exact any_congr' this
theorem obj_free {w : World} {b : Nat} {xs : Array Value} {e : TypeId} (h : ObjAt w b xs e) (i : Nat) : w.frozen? ⟨b, i, none⟩ = false := by
  have : w.heap[b]? = some (.cells xs e) := h
  simp [World.frozen?, this]
theorem placeC_any (u z : Ber) (b1 : Nat) (w : World) (h : ObjAt w b1 (syCs z) 29) (hz : SmB z) (hu : SmB u) : Calls Tryd.prog 37 #[syV u, .pointer (some ⟨b1, 0, none⟩)] w (Ret w (.bool (meetT z u && meetS z u))) := by
  have HM := Lib.hid (fun w' => meet_any z u w' hz hu)
  obtain ⟨W1, HO1, HC1, HW, _⟩ := copyB w u
  have HZ := Lib.hid (h.keep HC1.out)
  clear hz hu h
  unfold syV
  go_enter Tryd.func37, Tryd.ntmps37
  go_upto_region 1 with fail
  rw [HW.out]
  clear HW
  refine wp_region_et dkT dkT_ok [berO b1 0 z, berO w.heap.size 0 u] (Below W1.heap.size W1) [(1, 0), (2, 1)] [(6, .ret (.bool (meetT z u && meetS z u)))] [(3, .bool (meetT z u && meetS z u))] (by kernel_rfl) (Below.refl _ _) (obs2 (fun v hv => rangeKeep (range_new HZ.out) hv) (fun v hv => rangeKeep (range_new HO1.out) hv)) ⟨rfl, rfl, trivial⟩ ?_
  conv => whnf
  refine And.intro (Nat.le_refl 8) ?_
  conv => whnf
  refine And.intro (Nat.le_refl 8) ?_
  conv => whnf
  refine And.intro (under_of fun v hv => (HM.out v).mono fun e v' he => ⟨he.1, ext_trans hv he.2⟩) ?_
  conv => whnf
  intro f1
  conv => whnf
  refine And.intro rfl ?_
  conv => whnf
  intro w3 h3
  have HB := Lib.hid (ext_trans HC1.out h3)
  clear h3
  go_wp2_with fail
  go_ret
  exact ⟨rfl, HB.out⟩
theorem enter_placeC : ∀ args w, (callFunc 37 args).run Tryd.prog w = .ok (.enter 37 args) w := enters_of Tryd.func37 (by kernel_rfl) rfl
set_option maxRecDepth 100000 in
set_option maxHeartbeats 2000000 in
theorem place_any (v : Value) (d : DBay) (l : List Ber) (x : Ber) (w : World) (h : SB w v l) (hn : l.length ≤ 100) (hl : ∀ u ∈ l, TiB u) (hxl : sideB x.len = true) (hxw : sideB x.wid = true) (hxd : x.dock = d.name) :
    Calls Tryd.prog 22 #[dyV d, v, syV x] w (RetP w (PlaceV d l x)) := by
  obtain ⟨a, cap, rfl, h1, h2, h3⟩ := h
  have H3 := Lib.hid h3; have HT := Lib.hid hl; have HXL := Lib.hid hxl; have HXW := Lib.hid hxw; have HXD := Lib.hid hxd
  clear h3 hl hxl hxw hxd
  have hm : l.length ≤ 9223372036854775807 := by omega
  unfold dyV syV
  obtain ⟨W0, W1, HD0, HX0, HR0, HB0, HZ0, HB1, HOX, HOY, HW⟩ := start_place w d x
  have HR1 : Hid (Rows3 W1 W0.heap.size (.slice none 0 0) (.slice (some ⟨w.heap.size + 1 + 1 + 1, 0, none⟩) 1 1) (.slice (some ⟨w.heap.size + 1 + 1 + 1 + 1, 0, none⟩) 1 1) (besideL (l.take 0) x) (candX (besideL (l.take 0) x)) (candY (besideL (l.take 0) x))) :=
    ⟨OwnB_nil _ _, HOX.out, HOY.out, by simp [Value.ownBlock], by simp [Value.ownBlock], by simp [Value.ownBlock]⟩
  go_enter Tryd.func22, Tryd.ntmps22
  go_wp2_with fail
  rw [HW.out]
  clear HW
  go_loopw [8, 9, 10, 22] (fun sb sx sy i wr => ∃ k : Nat, k ≤ l.length ∧ i = .int .i64 k ∧ Hid (Below W0.heap.size W0 wr) ∧ Hid (togB (l.take k) x = true) ∧ Hid (Rows3 wr W0.heap.size sb sx sy (besideL (l.take k) x) (candX (besideL (l.take k) x)) (candY (besideL (l.take k) x)))) (fun _ _ _ i _ => l.length - (intOf i).toNat)
  case atStart => exact ⟨0, Nat.zero_le _, rfl, HB1, Lib.hid rfl, HR1⟩
  case round =>
    obtain ⟨k, hk, rfl, hb, htg, hr⟩ := hrel
    by_cases hlt : k < l.length
    · obtain ⟨b, off, rfl, hc⟩ := H3.out k hlt
      have HBW := Lib.hid (ext_trans HB0.out hb.out)
      obtain ⟨c0, c1, c2, c3, c4, c5, c6, c7⟩ := hc.keep HBW.out
      obtain ⟨W2, HO2, HC2, HW, HZ2⟩ := copyB wr (bri l k)
      have HB2 := Lib.hid (ext_trans hb.out HC2.out)
      have HR2 := Lib.hid (hr.out.below HC2.out)
      clear hc
      go_upto_region 6 with fail
      rw [HW.out]
      clear c0 c1 c2 c3 c4 c5 c6 c7 HW
      refine wp_region_et dkT dkT_ok [berO wr.heap.size 0 (bri l k), bayO w.heap.size 0 d, berO (w.heap.size + 1) 0 x] (fun v => v = W2) [(12, 0), (3, 1), (5, 2)] [] [(48, .bool (!((bri l k).dock == x.dock && meetT x (bri l k))))] (by kernel_rfl) rfl (obs3 (fun v hv => by subst hv; exact range_new HO2.out) (fun v hv => by subst hv; exact range_new (HD0.out.keep HB2.out)) (fun v hv => by subst hv; exact range_new (HX0.out.keep HB2.out))) ⟨rfl, rfl, rfl, trivial⟩ ?_
      conv => whnf
      intro f1
      conv => whnf
      refine And.intro ?_ ?_
      · refine congrArg Value.bool ?_
        rw [bs_eq, HXD.out]
        unfold meetT
        have e1 : decide (x.a < (bri l k).b) = !decide ((bri l k).b ≤ x.a) := by rw [← decide_not, decide_eq_decide]; omega
        have e2 : decide ((bri l k).a < x.b) = !decide (x.b ≤ (bri l k).a) := by rw [← decide_not, decide_eq_decide]; omega
        rw [e1, e2]
        cases ((bri l k).dock == d.name) <;> cases decide ((bri l k).b ≤ x.a) <;> cases decide (x.b ≤ (bri l k).a) <;> rfl
      conv => whnf
      intro w' hw'
      subst hw'
      have HTS := Lib.hid (tog_snoc (l.take k) (bri l k) x)
      have HBS := Lib.hid (beside_snoc (l.take k) (bri l k) x)
      rw [← take_bri hlt] at HTS HBS
      obtain ⟨mt, hmt⟩ : ∃ mt, ((bri l k).dock == x.dock && meetT x (bri l k)) = mt := ⟨_, rfl⟩
      rw [hmt]
      rw [hmt] at HTS HBS
      clear hmt
      cases mt
      · have HTG : Hid (togB (l.take (k + 1)) x = true) := by show _ = _; rw [HTS.out, htg.out]; rfl
        have HBE : Hid (besideL (l.take (k + 1)) x = besideL (l.take k) x) := by show _ = _; rw [HBS.out, if_neg (by decide)]
        have HR3 : Hid (Rows3 w' W0.heap.size u8 u9 u10 (besideL (l.take (k + 1)) x) (candX (besideL (l.take (k + 1)) x)) (candY (besideL (l.take (k + 1)) x))) := by show Rows3 ..; rw [HBE.out]; exact HR2.out
        go_wp2_with fail
        go_roundw
        case rel => exact ⟨k + 1, by omega, by go_num, HB2, HTG, HR3⟩
        case measure => simp [intOf]; omega
      have HBE : Hid (besideL (l.take (k + 1)) x = besideL (l.take k) x ++ [bri l k]) := by show _ = _; rw [HBS.out, if_pos rfl]
      obtain ⟨p0, p1, p2, p3, p4, p5, p6, p7⟩ := syC HO2.out
      obtain ⟨q0, q1, q2, q3, q4, q5, q6, q7⟩ := syC (HX0.out.keep HB2.out)
      by_cases heq : (bri l k).b = x.b
      rotate_left
      · have HTG := Lib.hid (tog_take (show togB (l.take (k + 1)) x = false by rw [HTS.out, decide_eq_false heq]; simp))
        have n1 : ((bri l k).b != x.b) = true := bne_iff_ne.2 heq
        clear heq
        have HRO := Lib.hid (HR0.out.keep HB2.out)
        clear p0 p1 p2 p3 p4 p5 q0 q1 q2 q3 q4 q5 q6
        go_wp2_with (refine wpList_store_row (o := ⟨none, .store _ _ _, _, _, _, _⟩) rfl 29 (.tmp 6) (.tmp 56) rfl (w.heap.size + 1 + 1) (syCs default) rfl rfl 29 _ HRO.out info_Berth rfl (one_ber _) ?_)
        refine bodyPost_ret (v := .tuple #[.agg (syCs default), .bool false]) (results_two Tryd.results22 rfl rfl (load_Ber (setRow_heap _ _ _ _ _ _ HRO.out))) rfl ⟨_, rfl, place_tog HTG.out, below_setRow (ext_trans HB0.out HB2.out) (by omega) _⟩
      have n1 : ((bri l k).b != x.b) = false := by rw [heq]; simp
      have HTG : Hid (togB (l.take (k + 1)) x = true) := by show _ = _; rw [HTS.out, htg.out, heq]; simp
      clear heq
      have HLN := Lib.hid (show (besideL (l.take k) x).length ≤ k from Nat.le_trans (beside_len _ _) (by rw [List.length_take]; omega))
      have hzw : W0.heap.size ≤ w'.heap.size := HB2.out.size
      -- the berth
      have HOA := Lib.hid (HR2.out.b.alloc (.cells #[.string (bs (bri l k).hull), .string (bs (bri l k).dock), .int .i64 (bri l k).x, .int .i64 (bri l k).y, .int .i64 (bri l k).len, .int .i64 (bri l k).wid, .int .i64 (bri l k).a, .int .i64 (bri l k).b] 29))
      have HSA := Lib.hid (sB_one (bAt_new w' (bri l k) 29))
      unfold syCs at HSA
      have HL1 : Hid ((besideL (l.take k) x).length + ([bri l k] : List Ber).length ≤ 1000000) := by show _ ≤ _; have := HLN.out; simp only [List.length_singleton]; omega
      clear q0 q1 q2 q3 q4 q5 q6
      go_wp2_with (at_builtin; refine wpList_app_B rfl (.tmp 57) (.tmp 59) rfl W0.heap.size _ (besideL (l.take k) x) [bri l k] rfl HOA.out ⟨w'.heap.size, 0, none⟩ 1 1 rfl HSA.out HL1.out ?c4 ?_)
      case c4 => first | omega | (simp; omega)
      intro v1 w1 ho1 hg1 _
      have HR3 := Lib.hid ((HR2.out.alloc _).appB ho1 hg1)
      have HB3 := Lib.hid (grown_below HB2.out (fun q hq => (OwnB.lt hr.out.b q hq).1) _ hg1)
      have HO3 := Lib.hid ((HO2.out.alloc _).grown hg1 (fun e => by have := (OwnB.lt hr.out.b _ e).2; omega))
      clear p0 p1 p2 p3 p4 p5 p6 p7 q7 ho1 hg1 HOA HSA
      obtain ⟨_, _, p2, p3, p4, p5, _, _⟩ := syC HO3.out
      have ti := HT.out _ (bri_mem hlt)
      obtain ⟨t0, t1, t2, t3, t4, t5, t6, t7⟩ := ti
      have hzw1 : W0.heap.size ≤ w1.heap.size := HB3.out.size
      -- x
      have HOA := Lib.hid (HR3.out.x.alloc (.cells #[.int .i64 ((bri l k).x + (bri l k).len)] 3))
      have HSA := Lib.hid (SI_one w1 ((bri l k).x + (bri l k).len) 3)
      have HL1 : Hid ((candX (besideL (l.take k) x)).length + ([(bri l k).x + (bri l k).len] : List Int).length ≤ 100000000) := by show _ ≤ _; have := HLN.out; unfold candX; simp only [List.length_cons, List.length_map, List.length_nil]; omega
      go_wp2_with (at_builtin; refine wpList_app_int rfl (.tmp 61) (.tmp 68) rfl W0.heap.size _ _ (candX (besideL (l.take k) x)) [(bri l k).x + (bri l k).len] rfl rfl HOA.out HSA.out HL1.out ?c4 ?_)
      case c4 => first | omega | (simp; omega)
      intro v2 w2 ho2 hg2 ha2
      have HR4 := Lib.hid ((HR3.out.alloc _).appX ho2 hg2 (ha2.imp_right fun e => ⟨_, e, by simp⟩))
      have HB4 := Lib.hid (grown_below HB3.out (fun q hq => (World.ownsRow.lt HR3.out.x q hq).1) _ hg2)
      have HO4 := Lib.hid ((HO3.out.alloc _).grown hg2 (fun e => by have := (World.ownsRow.lt HR2.out.x _ e).2; have := (World.ownsRow.lt hr.out.x _ e).2; omega))
      clear p2 p3 p4 p5 ho2 hg2 ha2 HOA HSA HL1
      obtain ⟨_, _, p2, p3, p4, p5, _, _⟩ := syC HO4.out
      have hzw2 : W0.heap.size ≤ w2.heap.size := HB4.out.size
      -- y
      have HOA := Lib.hid (HR4.out.y.alloc (.cells #[.int .i64 ((bri l k).y + (bri l k).wid)] 3))
      have HSA := Lib.hid (SI_one w2 ((bri l k).y + (bri l k).wid) 3)
      have HL1 : Hid ((candY (besideL (l.take k) x)).length + ([(bri l k).y + (bri l k).wid] : List Int).length ≤ 100000000) := by show _ ≤ _; have := HLN.out; unfold candY; simp only [List.length_cons, List.length_map, List.length_nil]; omega
      go_wp2_with (at_builtin; refine wpList_app_int rfl (.tmp 70) (.tmp 77) rfl W0.heap.size _ _ (candY (besideL (l.take k) x)) [(bri l k).y + (bri l k).wid] rfl rfl HOA.out HSA.out HL1.out ?c4 ?_)
      case c4 => first | omega | (simp; omega)
      intro v3 w3 ho3 hg3 ha3
      have HR5 := Lib.hid ((HR4.out.alloc _).appY ho3 hg3 (ha3.imp_right fun e => ⟨_, e, by simp⟩))
      have HB5 := Lib.hid (grown_below HB4.out (fun q hq => (World.ownsRow.lt HR4.out.y q hq).1) _ hg3)
      have HR6 : Hid (Rows3 w3 W0.heap.size v1 v2 v3 (besideL (l.take (k + 1)) x) (candX (besideL (l.take (k + 1)) x)) (candY (besideL (l.take (k + 1)) x))) := by
        show Rows3 ..
        have := HR5.out
        rw [HBE.out]; unfold candX candY at *
        rw [List.map_append, List.map_append]
        exact this
      clear p2 p3 p4 p5 ho3 hg3 ha3 HOA HSA HL1 t0 t1 t2 t3 t4 t5 t6 t7
      go_wp2_with fail
      go_roundw
      case rel => exact ⟨k + 1, by omega, by go_num, HB5, HTG, HR6⟩
      case measure => simp [intOf]; omega
    · obtain rfl : k = l.length := by omega
      have HTG : Hid (togB l x = true) := by have := htg.out; rw [List.take_length] at this; exact this
      have HR : Hid (Rows3 wr W0.heap.size u8 u9 u10 (besideL l x) (candX (besideL l x)) (candY (besideL l x))) := by have := hr.out; rw [List.take_length] at this; exact this
      have HLN := Lib.hid (beside_len l x)
      clear htg hr
      go_wp2_with fail
      refine (sort_any _ W0.heap.size _ _ (RowH.of HR.out.x) (by have := HLN.out; unfold candX; simp only [List.length_cons, List.length_map]; omega)).mono ?_
      rintro e w1 ⟨rfl, hx1, hb1, hg1⟩
      have HX1 := Lib.hid hx1
      have HY1 : Hid (OwnI w1 W0.heap.size u10 (candY (besideL l x))) := World.ownsRow.kept HR.out.y hg1 (.inr (fun e => HR.out.ne e.symm))
      have HS1 := Lib.hid (HR.out.keepB hg1)
      have HB2 := Lib.hid (hb.out.trans (hb1 _ (Nat.le_refl _) hb.out.size))
      clear hx1 hb1 hg1
      go_wp2_with fail
      refine (sort_any _ W0.heap.size _ _ (RowH.of HY1.out) (by have := HLN.out; unfold candY; simp only [List.length_cons, List.length_map]; omega)).mono ?_
      rintro e w2 ⟨rfl, hy2, hb2, hg2⟩
      have HY2 := Lib.hid hy2.si
      have HX2 : Hid (SI w2 u9 (sortL (candX (besideL l x)))) := (HX1.out.kept hg2 HR.out.ne).si
      have HS2 : Hid (SB w2 u8 (besideL l x)) := OwnB.s (World.ownsRow.kept HS1.out hg2 (owns_ne HS1.out HY1.out (by decide)))
      have HB3 := Lib.hid (HB2.out.trans (hb2 _ (Nat.le_refl _) HB2.out.size))
      clear hy2 hb2 hg2
      have NX : Hid (u9.ownBlock ≠ some (w.heap.size + 1)) := fun e => by have := (World.ownsRow.lt HR.out.x _ e).1; have := HZ0.out; omega
      have NY : Hid (u10.ownBlock ≠ some (w.heap.size + 1)) := fun e => by have := (World.ownsRow.lt HR.out.y _ e).1; have := HZ0.out; omega
      have NB : Hid (u8.ownBlock ≠ some (w.heap.size + 1)) := fun e => by have := (OwnB.lt HR.out.b _ e).1; have := HZ0.out; omega
      have HXM := Lib.hid (fun X => (sortL_mem (zs := candX (besideL l x)) (x := X)))
      have HYM := Lib.hid (fun Y => (sortL_mem (zs := candY (besideL l x)) (x := Y)))
      have HX3 := Lib.hid (sortL_len (candX (besideL l x)))
      have HY3 := Lib.hid (sortL_len (candY (besideL l x)))
      have HP0 : Hid (∃ X Y, P2 w w2 d x u8 u9 u10 (besideL l x) (sortL (candX (besideL l x))) (sortL (candY (besideL l x))) X Y) :=
        ⟨x.x, x.y, HX2.out, HY2.out, HS2.out, HD0.out.keep HB3.out, HX0.out.keep HB3.out, HR0.out.keep HB3.out, ext_trans HB0.out HB3.out⟩
      obtain ⟨Xs, hXs⟩ : ∃ Xs, sortL (candX (besideL l x)) = Xs := ⟨_, rfl⟩
      obtain ⟨Ys, hYs⟩ : ∃ Ys, sortL (candY (besideL l x)) = Ys := ⟨_, rfl⟩
      rw [hXs] at HX2 HXM HP0 HX3
      rw [hYs] at HY2 HYM HP0 HY3
      have n1 : Xs.length ≤ 1000 := by rw [HX3.out]; have := HLN.out; unfold candX; simp only [List.length_cons, List.length_map]; omega
      have n2 : Ys.length ≤ 1000 := by rw [HY3.out]; have := HLN.out; unfold candY; simp only [List.length_cons, List.length_map]; omega
      have hx := HX2.out; have hy := HY2.out; have hs := HS2.out
      obtain ⟨xa, xc, rfl, x1, x2, x3⟩ := hx
      obtain ⟨ya, yc, rfl, y1, y2, y3⟩ := hy
      obtain ⟨sa, sc, rfl, s1, s2, s3⟩ := hs
      clear hXs hYs HX1 HY1 HS1 HB2 HR x3 y3 s3
      unfold maxLen at x2 y2 s2
      go_wp2_with fail
      go_loopw [86] (fun i wr => ∃ j : Nat, j ≤ Ys.length ∧ i = .int .i64 j ∧ Hid (∃ X Y, P2 w wr d x (.slice sa (besideL l x).length sc) (.slice xa Xs.length xc) (.slice ya Ys.length yc) (besideL l x) Xs Ys X Y) ∧ Hid (∀ j', j' < j → ∀ X ∈ Xs, spotB d l x X (gi Ys j') = false)) (fun i _ => Ys.length - (intOf i).toNat)
      case atStart => exact ⟨0, Nat.zero_le _, rfl, HP0, Lib.hid fun j hj => by omega⟩
      case round =>
        obtain ⟨j, hj, rfl, hp, hf⟩ := hrel
        by_cases hlt : j < Ys.length
        · obtain ⟨X0, Y0, hp1⟩ := hp.out
          have hy := hp1.sy
          obtain ⟨yb, yo, rfl⟩ : ∃ b o, ya = some ⟨b, o, none⟩ := by
            obtain ⟨a', c', e', q1, q2, q3⟩ := hy
            obtain ⟨b', o', h', _⟩ := q3 j hlt
            simp only [Value.slice.injEq] at e'
            exact ⟨b', o', by rw [e'.1, h']⟩
          have hyc := hy.at' hlt
          clear hy hp1
          go_wp2_with fail
          go_loopw [92] (fun i wr => ∃ i' : Nat, i' ≤ Xs.length ∧ i = .int .i64 i' ∧ Hid (∃ X Y, P2 w wr d x (.slice sa (besideL l x).length sc) (.slice xa Xs.length xc) (.slice (some ⟨yb, yo, none⟩) Ys.length yc) (besideL l x) Xs Ys X Y) ∧ Hid (∀ j', j' < i' → spotB d l x (gi Xs j') (gi Ys j) = false)) (fun i _ => Xs.length - (intOf i).toNat)
          case atStart => exact ⟨0, Nat.zero_le _, rfl, hp, Lib.hid fun j hj => by omega⟩
          case round =>
            obtain ⟨i, hi, rfl, hp2, hf2⟩ := hrel
            by_cases hlt2 : i < Xs.length
            · obtain ⟨X1, Y1, hp3⟩ := hp2.out
              have hx := hp3.sx
              obtain ⟨xb, xo, rfl⟩ : ∃ b o, xa = some ⟨b, o, none⟩ := by
                obtain ⟨a', c', e', q1, q2, q3⟩ := hx
                obtain ⟨b', o', h', _⟩ := q3 i hlt2
                simp only [Value.slice.injEq] at e'
                exact ⟨b', o', by rw [e'.1, h']⟩
              have hxc := hx.at' hlt2
              obtain ⟨c0, c1, c2, c3, c4, c5, c6, c7⟩ := syC hp3.ox
              have HP := Lib.hid (hp3.put NX.out NY.out NB.out (gi Xs i) (gi Ys j))
              have f2 : wr.frozen? ⟨w.heap.size + 1, 2, none⟩ = false := obj_free hp3.ox 2
              have f3 : wr.frozen? ⟨w.heap.size + 1, 3, none⟩ = false := obj_free hp3.ox 3
              clear hx hp3 hyc
              go_upto_region 22 with fail
              obtain ⟨W2, HW⟩ : ∃ W2, (wr.setCell ⟨w.heap.size + 1, 2, none⟩ (.int .i64 (gi Xs i))).setCell ⟨w.heap.size + 1, 3, none⟩ (.int .i64 (gi Ys j)) = W2 := ⟨_, rfl⟩
              rw [HW] at HP ⊢
              clear HW c0 c1 c2 c3 c4 c5 c6 c7 f2 f3 hxc
              have HSM := Lib.hid <| put_sm HT.out (sideB_iff.1 HXL.out) (sideB_iff.1 HXW.out) ((HXM.out _).1 (gi_mem hlt2)) ((HYM.out _).1 (gi_mem hlt))
              have HBS : Hid (∀ u ∈ besideL l x, SmB u) := fun u hu => (HT.out u (beside_mem hu)).sm
              have HAN := Lib.hid (any_meet l x (gi Xs i) (gi Ys j))
              go_wp2_with fail
              refine (containsFunc_B (.func (.func 37) #[] #[.pointer (some ⟨w.heap.size + 1, 0, none⟩)]) _ SmB (fun u => meetT (x.put (gi Xs i) (gi Ys j)) u && meetS (x.put (gi Xs i) (gi Ys j)) u) (besideL l x) W2 HP.out.sb HBS.out ⟨_, _, rfl, enter_placeC, fun y w4 hy hb4 => placeC_any y (x.put (gi Xs i) (gi Ys j)) _ w4 (HP.out.ox.keep hb4) HSM.out.2.2.2.2 hy⟩).mono ?_
              rintro e w3 ⟨rfl, h3⟩
              rw [HAN.out]
              have HP3 := Lib.hid (HP.out.below h3)
              have HSP : Hid (spotB d l x (gi Xs i) (gi Ys j) = (!(besideL l x).any (fun u => meetS (x.put (gi Xs i) (gi Ys j)) u) && decide (gi Xs i + x.len ≤ d.len) && decide (gi Ys j + x.wid ≤ d.wid))) := rfl
              clear h3 HP
              obtain ⟨tk, htk⟩ : ∃ tk, (besideL l x).any (fun u => meetS (x.put (gi Xs i) (gi Ys j)) u) = tk := ⟨_, rfl⟩
              rw [htk] at HSP ⊢
              clear htk
              go_upto_region 23 with fail
              refine wp_region_et dkT dkT_ok [berO (w.heap.size + 1) 0 (x.put (gi Xs i) (gi Ys j)), bayO w.heap.size 0 d] (fun v => v = w3) [(5, 0), (3, 1)] [] [(122, .bool (spotB d l x (gi Xs i) (gi Ys j)))] (by kernel_rfl) rfl (obs2 (fun v hv => by subst hv; exact range_new HP3.out.ox) (fun v hv => by subst hv; exact range_new HP3.out.od)) ⟨rfl, rfl, trivial⟩ ?_
              conv => whnf
              refine And.intro (under_of (by have h := HSM.out; have h2 := sideB_iff.1 HXL.out; show _ ≤ gi Xs i + x.len ∧ gi Xs i + x.len ≤ _; omega)) ?_
              conv => whnf
              refine And.intro (under_of (by have h := HSM.out; have h2 := sideB_iff.1 HXW.out; show _ ≤ gi Ys j + x.wid ∧ gi Ys j + x.wid ≤ _; omega)) ?_
              conv => whnf
              intro f1
              conv => whnf
              refine And.intro (congrArg Value.bool HSP.out.symm) ?_
              conv => whnf
              intro w4 h4
              subst h4
              clear HSP
              have HSM1 := Lib.hid HXM; have HYM1 := Lib.hid HYM
              obtain ⟨sp, hsp⟩ : ∃ sp, spotB d l x (gi Xs i) (gi Ys j) = sp := ⟨_, rfl⟩
              rw [hsp]
              cases sp
              · have HJ := Lib.hid (upto (q := fun j' => spotB d l x (gi Xs j') (gi Ys j) = false) hf2.out hsp)
                have HQ : Hid (∃ X Y, P2 w w4 d x (.slice sa (besideL l x).length sc) (.slice (some ⟨xb, xo, none⟩) Xs.length xc) (.slice (some ⟨yb, yo, none⟩) Ys.length yc) (besideL l x) Xs Ys X Y) := ⟨_, _, HP3.out⟩
                clear hsp HP3
                go_wp2_with fail
                go_roundw
                case rel => exact ⟨i + 1, by omega, by go_num, HQ, HJ⟩
                case measure => simp [intOf]; omega
              · have HV : Hid (PlaceV d l x (.tuple #[.agg (syCs (x.put (gi Xs i) (gi Ys j))), .bool true])) :=
                  .inl ⟨_, _, ⟨HTG.out, (HXM.out _).1 (gi_mem hlt2), (HYM.out _).1 (gi_mem hlt), hsp⟩, rfl⟩
                have HO := Lib.hid HP3.out.orr
                have HB := Lib.hid HP3.out.bw
                obtain ⟨c0, c1, c2, c3, c4, c5, c6, c7⟩ := syC HP3.out.ox
                clear hsp HP3
                go_wp2_with (refine wpList_store_row (o := ⟨none, .store _ _ _, _, _, _, _⟩) rfl 29 (.tmp 6) (.tmp 123) rfl (w.heap.size + 1 + 1) (syCs (x.put (gi Xs i) (gi Ys j))) rfl rfl 29 _ HO.out info_Berth rfl (one_ber _) ?_)
                refine bodyPost_ret (v := .tuple #[.agg (syCs (x.put (gi Xs i) (gi Ys j))), .bool true]) (results_two Tryd.results22 rfl rfl (load_Ber (setRow_heap _ _ _ _ _ _ HO.out))) rfl ⟨_, rfl, HV.out, below_setRow HB.out (by omega) _⟩
            · obtain rfl : i = Xs.length := by omega
              have HJ := Lib.hid (upto (q := fun j' => ∀ X ∈ Xs, spotB d l x X (gi Ys j') = false) hf.out (by
                intro X hX
                obtain ⟨i', hi', e⟩ := mem_gi hX
                rw [← e]; exact hf2.out i' hi'))
              go_wp2_with fail
              go_roundw
              case rel => exact ⟨j + 1, by omega, by go_num, hp2, HJ⟩
              case measure => simp [intOf]; omega
        · obtain rfl : j = Ys.length := by omega
          obtain ⟨X, Y, hp1⟩ := hp.out
          have HO := Lib.hid hp1.orr
          have HB := Lib.hid hp1.bw
          have HV : Hid (PlaceV d l x (.tuple #[.agg (syCs default), .bool false])) := by
            refine .inr ⟨?_, rfl⟩
            rintro X Y ⟨_, q2, q3, q4⟩
            obtain ⟨j', hj', e⟩ := mem_gi ((HYM.out Y).2 q3)
            have := hf.out j' hj' X ((HXM.out X).2 q2)
            rw [e, q4] at this; cases this
          clear hp1
          go_wp2_with (refine wpList_store_row (o := ⟨none, .store _ _ _, _, _, _, _⟩) rfl 29 (.tmp 6) (.tmp 126) rfl (w.heap.size + 1 + 1) (syCs default) rfl rfl 29 _ HO.out info_Berth rfl (one_ber _) ?_)
          refine bodyPost_ret (v := .tuple #[.agg (syCs default), .bool false]) (results_two Tryd.results22 rfl rfl (load_Ber (setRow_heap _ _ _ _ _ _ HO.out))) rfl ⟨_, rfl, HV.out, below_setRow HB.out (by omega) _⟩
end Go.Proofs.YtgmecjmepbaolaaDoor
