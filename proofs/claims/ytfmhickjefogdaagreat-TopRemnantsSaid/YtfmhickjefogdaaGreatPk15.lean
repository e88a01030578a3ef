/- remnant's within, right, meet, free, area (printed by wip/gen_rea.py). -/
import Derived.Test.YtfmhickjefogdaaGreatPk14
import Derived.Test.YtfmhickjefogdaaGreatPk04
set_option linter.unusedSimpArgs false
set_option linter.unusedVariables false

/- poly's extremes, Bounds; region's Bounds (printed by wip/gen_rgj.py). -/
namespace Go.Proofs.YtfmhickjefogdaaGreat
open Go.RowKit

def mnTo (a : Int) (xs : List Int) : Nat → Int
  | 0 => a
  | k + 1 => min (mnTo a xs k) (gi xs k)
def mxTo (a : Int) (xs : List Int) : Nat → Int
  | 0 => a
  | k + 1 => max (mxTo a xs k) (gi xs k)
set_option maxRecDepth 100000 in
set_option maxHeartbeats 1000000 in
theorem extremes_any (a : Int) (v : Value) (xs : List Int) (w : World) (h : SI w v xs) (hl : xs.length ≤ 100000) : Calls Tryz.prog 74 #[.int .i64 a, v] w (Ret w (.tuple #[.int .i64 (mnTo a xs xs.length), .int .i64 (mxTo a xs xs.length)])) := by
  obtain ⟨pa, pc, rfl, _, _, p3⟩ := h
  have P3 := Lib.hid p3
  clear p3
  go_enter Tryz.func74, Tryz.ntmps74
  go_wp2_with fail
  go_loopw [4, 5, 12] (fun m n i wr => ∃ k : Nat, k ≤ xs.length ∧ i = .int .i64 k ∧ m = .int .i64 (mnTo a xs k) ∧ n = .int .i64 (mxTo a xs k) ∧ Hid (Below w.heap.size w wr)) (fun _ _ i _ => xs.length - (intOf i).toNat)
  case atStart => exact ⟨0, Nat.zero_le _, rfl, rfl, rfl, Below.refl _ _⟩
  case round =>
    obtain ⟨k, hk, rfl, rfl, rfl, hb⟩ := hrel
    by_cases hlt : k < xs.length
    · have i1 : (k : Int) < xs.length := by omega
      obtain ⟨pb, po, rfl, hc⟩ := P3.out k hlt
      have c0 := cell_keep hb.out hc
      clear hc
      go_upto_region 5 with fail
      refine wp_region_et gmT gmT_ok [] (Below wr.heap.size wr) [] [] [(4, .int .i64 (mnTo a xs (k + 1))), (5, .int .i64 (mxTo a xs (k + 1)))] (by kernel_rfl) (Below.refl _ _)
        obsN trivial ?_
      conv => whnf
      intro f1
      conv => whnf
      refine And.intro (rfl) ?_
      conv => whnf
      refine And.intro (rfl) ?_
      conv => whnf
      intro w2 h2
      have HB2 := Lib.hid (ext_trans hb.out h2)
      clear h2 c0
      go_wp2_with fail
      go_roundw
      case rel => exact ⟨k + 1, by omega, by go_num, rfl, rfl, HB2⟩
      case measure => simp [intOf]; omega
    · have i1 : ¬ (k : Int) < xs.length := by omega
      have e : k = xs.length := by omega
      subst e
      go_wp2_with fail
      go_ret2
      exact ⟨rfl, hb.out⟩
def xs_ (l : List Pnt) (k : Nat) : List Int := (l.take k).map (·.x)
def ys_ (l : List Pnt) (k : Nat) : List Int := (l.take k).map (·.y)
theorem xs_succ (l : List Pnt) (k : Nat) (h : k < l.length) : xs_ l (k + 1) = xs_ l k ++ [(pti l k).x] := by unfold xs_; rw [List.take_add_one, List.map_append]; simp [h, pti]
theorem ys_succ (l : List Pnt) (k : Nat) (h : k < l.length) : ys_ l (k + 1) = ys_ l k ++ [(pti l k).y] := by unfold ys_; rw [List.take_add_one, List.map_append]; simp [h, pti]
theorem xs_len (l : List Pnt) (k : Nat) : (xs_ l k).length = min k l.length := by unfold xs_; simp
theorem ys_len (l : List Pnt) (k : Nat) : (ys_ l k).length = min k l.length := by unfold ys_; simp
theorem xs_get (l : List Pnt) {k : Nat} (h : k < l.length) : gi (xs_ l l.length) k = (pti l k).x := by unfold xs_ gi pti; simp [h]
theorem ys_get (l : List Pnt) {k : Nat} (h : k < l.length) : gi (ys_ l l.length) k = (pti l k).y := by unfold ys_ gi pti; simp [h]
theorem bnd_mn (l : List Pnt) : ∀ k, 0 < k → k ≤ l.length → bndTo l k = ⟨mnTo (pti l 0).x (xs_ l l.length) k, mnTo (pti l 0).y (ys_ l l.length) k, mxTo (pti l 0).x (xs_ l l.length) k, mxTo (pti l 0).y (ys_ l l.length) k⟩
  | 0, h, _ => by omega
  | k + 1, _, hk => by
    unfold bndTo mnTo mxTo
    by_cases e : k = 0
    · subst e
      rw [xs_get l (by omega), ys_get l (by omega)]
      rfl
    · rw [if_neg e, bnd_mn l k (by omega) (by omega), xs_get l (by omega), ys_get l (by omega)]
      rfl
theorem bnd_all {l : List Pnt} (h : 0 < l.length) : bndL l = ⟨mnTo (pti l 0).x (xs_ l l.length) (xs_ l l.length).length, mnTo (pti l 0).y (ys_ l l.length) (ys_ l l.length).length, mxTo (pti l 0).x (xs_ l l.length) (xs_ l l.length).length, mxTo (pti l 0).y (ys_ l l.length) (ys_ l l.length).length⟩ := by
  unfold bndL
  rw [bnd_mn l _ h (Nat.le_refl _), xs_len, ys_len, Nat.min_self]
theorem SI.set {w : World} {v : Value} {xs : List Int} (h : SI w v xs) {b : Nat} (hb : v.ownBlock ≠ some b) (k : Nat) (u : Value) : SI (w.setCell ⟨b, k, none⟩ u) v xs := by
  obtain ⟨a, cap, rfl, h1, h2, h3⟩ := h
  refine ⟨a, cap, rfl, h1, h2, fun i hi => ?_⟩
  obtain ⟨b', off, rfl, hc⟩ := h3 i hi
  refine ⟨b', off, rfl, ?_⟩
  rw [World.cell?_setCell_other (h := fun e => hb (congrArg some (congrArg Addr.block e).symm))]
  exact hc
theorem SI_of_own {w : World} {B : Nat} {v : Value} {r : List Int} (h : OwnI w B v r) : SI w v r := by
  obtain ⟨a, c, e, h1, h2, h3⟩ := Sl_of_owns (show w.ownsRow B 3 1 v (r.map (Value.int .i64)).length (r.map (Value.int .i64)) from by rw [List.length_map]; exact h)
  rw [List.length_map] at e h1
  refine ⟨a, c, e, h1, h2, fun i hi => ?_⟩
  obtain ⟨b, off, g1, g2⟩ := h3 i (by rw [List.length_map]; exact hi)
  refine ⟨b, off, g1, ?_⟩
  rw [g2]
  simp [gi, hi]
set_option maxRecDepth 100000 in
set_option maxHeartbeats 4000000 in
theorem pBounds_any (v : Value) (l : List Pnt) (w : World) (h : SPt w v l) (h0 : 0 < l.length) (hl : l.length ≤ 1000) : Calls Tryz.prog 45 #[v] w (Ret w (.agg (rcA (bndL l)))) := by
  have HV := Lib.hid (bnd_all h0)
  obtain ⟨pa, pc, rfl, _, _, p3⟩ := h
  have P3 := Lib.hid p3
  have h0' : ¬ (l.length : Int) = 0 := by omega
  have h09 : ((l.length : Int) == 0) = false := beq_eq_false_iff_ne.2 h0'
  clear p3
  obtain ⟨W1, HR1, HB1, HW1⟩ := boxW w ⟨0, 0, 0, 0⟩
  go_enter Tryz.func45, Tryz.ntmps45
  go_upto_region 1 with fail
  rw [HW1.out]
  clear HW1
  go_wp2_with fail
  go_loopw [3, 4, 13] (fun m n i wr => ∃ (k : Nat) (sx sy : Value), k ≤ l.length ∧ i = .int .i64 k ∧ sx = m ∧ sy = n ∧ Hid (Below W1.heap.size W1 wr) ∧ Hid (Rows2 wr W1.heap.size sx sy (xs_ l k) (ys_ l k))) (fun _ _ i _ => l.length - (intOf i).toNat)
  case atStart => exact ⟨0, _, _, Nat.zero_le _, rfl, rfl, rfl, Below.refl _ _, ⟨World.ownsRow_nil _ _ _ _, World.ownsRow_nil _ _ _ _, fun r e => by cases e⟩⟩
  case round =>
    obtain ⟨k, sx, sy, hk, rfl, rfl, rfl, hb, hr⟩ := hrel
    have HBW := Lib.hid (ext_trans HB1.out hb.out)
    obtain ⟨xa, xc, rfl, _⟩ := SI_of_own hr.out.x
    obtain ⟨ya, yc, rfl, _⟩ := SI_of_own hr.out.y
    by_cases hlt : k < l.length
    · have i1 : (k : Int) < l.length := by omega
      obtain ⟨pb, po, rfl, hc⟩ := P3.out k hlt
      have HC := Lib.hid (hc.keep HBW.out)
      have HXS := Lib.hid (xs_succ l k hlt)
      have HYS := Lib.hid (ys_succ l k hlt)
      have hx1 : (xs_ l k).length ≤ 1000000 := by rw [xs_len]; omega
      have hy1 : (ys_ l k).length ≤ 1000000 := by rw [ys_len]; omega
      clear hc
      go_upto_region 6 with fail
      refine wp_region_en 2 gmT gmT_ok [⟨pb, po + k * 2, ptCells (pti l k)⟩] (fun v => v = wr) [] [(15, .ix k 0)] [(16, .agg (ptA (pti l k)))] 6 16 37 (#[.int .i64 0, .int .i64 0]) (ptA (pti l k)) (by kernel_rfl) rfl ⟨_, _, rfl, ⟨rfl, rfl, rfl⟩, rfl, rfl, rfl⟩ (by decide) alloc_point (by kernel_rfl) rfl (pt_one _)
        (obsC (fun u hu => by cases hu; exact (pt_range HC.out)) obsN) trivial ?_
      conv => whnf
      refine And.intro (under_of ⟨rfl, hlt, rfl, rfl⟩) ?_
      conv => whnf
      refine And.intro (Nat.le_of_ble_eq_true rfl) ?_
      conv => whnf
      intro f3
      conv => whnf
      refine And.intro (rfl) ?_
      conv => whnf
      refine And.intro ⟨rfl, rfl⟩ ?_
      intro w2 h2
      conv => whnf
      cases h2
      obtain ⟨W3, HQ3, HB3', HW3⟩ := newObj wr (ptA (pti l k)) 37
      obtain ⟨bq, hbq⟩ : ∃ b, wr.heap.size = b := ⟨_, rfl⟩
      have HBQ : Hid (W1.heap.size ≤ bq) := by show _ ≤ _; rw [← hbq]; exact hb.out.size
      rw [hbq] at HQ3
      rw [HW3.out, hbq]
      have HB3 := Lib.hid (hb.out.trans (HB3'.out.mono hb.out.size))
      have HR3 := Lib.hid (hr.out.below HB3'.out)
      clear hbq HW3
      go_upto_region 7 with fail
      refine wp_region_tw gmT gmT_ok [⟨bq, 0, (ptA (pti l k)).toList⟩] [(6, 0)] [] [] 3 4 10 8 9 11 20 21 3 17 19 25 26 4 22 24 [20, 21, 25, 26, 3, 4] (.slice xa (xs_ l k).length xc) (.slice ya (ys_ l k).length yc) (xs_ l k) (ys_ l k) (pti l k).x (pti l k).y W1.heap.size W1 [⟨bq, ptA (pti l k), 37⟩] (by kernel_rfl) mixed (by kernel_rfl) (by kernel_rfl) (by constructor <;> decide)
        ⟨⟨_, rfl, rfl, rfl⟩, ⟨_, rfl, rfl, rfl, ⟨3, .data⟩, by simp, rfl, rfl⟩, ⟨_, rfl, rfl, rfl, ⟨4, .data⟩, by simp, rfl, rfl⟩⟩ ⟨⟨_, rfl, rfl, rfl⟩, ⟨_, rfl, rfl, rfl, ⟨8, .data⟩, by simp, rfl, rfl⟩, ⟨_, rfl, rfl, rfl, ⟨9, .data⟩, by simp, rfl, rfl⟩⟩
        ⟨HB3.out, fun o ho => by obtain rfl := List.mem_singleton.1 ho; exact HQ3.out⟩ rfl (fun o ho => by obtain rfl := List.mem_singleton.1 ho; show 3 ≠ 37; decide) HR3.out hx1 hy1 (obsC (fun u hu => range_new (hu.2 _ (List.mem_cons_self ..))) obsN) ⟨rfl, trivial⟩ ?_
      conv => whnf
      refine And.intro (And.intro ⟨_, rfl⟩ ⟨_, rfl⟩) (And.intro (And.intro ⟨_, rfl⟩ ⟨_, rfl⟩) ?_)
      intro f2 v8 v9
      conv => whnf
      intro w5 hC5 hV5
      have HB5 := Lib.hid hC5.1
      have HR5 : Hid (Rows2 w5 W1.heap.size v8 v9 (xs_ l (k + 1)) (ys_ l (k + 1))) := by show Rows2 ..; rw [HXS.out, HYS.out]; exact hV5
      clear hC5 hV5 HR3 HB3 HQ3
      go_wp2_with fail
      go_roundw
      case rel => exact ⟨k + 1, _, _, by omega, by go_num, rfl, rfl, HB5, HR5⟩
      case measure => simp [intOf]; omega
    · have i1 : ¬ (k : Int) < l.length := by omega
      have e : k = l.length := by omega
      subst e
      have HSX := Lib.hid (SI_of_own hr.out.x)
      have HSY := Lib.hid (SI_of_own hr.out.y)
      have lx : (0 : Int) < (xs_ l l.length).length := by rw [xs_len]; omega
      have ly : (0 : Int) < (ys_ l l.length).length := by rw [ys_len]; omega
      have lx1 : (xs_ l l.length).length ≤ 100000 := by rw [xs_len]; omega
      have ly1 : (ys_ l l.length).length ≤ 100000 := by rw [ys_len]; omega
      obtain ⟨xa', xc', ex, _, _, x3⟩ := HSX.out
      cases ex
      obtain ⟨xb, xo, rfl, hx0⟩ := x3 0 (by omega)
      obtain ⟨ya', yc', ey, _, _, y3⟩ := HSY.out
      cases ey
      obtain ⟨yb, yo, rfl, hy0⟩ := y3 0 (by omega)
      dsimp only at hx0 hy0
      rw [xs_get l h0, Nat.add_zero] at hx0
      rw [ys_get l h0, Nat.add_zero] at hy0
      have HY0 := Lib.hid hy0
      have HRW := Lib.hid (HR1.out.keep hb.out)
      clear x3 y3 hy0
      have HG0 : Hid (gi (ys_ l l.length) 0 = (pti l 0).y) := ys_get l h0
      generalize xs_ l l.length = X at *
      generalize ys_ l l.length = Y at *
      have HYB : Hid (w.heap.size ≠ yb) := by
        have h1 := (World.ownsRow.lt hr.out.y yb rfl).1
        have h2 := HR1.out.lt
        show _ ≠ _
        omega
      clear hr
      obtain ⟨qx, hqx⟩ : ∃ q, (pti l 0).x = q := ⟨_, rfl⟩
      obtain ⟨qy, hqy⟩ : ∃ q, (pti l 0).y = q := ⟨_, rfl⟩
      rw [hqx] at hx0 HV
      rw [hqy] at HY0 HV HG0
      clear hqx hqy
      go_wp2_with fail
      refine (extremes_any qx _ X wr HSX.out lx1).mono ?_
      rintro e w4 ⟨rfl, hb4⟩
      have HB4 := Lib.hid (ext_trans HBW.out hb4)
      have HR4 := Lib.hid (HRW.out.keep hb4)
      have HSY4 := Lib.hid (HSY.out.keep hb4)
      have hy0 := cell_keep hb4 HY0.out
      obtain ⟨m1, hm1⟩ : ∃ m, mnTo qx X X.length = m := ⟨_, rfl⟩
      obtain ⟨m2, hm2⟩ : ∃ m, mxTo qx X X.length = m := ⟨_, rfl⟩
      rw [hm1] at HV ⊢
      rw [hm2] at HV ⊢
      clear hb4 hx0 hm1 hm2
      have r0 := HR4.out.cell 0
      have r2 := HR4.out.cell 2
      have f0 := HR4.out.frozen 0
      have f2 := HR4.out.frozen 2
      simp only [rcA] at r0 r2
      dsimp at r0 r2
      obtain ⟨W5, hW5⟩ : ∃ W5, (w4.setCell ⟨w.heap.size, 0, none⟩ (.int .i64 m1)).setCell ⟨w.heap.size, 2, none⟩ (.int .i64 m2) = W5 := ⟨_, rfl⟩
      have HR5 : Hid (ObjAt W5 w.heap.size (rcA ⟨m1, 0, m2, 0⟩) 39) := by show ObjAt ..; rw [← hW5]; exact (HR4.out.set 0 _).set 2 _
      have HB5 : Hid (Below w.heap.size w W5) := by show Below ..; rw [← hW5]; exact (HB4.out.setCell (p := ⟨w.heap.size, 0, none⟩) (Nat.le_refl _) _).setCell (p := ⟨w.heap.size, 2, none⟩) (Nat.le_refl _) _
      have HSY5 : Hid (SI W5 (.slice (some ⟨yb, yo, none⟩) Y.length yc) Y) := by
        show SI ..
        rw [← hW5]
        exact SI.set (SI.set HSY4.out (fun e => HYB.out (Option.some.inj e).symm) 0 _) (fun e => HYB.out (Option.some.inj e).symm) 2 _
      have HW5 := Lib.hid hW5
      clear hW5 hy0
      go_upto_region 10 with fail
      rw [HW5.out]
      obtain ⟨ya', yc', ey, _, _, y3⟩ := HSY5.out
      cases ey
      obtain ⟨yb', yo', eb, hy0⟩ := y3 0 (by omega)
      cases eb
      dsimp only at hy0
      rw [HG0.out, Nat.add_zero] at hy0
      clear r0 r2 f0 f2 y3 HW5
      go_wp2_with fail
      refine (extremes_any qy _ Y W5 HSY5.out ly1).mono ?_
      rintro e w6 ⟨rfl, hb6⟩
      have HB6 := Lib.hid (ext_trans HB5.out hb6)
      have HR6 := Lib.hid (HR5.out.keep hb6)
      obtain ⟨n1, hn1⟩ : ∃ m, mnTo qy Y Y.length = m := ⟨_, rfl⟩
      obtain ⟨n2, hn2⟩ : ∃ m, mxTo qy Y Y.length = m := ⟨_, rfl⟩
      rw [hn1] at HV ⊢
      rw [hn2] at HV ⊢
      clear hb6 hy0 hn1 hn2
      have r1 := HR6.out.cell 1
      have r3 := HR6.out.cell 3
      have f1 := HR6.out.frozen 1
      have f3 := HR6.out.frozen 3
      simp only [rcA] at r1 r3
      dsimp at r1 r3
      obtain ⟨W7, HW7⟩ : ∃ W7, Hid ((w6.setCell ⟨w.heap.size, 1, none⟩ (.int .i64 n1)).setCell ⟨w.heap.size, 3, none⟩ (.int .i64 n2) = W7) := ⟨_, rfl⟩
      have HR7 : Hid (ObjAt W7 w.heap.size (rcA ⟨m1, n1, m2, n2⟩) 39) := by show ObjAt ..; rw [← HW7.out]; exact (HR6.out.set 1 _).set 3 _
      have HB7 : Hid (Below w.heap.size w W7) := by show Below ..; rw [← HW7.out]; exact (HB6.out.setCell (p := ⟨w.heap.size, 1, none⟩) (Nat.le_refl _) _).setCell (p := ⟨w.heap.size, 3, none⟩) (Nat.le_refl _) _
      go_upto_region 11 with fail
      rw [HW7.out]
      clear r1 r3 f1 f3 HW7
      have r0 := HR7.out.cell 0
      have r1 := HR7.out.cell 1
      have r2 := HR7.out.cell 2
      have r3 := HR7.out.cell 3
      simp only [rcA] at r0 r1 r2 r3
      dsimp at r0 r1 r2 r3
      go_wp2_with (refine wpList_store_row (o := ⟨none, .store _ _ _, _, _, _, _⟩) rfl 39 (.tmp 2) (.tmp 52) rfl w.heap.size (rcA ⟨m1, n1, m2, n2⟩) rfl rfl 39 _ HR7.out info_Rect rfl (rc_one _) ?_)
      refine bodyPost_ret (results_cell Tryz.results45 rfl (load_Rect (setRow_heap _ _ _ (rcA ⟨m1, n1, m2, n2⟩) _ _ HR7.out))) rfl ?_
      exact ⟨by rw [HV.out], below_setRow HB7.out (Nat.le_refl _) _⟩
set_option maxRecDepth 100000 in
theorem gBounds_any (ov hv : Value) (o : List Pnt) (w : World) (h : SPt w ov o) (h0 : 0 < o.length) (hl : o.length ≤ 1000) (hs : ∃ a n c, hv = .slice a n c) : Calls Tryz.prog 17 #[.agg #[ov, hv]] w (Ret w (.agg (rcA (bndL o)))) := by
  have HS := Lib.hid h
  have H0 := Lib.hid h0
  have HL := Lib.hid hl
  obtain ⟨oa, oc, rfl, _⟩ := h
  obtain ⟨ha, hn, hc, rfl⟩ := hs
  clear h0 hl
  obtain ⟨W1, HS1, HR1, HU1, HB1, HW1, HZ1⟩ := boxBd w oa o.length oc ha hn hc
  obtain ⟨W1, HS1, HR1, HB1, HW1⟩ : ∃ W1, Hid (ObjAt W1 w.heap.size #[.slice oa o.length oc, .slice ha hn hc] 47) ∧ Hid (ObjAt W1 (w.heap.size + 1) (rcA ⟨0, 0, 0, 0⟩) 39) ∧ Hid (Below w.heap.size w W1) ∧ Hid ((w.alloc (.cells #[.slice oa o.length oc, .slice ha hn hc] 47)).alloc (.cells #[.int .i64 0, .int .i64 0, .int .i64 0, .int .i64 0] 39) = W1) :=
    ⟨_, (ObjAt.new w #[.slice oa o.length oc, .slice ha hn hc] 47).alloc _, (by have h := ObjAt.new (w.alloc (.cells #[.slice oa o.length oc, .slice ha hn hc] 47)) (rcA ⟨0, 0, 0, 0⟩) 39; rw [size_alloc] at h; exact h), ((Below.refl _ _).alloc (Nat.le_refl _) _).alloc (by simp) _, rfl⟩
  go_enter Tryz.func17, Tryz.ntmps17
  go_upto_region 1 with fail
  rw [HW1.out]
  have c0 := HS1.out.cell 0
  dsimp at c0
  go_wp2_with fail
  refine (pBounds_any _ o W1 (HS.out.keep HB1.out) H0.out HL.out).mono ?_
  rintro e w2 ⟨rfl, hb2⟩
  have HB2 := Lib.hid (ext_trans HB1.out hb2)
  have HR2 := Lib.hid (HR1.out.keep hb2)
  clear hb2 c0
  go_wp2_with (refine wpList_store_row (o := ⟨none, .store _ _ _, _, _, _, _⟩) rfl 39 (.tmp 2) (.tmp 5) rfl (w.heap.size + 1) (rcA (bndL o)) rfl rfl 39 _ HR2.out info_Rect rfl (rc_one _) ?_)
  refine bodyPost_ret (results_cell Tryz.results17 rfl (load_Rect (setRow_heap _ _ _ (rcA (bndL o)) _ _ HR2.out))) rfl ?_
  exact ⟨rfl, below_setRow HB2.out (by omega) _⟩
end Go.Proofs.YtfmhickjefogdaaGreat

/- nest's find, placed (printed by wip/gen_nea.py). -/
namespace Go.Proofs.YtfmhickjefogdaaGreat
open Go.RowKit

set_option maxRecDepth 100000 in
theorem find1_any (x : Prt) (b : Nat) (s : List UInt8) (w : World) (hc : w.cell? ⟨b, 0, none⟩ = some (.string (bs s))) : Calls Tryz.prog 39 #[.agg (prA x), .pointer (some ⟨b, 0, none⟩)] w (Ret w (.bool (x.id == s))) := by
  have HC := Lib.hid hc
  clear hc
  obtain ⟨W1, HO1, HB1, HW1⟩ := newObj w (prA x) 61
  unfold prA
  go_enter Tryz.func39, Tryz.ntmps39
  go_upto_region 1 with fail
  rw [show w.alloc (.cells #[.string (bs x.id), .int .i64 x.rev, .int .i64 x.kind, .string (bs x.node), .string (bs x.grade), .int .i64 x.thick, x.ov, x.hv, .string (bs x.sect), .int .i64 x.length, .int .i64 x.mass, .int .i64 x.cx, .int .i64 x.cy, .int .i64 x.cz, .int .i64 x.ax, .int .i64 x.ay, .int .i64 x.az, .int .i64 x.turn] 61) = W1 from HW1.out]
  refine wp_region_et gmT gmT_ok [⟨w.heap.size, 0, (prA x).toList⟩, ⟨b, 0, [.string (bs s)]⟩] (Below W1.heap.size W1) [(2, 0), (1, 1)] [] [(3, .bool (x.id == s))] (by kernel_rfl) (Below.refl _ _)
    (obsC (fun u hu => rangeKeep (range_new HO1.out) hu) (obsC (fun u hu => rangeKeep (intR (cell_keep HB1.out HC.out)) hu) obsN)) ⟨rfl, rfl, trivial⟩ ?_
  conv => whnf
  intro f1
  conv => whnf
  refine And.intro (congrArg Value.bool (bs_eq _ _)) ?_
  conv => whnf
  intro w2 h2
  have HB2 := Lib.hid (ext_trans HB1.out h2)
  clear h2
  go_wp2_with fail
  go_ret
  exact ⟨rfl, HB2.out⟩
set_option maxRecDepth 100000 in
theorem ixPart_any (v : Value) (l : List Prt) (s : List UInt8) (b : Nat) (w : World) (h : SPr w v l) (hl : l.length ≤ 100000) (hb : w.cell? ⟨b, 0, none⟩ = some (.string (bs s))) : Calls Tryz.prog 38 #[v, .func (.func 39) #[] #[.pointer (some ⟨b, 0, none⟩)]] w (Ret w (.int .i64 (findP l s))) := by
  obtain ⟨pa, pc, rfl, k1, k2, k3⟩ := h
  have K3 := Lib.hid k3
  have HG := Lib.hid hb
  clear k3 hb
  go_enter Tryz.func38, Tryz.ntmps38
  go_wp2_with fail
  go_loopw [8] (fun i wr => ∃ k : Nat, k ≤ l.length ∧ i = .int .i64 k ∧ Hid (Below w.heap.size w wr) ∧ Hid (∀ j, j < k → (pri l j).id ≠ s)) (fun i _ => l.length - (intOf i).toNat)
  case atStart => exact ⟨0, Nat.zero_le _, rfl, Below.refl _ _, fun j h => by omega⟩
  case round =>
    obtain ⟨k, hk, rfl, hb, hn⟩ := hrel
    by_cases hlt : k < l.length
    · have i1 : (k : Int) < l.length := by omega
      obtain ⟨pb, po, rfl, hc⟩ := K3.out k hlt
      have HC := Lib.hid (hc.keep hb.out)
      have HGW := Lib.hid (cell_keep hb.out HG.out)
      clear hc
      go_upto_region 4 with fail
      refine wp_region_et gmT2 gmT2_ok [⟨pb, po + k * 18, prCells (pri l k)⟩] (Below wr.heap.size wr) [] [(14, .ix k 0), (16, .ret (.bool ((pri l k).id == s)))] [(16, .bool ((pri l k).id == s))] (by kernel_rfl) (Below.refl _ _)
        (obsC (fun u hu => rangeKeep (pr_range HC.out) hu) obsN) trivial ?_
      conv => whnf
      refine And.intro (under_of ⟨rfl, hlt, rfl, rfl⟩) ?_
      conv => whnf
      refine And.intro (Nat.le_of_ble_eq_true rfl) ?_
      conv => whnf
      refine And.intro (under_of fun u hu => ret_in (find1_any _ b s u (cell_keep hu HGW.out)) hu) ?_
      conv => whnf
      intro f4
      conv => whnf
      refine And.intro (rfl) ?_
      conv => whnf
      intro w4 h4
      have HB4 := Lib.hid (ext_trans hb.out h4)
      clear h4
      by_cases e : (pri l k).id = s
      · have HV : Hid (findP l s = k) := findTo_at hn.out e hlt
        have e2 : ((pri l k).id == s) = true := beq_iff_eq.2 e
        rw [e2]
        clear e e2
        go_wp2_with fail
        go_ret
        exact ⟨ret_int HV.out.symm, HB4.out⟩
      · have HN : Hid (∀ j, j < k + 1 → (pri l j).id ≠ s) := fun j hj => by
          by_cases c : j = k
          · subst c; exact e
          · exact hn.out j (by omega)
        have e2 : ((pri l k).id == s) = false := beq_eq_false_iff_ne.2 e
        rw [e2]
        clear e e2
        go_wp2_with fail
        go_roundw
        case rel => exact ⟨k + 1, by omega, by go_num, HB4, HN⟩
        case measure => simp [intOf]; omega
    · have i1 : ¬ (k : Int) < l.length := by omega
      have HV : Hid (findP l s = -1) := findTo_no fun j hj => hn.out j (by omega)
      go_wp2_with fail
      go_ret
      exact ⟨ret_int HV.out.symm, hb.out⟩
theorem info_Part : (Tryz.prog.info? 61).map (·.size) = some 18 := by kernel_rfl
theorem load_PartV {w : World} {g : Nat} {x : Prt} {e : TypeId} (h : ObjAt w g (prA x) e) : (loadVar 61 ⟨g, 0, none⟩).run Tryz.prog w = .ok (.agg (prA x)) w := run_loadVar_row (P := Tryz.prog) w g e 61 (prA x) (0, 0) _ h Tryz.underlying61 rfl info_Part
theorem boxFd (w : World) (s : List UInt8) : ∃ W1, Hid (ObjAt W1 w.heap.size #[.string (bs s)] 9) ∧ Hid (ObjAt W1 (w.heap.size + 1) zPr 61) ∧ Hid (Below w.heap.size w W1) ∧ Hid ((w.alloc (.cells #[.string (bs s)] 9)).alloc (.cells #[.string ⟨#[]⟩, .int .i64 0, .int .i64 0, .string ⟨#[]⟩, .string ⟨#[]⟩, .int .i64 0, .slice none 0 0, .slice none 0 0, .string ⟨#[]⟩, .int .i64 0, .int .i64 0, .int .i64 0, .int .i64 0, .int .i64 0, .int .i64 0, .int .i64 0, .int .i64 0, .int .i64 0] 61) = W1) :=
  ⟨_, (ObjAt.new w #[.string (bs s)] 9).alloc _, (by have h := ObjAt.new (w.alloc (.cells #[.string (bs s)] 9)) zPr 61; rw [size_alloc] at h; exact h), ((Below.refl _ _).alloc (Nat.le_refl _) _).alloc (by simp) _, rfl⟩
theorem results_two' {fn : Func} {p q : Tmp} {ty : TypeId} (h : fn.results = #[.cell p ty, .tmp q]) {tmps : Array Value} {w : World} {g : Nat} {v u : Value}
    (hp : tmps.getD p undef = .pointer (some ⟨g, 0, none⟩)) (hq : tmps.getD q undef = u) (hl : (loadVar ty ⟨g, 0, none⟩).run Tryz.prog w = .ok v w) :
    (results fn tmps).run Tryz.prog w = .ok (.tuple #[v, u]) w := by
  have hp' : tmps[p]?.getD undef = .pointer (some ⟨g, 0, none⟩) := by simpa using hp
  have hq' : tmps[q]?.getD undef = u := by simpa using hq
  simp [results, h, hp', hq', asAddr, hl]
set_option maxRecDepth 100000 in
set_option maxHeartbeats 1000000 in
/-- a part that is there is found -/
theorem nFind_any (v : Value) (l : List Prt) (s : List UInt8) (i : Nat) (w : World) (h : SPr w v l) (ho : ∀ j, j < l.length → PrtOK w (pri l j)) (hl : l.length ≤ 100000) (hi : i < l.length) (hf : findP l s = i) : Calls Tryz.prog 14 #[v, .string (bs s)] w (Ret w (.tuple #[.agg (prA (pri l i)), .bool true])) := by
  have HS := Lib.hid h
  have HO := Lib.hid (ho i hi)
  have HF := Lib.hid hf
  obtain ⟨pa, pc, rfl, _, _, k3⟩ := h
  obtain ⟨pb, po, rfl, hc⟩ := k3 i hi
  have HC := Lib.hid hc
  clear k3 hf hc ho
  obtain ⟨W1, HG1, HR1, HB1, HW1⟩ := boxFd w s
  go_enter Tryz.func14, Tryz.ntmps14
  go_upto_region 1 with fail
  rw [HW1.out]
  clear HW1
  go_wp2_with fail
  refine (ixPart_any _ l s w.heap.size W1 (HS.out.keep HB1.out) hl (HG1.out.cell 0)).mono ?_
  rintro e w2 ⟨rfl, hb2⟩
  have HB2 := Lib.hid (ext_trans HB1.out hb2)
  have HR2 := Lib.hid (HR1.out.keep hb2)
  clear hb2
  rw [HF.out]
  have hi0 : ¬ (i : Int) < 0 := by omega
  have HC2 := Lib.hid (HC.out.keep HB2.out)
  have HO2 := Lib.hid (HO.out.keep HB2.out)
  go_upto_region 4 with fail
  refine wp_region_ep 4 gmT gmT_ok [⟨pb, po + i * 18, prCells (pri l i)⟩] (fun v => v = w2) [] [(15, .ix i 0)] [(16, .agg (prA (pri l i)))] (by kernel_rfl) rfl
    (obsC (fun u hu => by cases hu; exact (pr_range HC2.out)) obsN) trivial ?_
  conv => whnf
  refine And.intro (under_of ⟨rfl, hi, rfl, rfl⟩) ?_
  conv => whnf
  refine And.intro (Nat.le_of_ble_eq_true rfl) ?_
  conv => whnf
  intro f1
  conv => whnf
  refine And.intro (rfl) ?_
  conv => whnf
  intro _ he
  cases he
  change wpList Tryz.prog _ _ [_, _] _ _
  refine wpList_store_row (o := ⟨none, .store _ _ _, _, _, _, _⟩) rfl 61 (.tmp 4) (.tmp 16) rfl (w.heap.size + 1) (prA (pri l i)) ?_ ?_ 61 _ HR2.out info_Part rfl (pr_one HO2.out) ?_
  · rfl
  · rfl
  have HL := Lib.hid (load_PartV (setRow_heap _ _ _ (prA (pri l i)) _ _ HR2.out))
  have HBE := Lib.hid (below_setRow HB2.out (show w.heap.size ≤ w.heap.size + 1 by omega) (prA (pri l i)))
  go_wp2_with fail
  refine bodyPost_ret (results_two' Tryz.results14 rfl rfl HL.out) rfl ?_
  exact ⟨rfl, HBE.out⟩
set_option maxRecDepth 100000 in
theorem placed1_any (n : Int) (w : World) : Calls Tryz.prog 40 #[.int .i64 n] w (Ret w (.bool (sideB n))) := by
  go_enter Tryz.func40, Tryz.ntmps40
  go_upto_region 1 with fail
  refine wp_region_et gmT gmT_ok [] (Below w.heap.size w) [] [] [(2, .bool (sideB n))] (by kernel_rfl) (Below.refl _ _)
    obsN trivial ?_
  conv => whnf
  intro f1
  conv => whnf
  refine And.intro (rfl) ?_
  conv => whnf
  intro w2 h2
  go_wp2_with fail
  go_ret
  exact ⟨rfl, h2⟩
set_option maxRecDepth 100000 in
theorem nPlaced_any (x : Spo) (w : World) : Calls Tryz.prog 15 #[.agg (soA x)] w (Ret w (.bool (rightB x))) := by
  obtain ⟨W1, HO, HB, HW, HSZ⟩ := boxSo w x
  go_enter Tryz.func15, Tryz.ntmps15
  go_upto_region 2 with fail
  rw [HW.out]
  refine wp_region_et gmT2 gmT2_ok [⟨w.heap.size, 0, (soA x).toList⟩] (Below W1.heap.size W1) [(1, 0)] [(17, .ret (.bool (sideB x.x))), (24, .ret (.bool (sideB x.y)))] [(2, .bool (rightB x))] (by kernel_rfl) (Below.refl _ _)
    (obsC (fun u hu => rangeKeep (range_new HO.out) hu) obsN) ⟨rfl, trivial⟩ ?_
  conv => whnf
  refine And.intro (under_of fun u hu => ret_in (placed1_any _ u) hu) ?_
  conv => whnf
  refine And.intro (under_of fun u hu => ret_in (placed1_any _ u) hu) ?_
  conv => whnf
  intro f1
  conv => whnf
  refine And.intro (rfl) ?_
  conv => whnf
  intro w2 h2
  have HB2 := Lib.hid (ext_trans HB.out h2)
  clear h2
  go_wp2_with fail
  go_ret
  exact ⟨rfl, HB2.out⟩
end Go.Proofs.YtfmhickjefogdaaGreat

/- nest's Shapes, Used2 (printed by wip/gen_neb.py). -/
namespace Go.Proofs.YtfmhickjefogdaaGreat
open Go.RowKit

theorem new_part (w : World) (x : Prt) : ∃ W8, Hid ((w.alloc (.cells #[.string ⟨#[]⟩, .int .i64 0, .int .i64 0, .string ⟨#[]⟩, .string ⟨#[]⟩, .int .i64 0, .slice none 0 0, .slice none 0 0, .string ⟨#[]⟩, .int .i64 0, .int .i64 0, .int .i64 0, .int .i64 0, .int .i64 0, .int .i64 0, .int .i64 0, .int .i64 0, .int .i64 0] 61)).heap[w.heap.size]? = some (.cells zPr 61 (0, 0))) ∧
    Hid ((w.alloc (.cells #[.string ⟨#[]⟩, .int .i64 0, .int .i64 0, .string ⟨#[]⟩, .string ⟨#[]⟩, .int .i64 0, .slice none 0 0, .slice none 0 0, .string ⟨#[]⟩, .int .i64 0, .int .i64 0, .int .i64 0, .int .i64 0, .int .i64 0, .int .i64 0, .int .i64 0, .int .i64 0, .int .i64 0] 61)).setRow w.heap.size (prA x) = W8) ∧ Hid (ObjAt W8 w.heap.size (prA x) 61) ∧ Hid (Below w.heap.size w W8) :=
  ⟨w.alloc (.cells (prA x) 61), heap_alloc_new w (.cells zPr 61), World.setRow_alloc_new _ _ _ _, ObjAt.new _ _ _, (Below.refl _ _).alloc (Nat.le_refl _) _⟩
theorem boxN (w : World) (nm : List UInt8) (gp : Int) (sa : Option Addr) (sn sc : Nat) : ∃ W1, Hid (ObjAt W1 w.heap.size #[.string (bs nm), .int .i64 gp, .slice sa sn sc] 24) ∧ Hid (Below w.heap.size w W1) ∧ Hid (w.alloc (.cells #[.string (bs nm), .int .i64 gp, .slice sa sn sc] 24) = W1) := newObj _ _ _
/-- the value of a shape -/
def shV (x : Shv) : Value := .agg #[.slice x.oa x.on x.oc, .slice x.ha x.hn x.hc]
/-- shapes in memory, what they read as -/
structure ShsOK (w : World) (P : List Prt) (S : List Spo) (ss : List Shv) : Prop where
  n : ss.length = S.length
  s : ∀ j, j < S.length → ShpOK w (.slice (shi ss j).oa (shi ss j).on (shi ss j).oc) (.slice (shi ss j).ha (shi ss j).hn (shi ss j).hc) (mvO P (soi S j)) (mvH P (soi S j)) (shi ss j).hvs
theorem ShsOK.keep {w w' : World} {P : List Prt} {S : List Spo} {ss : List Shv} (h : ShsOK w P S ss) (hb : Below w.heap.size w w') : ShsOK w' P S ss := ⟨h.n, fun j hj => (h.s j hj).keep hb⟩
def RetShs (P : List Prt) (S : List Spo) (w : World) (e : Ending) (w' : World) : Prop := ∃ v ss, e = .returned (.tuple #[v, .int .i64 0]) ∧ SSh w' v ss ∧ ShsOK w' P S ss ∧ Below w.heap.size w w'
/-- while they are made -/
structure ShsM (w : World) (B : Nat) (v : Value) (P : List Prt) (S : List Spo) (k : Nat) (ss : List Shv) : Prop where
  n : ss.length = k
  own : OwnSh w B v ss
  s : ∀ j, j < k → OwnShp w B (.slice (shi ss j).oa (shi ss j).on (shi ss j).oc) (.slice (shi ss j).ha (shi ss j).hn (shi ss j).hc) (mvO P (soi S j)) (mvH P (soi S j)) (shi ss j).hvs
theorem ShsM.below {w w' : World} {B : Nat} {v : Value} {P : List Prt} {S : List Spo} {k : Nat} {ss : List Shv} (h : ShsM w B v P S k ss) (hb : Below w.heap.size w w') : ShsM w' B v P S k ss := ⟨h.n, h.own.below hb, fun j hj => (h.s j hj).below hb⟩
theorem shi_app {ss : List Shv} {x : Shv} {j : Nat} (h : j < ss.length) : shi (ss ++ [x]) j = shi ss j := by unfold shi; simp [List.getElem?_append_left h]
theorem shi_last (ss : List Shv) (x : Shv) : shi (ss ++ [x]) ss.length = x := by unfold shi; simp
theorem ShsM.app {w w' : World} {B : Nat} {v v' : Value} {P : List Prt} {S : List Spo} {k : Nat} {ss : List Shv} (h : ShsM w B v P S k ss) {x : Shv} (hx : OwnShp w B (.slice x.oa x.on x.oc) (.slice x.ha x.hn x.hc) (mvO P (soi S k)) (mvH P (soi S k)) x.hvs) (hg : w.grownBy w' v.ownBlock) (ho : OwnSh w' B v' (ss ++ [x])) : ShsM w' B v' P S (k + 1) (ss ++ [x]) := by
  refine ⟨by rw [List.length_append, h.n]; rfl, ho, fun j hj => ?_⟩
  by_cases e : j < k
  · rw [shi_app (by rw [h.n]; exact e)]
    exact (h.s j e).grown h.own (by decide) (by decide) hg
  · have e2 : j = ss.length := by rw [h.n]; omega
    subst e2
    rw [shi_last, h.n]
    exact hx.grown h.own (by decide) (by decide) hg
set_option maxRecDepth 100000 in
set_option maxHeartbeats 4000000 in
theorem nShapes_any (nm : List UInt8) (gp : Int) (sv pv : Value) (S : List Spo) (P : List Prt) (L W : Int) (w : World) (hs : SSo w sv S) (hp : SPr w pv P) (ho : ∀ i, i < P.length → PrtOK w (pri P i)) (hS : S.length ≤ 32) (hP : P.length ≤ 100000) (hr : ∀ k, k < S.length → SpotR P L W gp (soi S k)) :
    Calls Tryz.prog 5 #[.agg #[.string (bs nm), .int .i64 gp, sv], pv] w (RetShs P S w) := by
  have HPP := Lib.hid hp
  have HPO := Lib.hid ho
  have HRR := Lib.hid hr
  have HPL := Lib.hid hP
  obtain ⟨sa, sc, rfl, _, _, s3⟩ := hs
  have S3 := Lib.hid s3
  obtain ⟨pa, pc, rfl, _⟩ := hp
  clear ho s3 hr
  obtain ⟨W1, HN1, HB1, HW1⟩ := boxN w nm gp sa S.length sc
  go_enter Tryz.func5, Tryz.ntmps5
  go_upto_region 1 with fail
  rw [HW1.out]
  have c2 := HN1.out.cell 2
  dsimp at c2
  go_wp2_with fail
  clear c2
  go_loopw [4, 13] (fun o0 i wr => ∃ (k : Nat) (o : Value) (ss : List Shv), k ≤ S.length ∧ i = .int .i64 k ∧ o = o0 ∧ Hid (Below W1.heap.size W1 wr) ∧ Hid (ShsM wr W1.heap.size o P S k ss)) (fun _ i _ => S.length - (intOf i).toNat)
  case atStart => exact ⟨0, _, [], Nat.zero_le _, rfl, rfl, Below.refl _ _, rfl, OwnSh_nil _ _, fun j hj => by omega⟩
  case round =>
    obtain ⟨k, o, ss, hk, rfl, rfl, hb, hm⟩ := hrel
    have HBW := Lib.hid (ext_trans HB1.out hb.out)
    obtain ⟨oa, oc, eo, _⟩ := hm.out.own.s
    rw [hm.out.n] at eo
    subst eo
    by_cases hlt : k < S.length
    · have i1 : (k : Int) < S.length := by omega
      obtain ⟨xb, xo, rfl, hx0⟩ := S3.out k hlt
      have HX0 := Lib.hid (hx0.keep HBW.out)
      have HSR := Lib.hid (HRR.out k hlt)
      obtain ⟨x, hx⟩ : ∃ x, soi S k = x := ⟨_, rfl⟩
      have HXE := Lib.hid hx
      rw [hx] at HX0 HSR
      clear hx hx0
      obtain ⟨i, hi, hf, _⟩ : ∃ k : Nat, k < P.length ∧ findP P x.part = k ∧ (pri P k).id = x.part := by
        rcases findP_spec P x.part with h | h
        · have := HSR.out.f; omega
        · exact h
      have HPE : Hid (prt P x = pri P i) := by show _ = _; unfold prt; rw [hf]; rfl
      have HF := Lib.hid hf
      clear hf
      go_upto_region 3 with fail
      refine wp_region_en 2 gmT gmT_ok [⟨xb, xo + k * 5, soCells x⟩] (fun v => v = wr) [] [(15, .ix k 0)] [(16, .agg (soA x))] 7 16 55 (#[.string ⟨#[]⟩, .int .i64 0, .int .i64 0, .int .i64 0, .bool false]) (soA x) (by kernel_rfl) rfl ⟨_, _, rfl, ⟨rfl, rfl, rfl⟩, rfl, rfl, rfl⟩ (by decide) alloc_Spot (by kernel_rfl) rfl (so_one x)
        (obsC (fun u hu => by cases hu; exact (so_range HX0.out)) obsN) trivial ?_
      conv => whnf
      refine And.intro (under_of ⟨rfl, hlt, rfl, rfl⟩) ?_
      conv => whnf
      refine And.intro (Nat.le_of_ble_eq_true rfl) ?_
      conv => whnf
      intro f1
      conv => whnf
      refine And.intro (rfl) ?_
      conv => whnf
      refine And.intro ⟨rfl, rfl⟩ ?_
      intro w2 h2
      conv => whnf
      cases h2
      obtain ⟨W2, HX2, HB2', HW2⟩ := newObj wr (soA x) 55
      obtain ⟨bx, hbx⟩ : ∃ b, wr.heap.size = b := ⟨_, rfl⟩
      rw [hbx] at HX2
      rw [HW2.out, hbx]
      have HB2 := Lib.hid (ext_trans hb.out HB2'.out)
      have HBW2 := Lib.hid (ext_trans HB1.out HB2.out)
      clear hbx HW2
      have x0 := HX2.out.cell 0
      simp only [soA] at x0
      dsimp at x0
      go_wp2_with fail
      refine (nFind_any _ P x.part i W2 (HPP.out.keep HBW2.out) (fun j hj => (HPO.out j hj).keep HBW2.out) HPL.out hi HF.out).mono ?_
      rintro e w3 ⟨rfl, hb3⟩
      have HB3 := Lib.hid (ext_trans HB2.out hb3)
      have HX3 := Lib.hid (HX2.out.keep hb3)
      have HBW3 := Lib.hid (ext_trans HB1.out HB3.out)
      have HPK := Lib.hid ((HPO.out i hi).keep HBW3.out)
      have HBR3 := Lib.hid (ext_trans HB2'.out hb3)
      clear hb3 x0
      obtain ⟨W4, HNH, HNW, HP4, HB4'⟩ := new_part w3 (pri P i)
      go_upto_region 5 with (refine wpList_store_row (o := ⟨none, .store _ _ _, _, _, _, _⟩) rfl 61 (.tmp 8) (.tmp 22) rfl w3.heap.size (prA (pri P i)) rfl rfl 61 _ HNH.out info_Part rfl (pr_one HPK.out) ?_)
      obtain ⟨bp, hbp⟩ : ∃ b, w3.heap.size = b := ⟨_, rfl⟩
      rw [HNW.out, hbp]
      rw [hbp] at HP4
      have HB4 := Lib.hid (ext_trans HB3.out HB4'.out)
      have HX4 := Lib.hid (HX3.out.keep HB4'.out)
      have HBR4 := Lib.hid (ext_trans HBR3.out HB4'.out)
      clear hbp HNH HNW
      have x0 := HX4.out.cell 0
      have x1 := HX4.out.cell 1
      have x2 := HX4.out.cell 2
      have x3 := HX4.out.cell 3
      have x4 := HX4.out.cell 4
      simp only [soA] at x0 x1 x2 x3 x4
      dsimp at x0 x1 x2 x3 x4
      go_wp2_with fail
      refine (nPlaced_any x W4).mono ?_
      rintro e w5 ⟨rfl, hb5⟩
      have HB5 := Lib.hid (ext_trans HB4.out hb5)
      have HX5 := Lib.hid (HX4.out.keep hb5)
      have HP5 := Lib.hid (HP4.out.keep hb5)
      have HBR5 := Lib.hid (ext_trans HBR4.out hb5)
      have HBW5 := Lib.hid (ext_trans HB1.out HB5.out)
      clear hb5 x0 x1 x2 x3 x4
      rw [(rightB_iff x).2 HSR.out.r]
      have x0 := HX5.out.cell 0
      have x1 := HX5.out.cell 1
      have x2 := HX5.out.cell 2
      have x3 := HX5.out.cell 3
      have x4 := HX5.out.cell 4
      have c6 := HP5.out.cell 6
      have c7 := HP5.out.cell 7
      simp only [soA, prA] at x0 x1 x2 x3 x4 c6 c7
      dsimp at x0 x1 x2 x3 x4 c6 c7
      have HRG : Hid (Rgn (pri P i).outer (pri P i).holes) := by show Rgn ..; rw [← HPE.out]; exact HSR.out.s
      go_wp2_with fail
      refine (gMove_any _ _ (pri P i).outer (pri P i).holes (pri P i).hvs x w5 ((HPO.out i hi).keep HBW5.out).shp (rgn_con HRG.out).1 (rgn_con HRG.out).2.1 (rgn_con HRG.out).2.2 HSR.out.r).mono ?_
      rintro e w6 ⟨mv, nv, mvs, rfl, hmm, hb6⟩
      have HB6 := Lib.hid (ext_trans HB5.out hb6)
      have HBR6 := Lib.hid (ext_trans HBR5.out hb6)
      have HM6 := Lib.hid (hm.out.below HBR6.out)
      have HSH : Hid (OwnShp w6 W1.heap.size mv nv (mvO P (soi S k)) (mvH P (soi S k)) mvs) := by show OwnShp ..; unfold mvO mvH; rw [HXE.out, HPE.out]; exact hmm.mono (by have := HB5.out.size; omega)
      obtain ⟨ma, mn, mc, rfl⟩ := HSH.out.o.form
      obtain ⟨na, nc, rfl, _⟩ := HSH.out.h.sl
      clear hmm hb6 x0 x1 x2 x3 x4 c6 c7
      obtain ⟨X, hX⟩ : ∃ X : Shv, X = ⟨ma, mn, mc, na, mvs.length, nc, [], [], mvs⟩ := ⟨_, rfl⟩
      have HXX := Lib.hid hX
      clear hX
      obtain ⟨W7, HN7, HB7, HW7⟩ := newObj w6 (shA X) 47
      go_wp2_with (at_builtin; rw [show w6.alloc (.cells #[.slice ma mn mc, .slice na mvs.length nc] 47) = W7 from by rw [← HW7.out, HXX.out]; rfl]; refine wpList_app_Sh rfl (.tmp 29) (.tmp 34) rfl W1.heap.size (.slice oa k oc) ss [X] rfl (HM6.out.own.below HB7.out) ⟨w6.heap.size, 0, none⟩ 1 1 rfl (sSh_one (shC HN7.out)) (by rw [HM6.out.n]; simp; omega) (Nat.le_trans HB6.out.size HB7.out.size) ?_)
      intro v8 w8 ho8 hg8 _
      have HM8 : Hid (ShsM w8 W1.heap.size v8 P S (k + 1) (ss ++ [X])) := (HM6.out.below HB7.out).app (by rw [HXX.out]; exact HSH.out.below HB7.out) hg8 ho8
      have HB8 := Lib.hid ((ext_trans HB6.out HB7.out).grown hg8 (Nat.le_trans HB6.out.size HB7.out.size) (fun r hr => (OwnSh.lt HM6.out.own r hr).1))
      clear ho8 hg8 HW7 HN7
      go_wp2_with fail
      go_roundw
      case rel => exact ⟨k + 1, _, _, by omega, by go_num, rfl, HB8, HM8⟩
      case measure => simp [intOf]; omega
    · have i1 : ¬ (k : Int) < S.length := by omega
      have e : k = S.length := by omega
      subst e
      have HSS : Hid (ShsOK wr P S ss) := ⟨hm.out.n, fun j hj => (hm.out.s j hj).shp⟩
      have HOS := Lib.hid hm.out.own.s
      go_wp2_with fail
      go_ret2
      exact ⟨_, ss, rfl, HOS.out, HSS.out, HBW.out⟩
/-- twice the area that is used -/
def usd (P : List Prt) (S : List Spo) : Nat → Int
  | 0 => 0
  | k + 1 => usd P S k + sumA ((prt P (soi S k)).outer :: (prt P (soi S k)).holes)
theorem sumA_small {o : List Pnt} {hl : List (List Pnt)} (r : Rgn o hl) : -2473901162496 ≤ sumA (o :: hl) ∧ sumA (o :: hl) ≤ 2473901162496 := by
  have := asum_small r.ctr (o :: hl).length (Nat.le_refl _)
  rw [asum_all] at this
  have h := r.n
  have : ((o :: hl).length : Int) ≤ 9 := by simp; omega
  omega
theorem usd_small {P : List Prt} {S : List Spo} {L W gp : Int} (hr : ∀ k, k < S.length → SpotR P L W gp (soi S k)) : ∀ k, k ≤ S.length → -(2473901162496 * k) ≤ usd P S k ∧ usd P S k ≤ 2473901162496 * k
  | 0, _ => by unfold usd; omega
  | k + 1, hk => by
    have ih := usd_small hr k (by omega)
    have := sumA_small (hr k (by omega)).s
    unfold usd
    omega
set_option maxRecDepth 100000 in
set_option maxHeartbeats 4000000 in
theorem nUsed2_any (nm : List UInt8) (gp : Int) (sv pv : Value) (S : List Spo) (P : List Prt) (L W : Int) (w : World) (hs : SSo w sv S) (hp : SPr w pv P) (ho : ∀ i, i < P.length → PrtOK w (pri P i)) (hS : S.length ≤ 32) (hP : P.length ≤ 100000) (hr : ∀ k, k < S.length → SpotR P L W gp (soi S k)) :
    Calls Tryz.prog 12 #[.agg #[.string (bs nm), .int .i64 gp, sv], pv] w (Ret w (.int .i64 (usd P S S.length))) := by
  have HPP := Lib.hid hp
  have HPO := Lib.hid ho
  have HRR := Lib.hid hr
  have HPL := Lib.hid hP
  obtain ⟨sa, sc, rfl, _, _, s3⟩ := hs
  have S3 := Lib.hid s3
  obtain ⟨pa, pc, rfl, _⟩ := hp
  have i32 : ¬ (32 : Int) < S.length := by omega
  clear ho s3 hr
  obtain ⟨W1, HN1, HB1, HW1⟩ := boxN w nm gp sa S.length sc
  go_enter Tryz.func12, Tryz.ntmps12
  go_upto_region 1 with fail
  rw [HW1.out]
  have c2 := HN1.out.cell 2
  dsimp at c2
  go_wp2_with fail
  clear c2
  go_loopw [4, 16] (fun n i wr => ∃ k : Nat, k ≤ S.length ∧ i = .int .i64 k ∧ n = .int .i64 (usd P S k) ∧ Hid (Below W1.heap.size W1 wr)) (fun _ i _ => S.length - (intOf i).toNat)
  case atStart => exact ⟨0, Nat.zero_le _, rfl, rfl, Below.refl _ _⟩
  case round =>
    obtain ⟨k, hk, rfl, rfl, hb⟩ := hrel
    have HBW := Lib.hid (ext_trans HB1.out hb.out)
    by_cases hlt : k < S.length
    · have i1 : (k : Int) < S.length := by omega
      obtain ⟨xb, xo, rfl, hx0⟩ := S3.out k hlt
      have HX0 := Lib.hid (hx0.keep HBW.out)
      have HSR := Lib.hid (HRR.out k hlt)
      have hu := usd_small HRR.out k (by omega)
      have HUS : Hid (usd P S (k + 1) = usd P S k + sumA ((prt P (soi S k)).outer :: (prt P (soi S k)).holes)) := rfl
      obtain ⟨U, hU⟩ : ∃ U, usd P S k = U := ⟨_, rfl⟩
      rw [hU] at hu HUS ⊢
      clear hU
      obtain ⟨x, hx⟩ : ∃ x, soi S k = x := ⟨_, rfl⟩
      rw [hx] at HX0 HSR HUS
      clear hx hx0
      obtain ⟨i, hi, hf, _⟩ : ∃ k : Nat, k < P.length ∧ findP P x.part = k ∧ (pri P k).id = x.part := by
        rcases findP_spec P x.part with h | h
        · have := HSR.out.f; omega
        · exact h
      have HPE : Hid (prt P x = pri P i) := by show _ = _; unfold prt; rw [hf]; rfl
      have HF := Lib.hid hf
      clear hf
      go_upto_region 5 with fail
      refine wp_region_en 2 gmT gmT_ok [⟨xb, xo + k * 5, soCells x⟩] (fun v => v = wr) [] [(18, .ix k 0)] [(19, .agg (soA x))] 6 19 55 (#[.string ⟨#[]⟩, .int .i64 0, .int .i64 0, .int .i64 0, .bool false]) (soA x) (by kernel_rfl) rfl ⟨_, _, rfl, ⟨rfl, rfl, rfl⟩, rfl, rfl, rfl⟩ (by decide) alloc_Spot (by kernel_rfl) rfl (so_one x)
        (obsC (fun u hu => by cases hu; exact (so_range HX0.out)) obsN) trivial ?_
      conv => whnf
      refine And.intro (under_of ⟨rfl, hlt, rfl, rfl⟩) ?_
      conv => whnf
      refine And.intro (Nat.le_of_ble_eq_true rfl) ?_
      conv => whnf
      intro f1
      conv => whnf
      refine And.intro (rfl) ?_
      conv => whnf
      refine And.intro ⟨rfl, rfl⟩ ?_
      intro w2 h2
      conv => whnf
      cases h2
      obtain ⟨W2, HX2, HB2', HW2⟩ := newObj wr (soA x) 55
      obtain ⟨bx, hbx⟩ : ∃ b, wr.heap.size = b := ⟨_, rfl⟩
      rw [hbx] at HX2
      rw [HW2.out, hbx]
      have HB2 := Lib.hid (ext_trans hb.out HB2'.out)
      have HBW2 := Lib.hid (ext_trans HB1.out HB2.out)
      clear hbx HW2
      have x0 := HX2.out.cell 0
      simp only [soA] at x0
      dsimp at x0
      go_wp2_with fail
      refine (nFind_any _ P x.part i W2 (HPP.out.keep HBW2.out) (fun j hj => (HPO.out j hj).keep HBW2.out) HPL.out hi HF.out).mono ?_
      rintro e w3 ⟨rfl, hb3⟩
      have HB3 := Lib.hid (ext_trans HB2.out hb3)
      have HX3 := Lib.hid (HX2.out.keep hb3)
      have HBW3 := Lib.hid (ext_trans HB1.out HB3.out)
      have HPK := Lib.hid ((HPO.out i hi).keep HBW3.out)
      have HBR3 := Lib.hid (ext_trans HB2'.out hb3)
      clear hb3 x0
      obtain ⟨W4, HNH, HNW, HP4, HB4'⟩ := new_part w3 (pri P i)
      go_upto_region 7 with (refine wpList_store_row (o := ⟨none, .store _ _ _, _, _, _, _⟩) rfl 61 (.tmp 7) (.tmp 25) rfl w3.heap.size (prA (pri P i)) rfl rfl 61 _ HNH.out info_Part rfl (pr_one HPK.out) ?_)
      obtain ⟨bp, hbp⟩ : ∃ b, w3.heap.size = b := ⟨_, rfl⟩
      rw [HNW.out, hbp]
      rw [hbp] at HP4
      have HB4 := Lib.hid (ext_trans HB3.out HB4'.out)
      have HBW4 := Lib.hid (ext_trans HB1.out HB4.out)
      clear hbp HNH HNW
      have c6 := HP4.out.cell 6
      have c7 := HP4.out.cell 7
      simp only [prA] at c6 c7
      dsimp at c6 c7
      have HRG : Hid (Rgn (pri P i).outer (pri P i).holes) := by show Rgn ..; rw [← HPE.out]; exact HSR.out.s
      go_wp2_with fail
      refine (gArea2_any _ _ (pri P i).outer (pri P i).holes (pri P i).hvs W4 ((HPO.out i hi).keep HBW4.out).shp HRG.out).mono ?_
      rintro e w5 ⟨rfl, hb5⟩
      have HB5 := Lib.hid (ext_trans HB4.out hb5)
      have hs2 := sumA_small HRG.out
      rw [HPE.out] at HUS
      clear hb5 c6 c7
      obtain ⟨A, hA⟩ : ∃ A, sumA ((pri P i).outer :: (pri P i).holes) = A := ⟨_, rfl⟩
      rw [hA] at hs2 HUS ⊢
      clear hA
      have hw : IntKind.i64.wrap (U + A) = U + A := IntWalk.i64_in _ (by omega)
      go_wp2_with fail
      go_roundw
      case rel => exact ⟨k + 1, by omega, by go_num, by rw [HUS.out], HB5⟩
      case measure => simp [intOf]; omega
    · have i1 : ¬ (k : Int) < S.length := by omega
      have e : k = S.length := by omega
      subst e
      go_wp2_with fail
      go_ret
      exact ⟨rfl, HBW.out⟩
end Go.Proofs.YtfmhickjefogdaaGreat

/- What is left of a plate: plain. -/
namespace Go.Proofs.YtfmhickjefogdaaGreat
open Go.RowKit

/-- a box with its gap -/
def enl (g : Int) (t : Rct) : Rct := ⟨t.x0 - g, t.y0 - g, t.x1 + g, t.y1 + g⟩
def rctOK (t : Rct) : Bool := decide (t.x0 < t.x1) && decide (t.y0 < t.y1)
/-- the boxes of a plate -/
def tkE (g : Int) (ts : List Rct) : List Rct := (ts.map (enl g)).filter rctOK
def meetR (a b : Rct) : Bool := ((decide (a.x0 < b.x1) && decide (b.x0 < a.x1)) && decide (a.y0 < b.y1)) && decide (b.y0 < a.y1)
def freeB (L : Int) (tk : List Rct) (r : Rct) : Bool := (decide (0 ≤ r.x0) && decide (r.x1 ≤ L)) && !(tk.any (meetR r))
def SideS (L : Int) (tk : List Rct) (x : Int) : Prop := 0 ≤ x ∧ x ≤ L ∧ (x = 0 ∨ x = L ∨ ∃ t ∈ tk, x = t.x0 ∨ x = t.x1)
def inCol (a b : Int) (t : Rct) : Bool := decide (t.x0 < b) && decide (a < t.x1)
def spnOf (t : Rct) : Spn := ⟨t.y0, t.y1⟩
def spnL (W : Int) (tk : List Rct) (a b : Int) : List Spn := ⟨W, W + 1⟩ :: (tk.filter (inCol a b)).map spnOf
/-- a rectangle of a column, said by the spans as a set -/
structure ColS (W : Int) (bs : List Spn) (a b : Int) (r : Rct) : Prop where
  x0 : r.x0 = a
  x1 : r.x1 = b
  y : r.y0 < r.y1
  y0 : 0 ≤ r.y0
  s : ∃ s ∈ bs, r.y1 = min s.a W ∧ (r.y0 = 0 ∨ ∃ t ∈ bs, t.a < s.a ∧ r.y0 = t.b) ∧ ∀ t ∈ bs, t.a < s.a → t.b ≤ r.y0
/-- a free rectangle that cannot be made wider -/
structure FreS (L W : Int) (tk : List Rct) (r : Rct) : Prop where
  s0 : SideS L tk r.x0
  s1 : SideS L tk r.x1
  lt : r.x0 < r.x1
  c : ColS W (spnL W tk r.x0 r.x1) r.x0 r.x1 r
  f0 : freeB L tk ⟨r.x0 - 1, r.y0, r.x1, r.y1⟩ = false
  f1 : freeB L tk ⟨r.x0, r.y0, r.x1 + 1, r.y1⟩ = false
theorem FreS.plate {L W : Int} {tk : List Rct} {r : Rct} (h : FreS L W tk r) : 0 ≤ r.x0 ∧ r.x0 < r.x1 ∧ r.x1 ≤ L ∧ 0 ≤ r.y0 ∧ r.y0 < r.y1 ∧ r.y1 ≤ W := by
  obtain ⟨s, _, h1, _⟩ := h.c.s
  exact ⟨h.s0.1, h.lt, h.s1.2.1, h.c.y0, h.c.y, by omega⟩
theorem FreS.off {L W : Int} {tk : List Rct} {r : Rct} (h : FreS L W tk r) {t : Rct} (ht : t ∈ tk) : r.x1 ≤ t.x0 ∨ t.x1 ≤ r.x0 ∨ r.y1 ≤ t.y0 ∨ t.y1 ≤ r.y0 := by
  by_cases c : inCol r.x0 r.x1 t = true
  · obtain ⟨s, _, h1, _, h3⟩ := h.c.s
    have hm : spnOf t ∈ spnL W tk r.x0 r.x1 := List.mem_cons_of_mem _ (List.mem_map_of_mem (List.mem_filter.2 ⟨ht, c⟩))
    have := h3 _ hm
    by_cases e : t.y0 < s.a
    · exact Or.inr (Or.inr (Or.inr (this e)))
    · have hle : r.y1 ≤ s.a := by rw [h1]; exact Int.min_le_left _ _
      exact Or.inr (Or.inr (Or.inl (Int.le_trans hle (Int.not_lt.1 e))))
  · unfold inCol at c
    rw [Bool.and_eq_true, decide_eq_true_eq, decide_eq_true_eq] at c
    omega
/-! the columns' loop -/
def colY (ss : List Spn) : Nat → Int
  | 0 => 0
  | k + 1 => max (colY ss k) (sni ss k).b
def colT (W a b : Int) (ss : List Spn) : Nat → List Rct
  | 0 => []
  | k + 1 => if colY ss k < min (sni ss k).a W then colT W a b ss k ++ [⟨a, colY ss k, b, min (sni ss k).a W⟩] else colT W a b ss k
theorem colY_nn (ss : List Spn) : ∀ k, 0 ≤ colY ss k
  | 0 => Int.le_refl _
  | k + 1 => by have := colY_nn ss k; unfold colY; omega
theorem colY_ge {ss : List Spn} : ∀ {k j : Nat}, j < k → (sni ss j).b ≤ colY ss k
  | 0, j, h => by omega
  | k + 1, j, h => by
    unfold colY
    by_cases e : j = k
    · subst e; omega
    · have := colY_ge (ss := ss) (show j < k by omega); omega
theorem colY_at (ss : List Spn) : ∀ k, colY ss k = 0 ∨ ∃ j, j < k ∧ colY ss k = (sni ss j).b
  | 0 => Or.inl rfl
  | k + 1 => by
    unfold colY
    rcases Int.le_total (colY ss k) (sni ss k).b with h | h
    · exact Or.inr ⟨k, by omega, by omega⟩
    · rcases colY_at ss k with e | ⟨j, hj, e⟩
      · exact Or.inl (by omega)
      · exact Or.inr ⟨j, by omega, by omega⟩
theorem colT_mem {W a b : Int} {ss : List Spn} {r : Rct} : ∀ {k : Nat}, r ∈ colT W a b ss k ↔ ∃ j, j < k ∧ colY ss j < min (sni ss j).a W ∧ r = ⟨a, colY ss j, b, min (sni ss j).a W⟩
  | 0 => by
    unfold colT
    exact ⟨fun h => (by cases h), fun ⟨j, hj, _⟩ => (by omega)⟩
  | k + 1 => by
    unfold colT
    by_cases c : colY ss k < min (sni ss k).a W
    · rw [if_pos c, List.mem_append, colT_mem (k := k), List.mem_singleton]
      constructor
      · rintro (⟨j, h1, h2, h3⟩ | h)
        · exact ⟨j, by omega, h2, h3⟩
        · exact ⟨k, by omega, c, h⟩
      · rintro ⟨j, h1, h2, h3⟩
        by_cases e : j = k
        · subst e; exact Or.inr h3
        · exact Or.inl ⟨j, by omega, h2, h3⟩
    · rw [if_neg c, colT_mem (k := k)]
      constructor
      · rintro ⟨j, h1, h2, h3⟩
        exact ⟨j, by omega, h2, h3⟩
      · rintro ⟨j, h1, h2, h3⟩
        by_cases e : j = k
        · subst e; exact absurd h2 c
        · exact ⟨j, by omega, h2, h3⟩
/-- sorted spans say what the set says -/
theorem colT_set {W a b : Int} {bs ss : List Spn} (hp : ss.Perm bs) (hs : ∀ i j, i < j → j < ss.length → (sni ss i).a ≤ (sni ss j).a) (hl : ∀ s ∈ bs, s.a < s.b) (r : Rct) : r ∈ colT W a b ss ss.length ↔ ColS W bs a b r := by
  have mem : ∀ s, s ∈ bs ↔ ∃ j, j < ss.length ∧ sni ss j = s := fun s => by
    rw [← hp.mem_iff]
    constructor
    · intro h
      obtain ⟨j, hj, e⟩ := List.mem_iff_getElem.1 h
      exact ⟨j, hj, by rw [sni_lt hj, e]⟩
    · rintro ⟨j, hj, e⟩
      rw [← e]; exact sni_mem hj
  have lt : ∀ j, j < ss.length → (sni ss j).a < (sni ss j).b := fun j hj => hl _ ((mem _).2 ⟨j, hj, rfl⟩)
  rw [colT_mem]
  constructor
  · rintro ⟨k, hk, hy, rfl⟩
    have low : ∀ j, j < k → (sni ss j).a < (sni ss k).a := fun j hj => by
      have h1 := colY_ge (ss := ss) hj
      have h2 := lt j (by omega)
      omega
    refine ⟨rfl, rfl, hy, colY_nn _ _, sni ss k, (mem _).2 ⟨k, hk, rfl⟩, rfl, ?_, fun t ht hta => ?_⟩
    · rcases colY_at ss k with e | ⟨j, hj, e⟩
      · exact Or.inl e
      · exact Or.inr ⟨sni ss j, (mem _).2 ⟨j, by omega, rfl⟩, low j hj, e⟩
    · obtain ⟨j, hj, rfl⟩ := (mem t).1 ht
      rcases Nat.lt_or_ge j k with g | g
      · exact colY_ge g
      · rcases Nat.lt_or_eq_of_le g with g | g
        · have := hs k j g hj; omega
        · subst g; omega
  · rintro ⟨e0, e1, hy, h0, s, hsm, e2, e3, h4⟩
    -- the first place with that beginning
    have key : ∀ n, n ≤ ss.length → (∃ j, j < n ∧ (sni ss j).a = s.a) → ∃ k, k < n ∧ (sni ss k).a = s.a ∧ ∀ j, j < k → (sni ss j).a < s.a := by
      intro n
      induction n with
      | zero => rintro _ ⟨j, hj, _⟩; omega
      | succ n ih =>
        rintro hn ⟨j, hj, e⟩
        by_cases c : ∃ j, j < n ∧ (sni ss j).a = s.a
        · obtain ⟨k, h1, h2, h3⟩ := ih (by omega) c
          exact ⟨k, by omega, h2, h3⟩
        · have hjn : j = n := by
            by_cases q : j = n
            · exact q
            · exact absurd ⟨j, by omega, e⟩ c
          subst hjn
          refine ⟨j, by omega, e, fun i hi => ?_⟩
          have h1 := hs i j hi (by omega)
          have h2 : (sni ss i).a ≠ s.a := fun h => c ⟨i, hi, h⟩
          omega
    obtain ⟨j0, hj0, ej0⟩ := (mem s).1 hsm
    obtain ⟨k, hk, ek, hlow⟩ := key ss.length (Nat.le_refl _) ⟨j0, hj0, by rw [ej0]⟩
    have hY : colY ss k = r.y0 := by
      have h1 : colY ss k ≤ r.y0 := by
        rcases colY_at ss k with e | ⟨j, hj, e⟩
        · omega
        · have := h4 _ ((mem _).2 ⟨j, by omega, rfl⟩) (hlow j hj); omega
      have h2 : r.y0 ≤ colY ss k := by
        rcases e3 with e | ⟨t, ht, hta, e⟩
        · have := colY_nn ss k; omega
        · obtain ⟨j, hj, rfl⟩ := (mem t).1 ht
          have hjk : j < k := by
            rcases Nat.lt_or_ge j k with g | g
            · exact g
            · rcases Nat.lt_or_eq_of_le g with g | g
              · have := hs k j g hj; omega
              · subst g; omega
          have := colY_ge (ss := ss) hjk
          omega
      omega
    refine ⟨k, hk, by rw [hY, ek, ← e2]; exact hy, ?_⟩
    obtain ⟨x0, y0, x1, y1⟩ := r
    dsimp only at *
    rw [hY, ek, ← e2, e0, e1]
end Go.Proofs.YtfmhickjefogdaaGreat

/- remnant's within, right, meet, free, area (printed by wip/gen_rea.py). -/
namespace Go.Proofs.YtfmhickjefogdaaGreat
open Go.RowKit

theorem alloc_Rect : ∀ w, (Instr.alloc 39 true (.tuple #[])).run Tryz.prog w = .ok (.pointer (some ⟨w.heap.size, 0, none⟩)) (w.alloc (.cells #[.int .i64 0, .int .i64 0, .int .i64 0, .int .i64 0] 39)) := fun w => by go_simp
/-- numbers that a plate admits -/
structure PlIn (L W g : Int) (ts : List Rct) : Prop where
  l0 : 1 ≤ L
  l1 : L ≤ 32768
  w0 : 1 ≤ W
  w1 : W ≤ 32768
  g0 : 0 ≤ g
  g1 : g ≤ 500
  n : ts.length ≤ 32
  t : ∀ i, i < ts.length → -32768 ≤ (rci ts i).x0 ∧ -32768 ≤ (rci ts i).y0 ∧ (rci ts i).x1 ≤ 32768 ∧ (rci ts i).y1 ≤ 32768 ∧ (rci ts i).x0 ≤ (rci ts i).x1 ∧ (rci ts i).y0 ≤ (rci ts i).y1
set_option maxRecDepth 100000 in
theorem eWithin_any (x lo hi : Int) (w : World) : Calls Tryz.prog 75 #[.int .i64 x, .int .i64 lo, .int .i64 hi] w (Ret w (.bool (decide (lo ≤ x) && decide (x ≤ hi)))) := by
  go_enter Tryz.func75, Tryz.ntmps75
  go_upto_region 1 with fail
  refine wp_region_et gmT gmT_ok [] (Below w.heap.size w) [] [] [(6, .bool (decide (lo ≤ x) && decide (x ≤ hi)))] (by kernel_rfl) (Below.refl _ _)
    obsN trivial ?_
  conv => whnf
  intro f1
  conv => whnf
  refine And.intro (rfl) ?_
  conv => whnf
  intro w2 h2
  go_wp2_with fail
  go_ret
  exact ⟨rfl, h2⟩
theorem eWithin_true (x lo hi : Int) (w : World) (h1 : lo ≤ x) (h2 : x ≤ hi) : Calls Tryz.prog 75 #[.int .i64 x, .int .i64 lo, .int .i64 hi] w (Ret w (.bool true)) := by
  have := eWithin_any x lo hi w
  rw [decide_eq_true h1, decide_eq_true h2] at this
  exact this
set_option maxRecDepth 100000 in
set_option maxHeartbeats 1000000 in
theorem eRight_any (L W gp : Int) (v : Value) (ts : List Rct) (w : World) (h : SRc w v ts) (hp : PlIn L W gp ts) : Calls Tryz.prog 46 #[.int .i64 L, .int .i64 W, v, .int .i64 gp] w (Ret w (.bool true)) := by
  have HP := Lib.hid hp
  have h32 := hp.n
  have h32' : ¬ (32 : Int) < ts.length := by omega
  obtain ⟨pa, pc, rfl, _, _, p3⟩ := h
  have P3 := Lib.hid p3
  clear p3 hp
  go_enter Tryz.func46, Tryz.ntmps46
  go_upto_region 1 with fail
  refine wp_region_et gmT gmT_ok [] (Below w.heap.size w) [] [(12, .ret (.bool true)), (16, .ret (.bool true)), (21, .ret (.bool true))] [(28, .bool false)] (by kernel_rfl) (Below.refl _ _)
    obsN trivial ?_
  conv => whnf
  refine And.intro (under_of fun u hu => ret_in (eWithin_true _ _ _ u HP.out.l0 HP.out.l1) hu) ?_
  conv => whnf
  refine And.intro (under_of fun u hu => ret_in (eWithin_true _ _ _ u HP.out.w0 HP.out.w1) hu) ?_
  conv => whnf
  refine And.intro (under_of fun u hu => ret_in (eWithin_true _ _ _ u HP.out.g0 HP.out.g1) hu) ?_
  conv => whnf
  intro f1
  conv => whnf
  refine And.intro (by rw [decide_eq_false h32']; rfl) ?_
  conv => whnf
  intro w2 h2
  have HB2 : Hid (Below w.heap.size w w2) := h2
  clear h2
  go_wp2_with fail
  go_loopw [31] (fun i wr => ∃ k : Nat, k ≤ ts.length ∧ i = .int .i64 k ∧ Hid (Below w.heap.size w wr)) (fun i _ => ts.length - (intOf i).toNat)
  case atStart => exact ⟨0, Nat.zero_le _, rfl, HB2⟩
  case round =>
    obtain ⟨k, hk, rfl, hb⟩ := hrel
    by_cases hlt : k < ts.length
    · have i1 : (k : Int) < ts.length := by omega
      obtain ⟨pb, po, rfl, hc⟩ := P3.out k hlt
      have HC := Lib.hid (hc.keep hb.out)
      have ht := HP.out.t k hlt
      clear hc
      go_upto_region 5 with fail
      refine wp_region_en 2 gmT gmT_ok [⟨pb, po + k * 4, rcCells (rci ts k)⟩] (fun v => v = wr) [] [(33, .ix k 0)] [(34, .agg (rcA (rci ts k)))] 10 34 39 (#[.int .i64 0, .int .i64 0, .int .i64 0, .int .i64 0]) (rcA (rci ts k)) (by kernel_rfl) rfl ⟨_, _, rfl, ⟨rfl, rfl, rfl⟩, rfl, rfl, rfl⟩ (by decide) alloc_Rect (by kernel_rfl) rfl (rc_one _)
        (obsC (fun u hu => by cases hu; exact (rc_range HC.out)) obsN) trivial ?_
      conv => whnf
      refine And.intro (under_of ⟨rfl, hlt, rfl, rfl⟩) ?_
      conv => whnf
      refine And.intro (Nat.le_of_ble_eq_true rfl) ?_
      conv => whnf
      intro f3
      conv => whnf
      refine And.intro (rfl) ?_
      conv => whnf
      refine And.intro ⟨rfl, rfl⟩ ?_
      intro w2 h2
      conv => whnf
      cases h2
      obtain ⟨W3, HQ3, HB3', HW3⟩ := newObj wr (rcA (rci ts k)) 39
      obtain ⟨bq, hbq⟩ : ∃ b, wr.heap.size = b := ⟨_, rfl⟩
      rw [hbq] at HQ3
      rw [HW3.out, hbq]
      have HB3 := Lib.hid (ext_trans hb.out HB3'.out)
      clear hbq
      generalize rci ts k = t at *
      obtain ⟨t1, t2, t3, t4, t5, t6⟩ := ht
      go_upto_region 6 with fail
      refine wp_region_et gmT gmT_ok [⟨bq, 0, (rcA t).toList⟩] (Below W3.heap.size W3) [(10, 0)] [] [(74, .bool false)] (by kernel_rfl) (Below.refl _ _)
        (obsC (fun u hu => rangeKeep (range_new HQ3.out) hu) obsN) ⟨rfl, trivial⟩ ?_
      conv => whnf
      intro f4
      conv => whnf
      refine And.intro (by rw [decide_eq_false (show ¬ t.x0 < -32768 by omega), decide_eq_false (show ¬ t.y0 < -32768 by omega), decide_eq_false (show ¬ 32768 < t.x1 by omega), decide_eq_false (show ¬ 32768 < t.y1 by omega), decide_eq_false (show ¬ t.x1 < t.x0 by omega), decide_eq_false (show ¬ t.y1 < t.y0 by omega)]; rfl) ?_
      conv => whnf
      intro w4 h4
      have HB4 := Lib.hid (ext_trans HB3.out h4)
      clear h4
      go_wp2_with fail
      go_roundw
      case rel => exact ⟨k + 1, by omega, by go_num, HB4⟩
      case measure => simp [intOf]; omega
    · have i1 : ¬ (k : Int) < ts.length := by omega
      go_wp2_with fail
      go_ret
      exact ⟨rfl, hb.out⟩
theorem boxR2 (w : World) (a b : Rct) : ∃ W1, Hid (ObjAt W1 w.heap.size (rcA a) 39) ∧ Hid (ObjAt W1 (w.heap.size + 1) (rcA b) 39) ∧ Hid (Below w.heap.size w W1) ∧ Hid ((w.alloc (.cells #[.int .i64 a.x0, .int .i64 a.y0, .int .i64 a.x1, .int .i64 a.y1] 39)).alloc (.cells #[.int .i64 b.x0, .int .i64 b.y0, .int .i64 b.x1, .int .i64 b.y1] 39) = W1) :=
  ⟨_, (ObjAt.new w (rcA a) 39).alloc _, (by have h := ObjAt.new (w.alloc (.cells (rcA a) 39)) (rcA b) 39; rw [size_alloc] at h; exact h), ((Below.refl _ _).alloc (Nat.le_refl _) _).alloc (by simp) _, rfl⟩
set_option maxRecDepth 100000 in
set_option maxHeartbeats 1000000 in
theorem eMeet_any (a b : Rct) (w : World) : Calls Tryz.prog 82 #[rcV a, rcV b] w (Ret w (.bool (meetR a b))) := by
  obtain ⟨W1, HA, HBb, HB, HW⟩ := boxR2 w a b
  unfold rcV
  go_enter Tryz.func82, Tryz.ntmps82
  go_upto_region 1 with fail
  rw [HW.out]
  refine wp_region_et gmT gmT_ok [⟨w.heap.size, 0, (rcA a).toList⟩, ⟨w.heap.size + 1, 0, (rcA b).toList⟩] (Below W1.heap.size W1) [(2, 0), (3, 1)] [] [(4, .bool (meetR a b))] (by kernel_rfl) (Below.refl _ _)
    (obsC (fun u hu => rangeKeep (range_new HA.out) hu) (obsC (fun u hu => rangeKeep (range_new HBb.out) hu) obsN)) ⟨rfl, rfl, trivial⟩ ?_
  conv => whnf
  intro f1
  conv => whnf
  refine And.intro (rfl) ?_
  conv => whnf
  intro w2 h2
  have HB2 := Lib.hid (ext_trans HB.out h2)
  clear h2
  go_wp2_with fail
  go_ret
  exact ⟨rfl, HB2.out⟩
set_option maxRecDepth 100000 in
theorem eArea_any (a : Rct) (w : World) : Calls Tryz.prog 22 #[rcV a] w (Ret w (.int .i64 (IntKind.i64.wrap (IntKind.i64.wrap (a.x1 - a.x0) * IntKind.i64.wrap (a.y1 - a.y0))))) := by
  obtain ⟨W1, HA, HB, HW⟩ := boxW w a
  unfold rcV
  go_enter Tryz.func22, Tryz.ntmps22
  go_upto_region 1 with fail
  rw [HW.out]
  refine wp_region_et gmT gmT_ok [⟨w.heap.size, 0, (rcA a).toList⟩] (Below W1.heap.size W1) [(1, 0)] [] [(2, .int .i64 (IntKind.i64.wrap (IntKind.i64.wrap (a.x1 - a.x0) * IntKind.i64.wrap (a.y1 - a.y0))))] (by kernel_rfl) (Below.refl _ _)
    (obsC (fun u hu => rangeKeep (range_new HA.out) hu) obsN) ⟨rfl, trivial⟩ ?_
  conv => whnf
  intro f1
  conv => whnf
  refine And.intro (rfl) ?_
  conv => whnf
  intro w2 h2
  have HB2 := Lib.hid (ext_trans HB.out h2)
  clear h2
  go_wp2_with fail
  go_ret
  exact ⟨rfl, HB2.out⟩
set_option maxRecDepth 100000 in
theorem free1_any (r t : Rct) (b : Nat) (w : World) (hr : ObjAt w b (rcA r) 39) : Calls Tryz.prog 81 #[rcV t, .pointer (some ⟨b, 0, none⟩)] w (Ret w (.bool (meetR r t))) := by
  have HR := Lib.hid hr
  clear hr
  obtain ⟨W1, HA, HB, HW⟩ := boxW w t
  unfold rcV
  go_enter Tryz.func81, Tryz.ntmps81
  go_upto_region 1 with fail
  rw [HW.out]
  refine wp_region_et gmT gmT_ok [⟨w.heap.size, 0, (rcA t).toList⟩, ⟨b, 0, (rcA r).toList⟩] (Below W1.heap.size W1) [(2, 0), (1, 1)] [(6, .ret (.bool (meetR r t)))] [(3, .bool (meetR r t))] (by kernel_rfl) (Below.refl _ _)
    (obsC (fun u hu => rangeKeep (range_new HA.out) hu) (obsC (fun u hu => rangeKeep (range_new (HR.out.keep HB.out)) hu) obsN)) ⟨rfl, rfl, trivial⟩ ?_
  conv => whnf
  refine And.intro (Nat.le_of_ble_eq_true rfl) ?_
  conv => whnf
  refine And.intro (Nat.le_of_ble_eq_true rfl) ?_
  conv => whnf
  refine And.intro (under_of fun u hu => ret_in (eMeet_any r t u) hu) ?_
  conv => whnf
  intro f1
  conv => whnf
  refine And.intro (rfl) ?_
  conv => whnf
  intro w2 h2
  have HB2 := Lib.hid (ext_trans HB.out h2)
  clear h2
  go_wp2_with fail
  go_ret
  exact ⟨rfl, HB2.out⟩
theorem boxPR (w : World) (L W : Int) (pa : Option Addr) (pn pc : Nat) (b : Rct) : ∃ W1, Hid (ObjAt W1 w.heap.size #[.int .i64 L, .int .i64 W, .slice pa pn pc] 91) ∧ Hid (ObjAt W1 (w.heap.size + 1) (rcA b) 39) ∧ Hid (Below w.heap.size w W1) ∧ Hid ((w.alloc (.cells #[.int .i64 L, .int .i64 W, .slice pa pn pc] 91)).alloc (.cells #[.int .i64 b.x0, .int .i64 b.y0, .int .i64 b.x1, .int .i64 b.y1] 39) = W1) :=
  ⟨_, (ObjAt.new w #[.int .i64 L, .int .i64 W, .slice pa pn pc] 91).alloc _, (by have h := ObjAt.new (w.alloc (.cells #[.int .i64 L, .int .i64 W, .slice pa pn pc] 91)) (rcA b) 39; rw [size_alloc] at h; exact h), ((Below.refl _ _).alloc (Nat.le_refl _) _).alloc (by simp) _, rfl⟩
set_option maxRecDepth 100000 in
set_option maxHeartbeats 1000000 in
theorem eFree_any (L W : Int) (v : Value) (tk : List Rct) (r : Rct) (w : World) (h : SRc w v tk) : Calls Tryz.prog 50 #[.agg #[.int .i64 L, .int .i64 W, v], rcV r] w (Ret w (.bool (freeB L tk r))) := by
  have HS := Lib.hid h
  obtain ⟨pa, pc, rfl, _⟩ := h
  have HV : Hid (freeB L tk r = ((decide (0 ≤ r.x0) && decide (r.x1 ≤ L)) && !(tk.any (meetR r)))) := rfl
  obtain ⟨W1, HP1, HR1, HB1, HW1⟩ := boxPR w L W pa tk.length pc r
  unfold rcV
  go_enter Tryz.func50, Tryz.ntmps50
  go_upto_region 1 with fail
  rw [HW1.out]
  have p0 := HP1.out.cell 0
  have p2 := HP1.out.cell 2
  have r0 := HR1.out.cell 0
  have r2 := HR1.out.cell 2
  simp only [rcA] at r0 r2
  dsimp at p0 p2 r0 r2
  by_cases c1 : 0 ≤ r.x0
  · by_cases c2 : r.x1 ≤ L
    · rw [decide_eq_true c1, decide_eq_true c2] at HV
      go_wp2_with fail
      refine (contains_Rc (.func (.func 81) #[] #[.pointer (some ⟨w.heap.size + 1, 0, none⟩)]) _ (fun _ => True) (meetR r) tk W1 (HS.out.keep HB1.out) (fun _ _ => trivial) ⟨_, _, rfl, fun args w => enters_of Tryz.func81 (by kernel_rfl) rfl args w, fun t u _ hu => free1_any r t (w.heap.size + 1) u (HR1.out.keep hu)⟩).mono ?_
      rintro e w2 ⟨rfl, hb2⟩
      have HB2 := Lib.hid (ext_trans HB1.out hb2)
      clear hb2 p0 p2 r0 r2 c1 c2
      obtain ⟨z, hz⟩ : ∃ z, tk.any (meetR r) = z := ⟨_, rfl⟩
      rw [hz] at HV ⊢
      clear hz
      cases z
      · go_wp2_with fail
        go_ret
        exact ⟨ret_bool (by rw [HV.out]; rfl), HB2.out⟩
      · go_wp2_with fail
        go_ret
        exact ⟨ret_bool (by rw [HV.out]; rfl), HB2.out⟩
    · rw [decide_eq_true c1, decide_eq_false c2] at HV
      go_wp2_with fail
      go_ret
      exact ⟨ret_bool (by rw [HV.out]; rfl), HB1.out⟩
  · rw [decide_eq_false c1] at HV
    go_wp2_with fail
    go_ret
    exact ⟨ret_bool (by rw [HV.out]; rfl), HB1.out⟩
end Go.Proofs.YtfmhickjefogdaaGreat
