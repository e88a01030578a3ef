/- Contract: contours of the reference's regions (printed by wip/gen_rme3.py). -/
import Derived.Test.YtfmhickjefogdaaGreatPk06
import Derived.Laws.Rows
import Derived.Laws.Tables
import Derived.Test.YtfmhickjefogdaaGreatPk04
import Derived.Maps.AppendAt
import Derived.Test.YtfmhickjefogdaaGreatPk02
set_option linter.unusedSimpArgs false
set_option linter.unusedVariables false

/- Spots: contours moved, shapes that are off each other, and what they take of a plate: plain. -/
namespace Go.Proofs.YtfmhickjefogdaaGreat
open Go.RowKit

def rotN : Nat → Pnt → Pnt
  | 0, p => p
  | n + 1, p => rot (rotN n p)
def flpB (b : Bool) (p : Pnt) : Pnt := if b = true then flp p else p
/-- a point at a spot -/
def mvP (x : Spo) (p : Pnt) : Pnt := ⟨(rotN x.turn.toNat (flpB x.flip p)).x + x.x, (rotN x.turn.toNat (flpB x.flip p)).y + x.y⟩
/-- a contour at a spot -/
def mvL (x : Spo) (l : List Pnt) : List Pnt := if x.flip = true then (l.map (mvP x)).reverse else l.map (mvP x)
theorem mov_rotN : ∀ n, Mov (List.map (rotN n)) (rotN n)
  | 0 => by
    have : (rotN 0) = fun p => p := rfl
    rw [this]
    have e : (List.map fun p : Pnt => p) = fun l => l := by funext l; exact List.map_id _
    rw [e]; exact Mov.ident
  | n + 1 => by
    have h := (mov_rotN n).comp mov_rot
    have e : (fun l => List.map rot (List.map (rotN n) l)) = List.map (rotN (n + 1)) := by funext l; rw [List.map_map]; rfl
    rw [e] at h
    exact h
theorem mov_flpB (b : Bool) : Mov (fun l => if b = true then (l.map flp).reverse else l) (flpB b) := by
  cases b
  · exact Mov.ident
  · exact mov_flp
theorem mvP_eq (x : Spo) : mvP x = fun p => aff 1 x.x 1 0 x.y (rotN x.turn.toNat (flpB x.flip p)) := by
  funext p
  unfold mvP aff
  congr 1 <;> omega
theorem mov_spo (x : Spo) : Mov (mvL x) (mvP x) := by
  have h := ((mov_flpB x.flip).comp (mov_rotN x.turn.toNat)).comp (mov_shift x.x x.y)
  rw [← mvP_eq] at h
  have e : (fun l => List.map (aff 1 x.x 1 0 x.y) (List.map (rotN x.turn.toNat) (if x.flip = true then (l.map flp).reverse else l))) = mvL x := by
    funext l
    unfold mvL
    rw [mvP_eq]
    cases hf : x.flip
    · rw [if_neg (by decide), if_neg (by decide), List.map_map]
      refine List.map_congr_left fun p _ => ?_
      show _ = aff 1 x.x 1 0 x.y (rotN x.turn.toNat (flpB false p))
      rfl
    · rw [if_pos rfl, if_pos rfl, List.map_map, List.map_reverse, List.map_map]
      rfl
  rw [e] at h
  exact h
/-- what Clear finds -/
structure SepR (ao : List Pnt) (ah : List (List Pnt)) (bo : List Pnt) (bh : List (List Pnt)) : Prop where
  x : ∀ c ∈ ao :: ah, ∀ d ∈ bo :: bh, crossB c d = false
  a : whereL ao (pti bo 0) = -1 ∨ ∃ h ∈ ah, whereL h (pti bo 0) = 1
  b : whereL bo (pti ao 0) = -1 ∨ ∃ h ∈ bh, whereL h (pti ao 0) = 1
theorem sep_off {ao bo : List Pnt} {ah bh : List (List Pnt)} (sa : Shp2 ao ah) (sb : Shp2 bo bh) (h : SepR ao ah bo bh) : Off0 ao ah bo bh := by
  have ap : ∀ c ∈ ao :: ah, ∀ d ∈ bo :: bh, Apart c d := fun c hc d hd => (cross_apart (sa.c c hc) (sb.c d hd)).1 (h.x c hc d hd)
  have ca := sa.c ao (by simp)
  have cb := sb.c bo (by simp)
  refine ⟨ap, ?_, ?_⟩
  · rcases h.b with g | ⟨k, hk, g⟩
    · exact Or.inl ((where_neg cb (ca.nr ca.len0) (apart_off (ap ao (by simp) bo (by simp)).sym ca.len0)).1 g)
    · exact Or.inr ⟨k, hk, (where_one (sb.c k (by simp [hk])) (ca.nr ca.len0) (apart_off (ap ao (by simp) k (by simp [hk])).sym ca.len0)).1 g⟩
  · rcases h.a with g | ⟨k, hk, g⟩
    · exact Or.inl ((where_neg ca (cb.nr cb.len0) (apart_off (ap ao (by simp) bo (by simp)) cb.len0)).1 g)
    · exact Or.inr ⟨k, hk, (where_one (sa.c k (by simp [hk])) (cb.nr cb.len0) (apart_off (ap k (by simp [hk]) bo (by simp)) cb.len0)).1 g⟩
/-- a shape on a plate -/
theorem shp2_on {x : Spo} {o : List Pnt} {hl : List (List Pnt)} (s : Shp2 o hl) {x0 y0 x1 y1 : Int} (hb : Inn x0 y0 x1 y1 (mvL x o)) (h1 : -32768 ≤ x0) (h2 : -32768 ≤ y0) (h3 : x1 ≤ 32768) (h4 : y1 ≤ 32768) : Shp2 (mvL x o) (hl.map (mvL x)) ∧ ∀ c ∈ mvL x o :: hl.map (mvL x), Inn x0 y0 x1 y1 c := by
  have m := mov_spo x
  have s0 := m.sh0 s.s
  have bx := s0.box hb
  refine ⟨⟨s0, fun l hl' => ?_, by rw [List.length_map]; exact s.n⟩, bx⟩
  have b := bx l hl'
  have key : Simple l ∧ l.length ≤ 32 := by
    rcases List.mem_cons.1 hl' with e | e
    · subst e
      exact ⟨s0.os, by rw [m.len]; exact (s.c o (by simp)).n⟩
    · obtain ⟨c, hc, rfl⟩ := List.mem_map.1 e
      exact ⟨s0.hs _ e, by rw [m.len]; exact (s.c c (by simp [hc])).n⟩
  exact ⟨key.1, key.2, near_of fun i hi => ⟨by have := b.x i hi; omega, by have := b.x i hi; omega, by have := b.y i hi; omega, by have := b.y i hi; omega⟩⟩
theorem sumA_mv (x : Spo) (o : List Pnt) (hl : List (List Pnt)) : sumA (mvL x o :: hl.map (mvL x)) = sumA (o :: hl) := (mov_spo x).sumA (o :: hl)
theorem Inn.wide {x0 y0 x1 y1 u0 v0 u1 v1 : Int} {l : List Pnt} (h : Inn x0 y0 x1 y1 l) (h1 : u0 ≤ x0) (h2 : v0 ≤ y0) (h3 : x1 ≤ u1) (h4 : y1 ≤ v1) : Inn u0 v0 u1 v1 l := ⟨fun i hi => by have := h.x i hi; omega, fun i hi => by have := h.y i hi; omega⟩
/-- what is left of a plate, and what lies on it -/
theorem left_law {L W x0 y0 x1 y1 : Int} (hL : 0 < L) (hW : 0 < W) (hx : x0 < x1) (hy : y0 < y1) (r0 : 0 ≤ x0) (r1 : x1 ≤ L) (r2 : 0 ≤ y0) (r3 : y1 ≤ W) (l : List (List Pnt × List (List Pnt))) (hs : ∀ s ∈ l, Shp2 s.1 s.2) (hi : ∀ s ∈ l, ∀ c ∈ s.1 :: s.2, Inn 0 0 L W c) (hb : ∀ s ∈ l, ∃ u0 v0 u1 v1, (∀ c ∈ s.1 :: s.2, Inn u0 v0 u1 v1 c) ∧ (x1 < u0 ∨ u1 < x0 ∨ y1 < v0 ∨ v1 < y0)) (hp : l.Pairwise fun s s' => SepR s.1 s.2 s'.1 s'.2) : 2 * ((x1 - x0) * (y1 - y0)) + sumB l ≤ 2 * (L * W) := by
  have h := plate1 hL hW ((rct x0 y0 x1 y1, []) :: l) (fun s hs' c hc => by
    rcases List.mem_cons.1 hs' with e | e
    · subst e
      rw [List.mem_singleton.1 hc]
      have := rct_inn x0 y0 x1 y1 (by omega) (by omega)
      exact this.wide r0 r2 r1 r3
    · exact hi s e c hc) (fun s hs' => by
    rcases List.mem_cons.1 hs' with e | e
    · subst e; exact rct_sh hx hy
    · exact (hs s e).s) (by
    rw [List.pairwise_cons]
    refine ⟨fun s hs' => ?_, hp.imp_of_mem fun {s s'} h1 h2 f => sep_off (hs s h1) (hs s' h2) f⟩
    obtain ⟨u0, v0, u1, v1, i, d⟩ := hb s hs'
    exact rct_off (by omega) (by omega) ((hs s hs').s.len _ (by simp)) i d)
  have e : sumB ((rct x0 y0 x1 y1, []) :: l) = area2 (rct x0 y0 x1 y1) + 0 + sumB l := rfl
  rw [e, rct_area] at h
  omega
end Go.Proofs.YtfmhickjefogdaaGreat

/- Contracts: far, Point, contour of the reference's regions. -/
namespace Go.Proofs.YtfmhickjefogdaaGreat
open Go.RowKit

theorem results_cell {fn : Func} {p : Tmp} {ty : TypeId} (h : fn.results = #[.cell p ty]) {tmps : Array Value} {w : World} {g : Nat} {v : Value}
    (hp : tmps.getD p undef = .pointer (some ⟨g, 0, none⟩)) (hl : (loadVar ty ⟨g, 0, none⟩).run Tryz.prog w = .ok v w) :
    (results fn tmps).run Tryz.prog w = .ok v w := by
  have hp' : tmps[p]?.getD undef = .pointer (some ⟨g, 0, none⟩) := by simpa using hp
  simp [results, h, hp', asAddr, hl]
theorem ObjAt.row {w : World} {b : Nat} {xs : Array Value} {e : TypeId} (h : ObjAt w b xs e) {g : Nat} (hne : b ≠ g) (cs : Array Value) : ObjAt (w.setRow g cs) b xs e := (setRow_other w g b cs hne).trans h
theorem info_Point : (Tryz.prog.info? 37).map (·.size) = some 2 := by kernel_rfl
theorem load_Point {w : World} {g : Nat} {x : Pnt} {e : TypeId} (h : ObjAt w g (ptA x) e) : (loadVar 37 ⟨g, 0, none⟩).run Tryz.prog w = .ok (ptV x) w := run_loadVar_row (P := Tryz.prog) w g e 37 (ptA x) (0, 0) _ h Tryz.underlying37 rfl info_Point
/-- a spot within the limits -/
structure RightS (x : Spo) : Prop where
  t0 : 0 ≤ x.turn
  t3 : x.turn ≤ 3
  x0 : -32768 ≤ x.x
  x1 : x.x ≤ 32768
  y0 : -32768 ≤ x.y
  y1 : x.y ≤ 32768
theorem rotN_nr {p : Pnt} (h : Nr p) : ∀ n, Nr (rotN n p)
  | 0 => h
  | n + 1 => by
    obtain ⟨a, b, c, d⟩ := rotN_nr h n
    exact ⟨by show -32768 ≤ -_; omega, by show -_ ≤ _; omega, a, b⟩
theorem flpB_nr {p : Pnt} (h : Nr p) (b : Bool) : Nr (flpB b p) := by
  obtain ⟨a, b', c, d⟩ := h
  cases b
  · exact ⟨a, b', c, d⟩
  · exact ⟨by show -32768 ≤ -_; omega, by show -_ ≤ _; omega, c, d⟩
def farP (q : Pnt) : Bool := ((decide (q.x < -1099511627776) || decide (1099511627776 < q.x)) || decide (q.y < -1099511627776)) || decide (1099511627776 < q.y)
theorem far_nr {q : Pnt} (h : Nr q) : farP q = false := by
  obtain ⟨a, b, c, d⟩ := h
  unfold farP
  simp only [Bool.or_eq_false_iff, decide_eq_false_iff_not]
  omega
set_option maxRecDepth 100000 in
theorem rfar_any (a : Pnt) (w : World) : Calls Tryz.prog 68 #[ptV a] w (Ret w (.bool (farP a))) := by
  obtain ⟨W1, HOa, HB, HW⟩ := boxP1 w a
  unfold ptV
  go_enter Tryz.func68, Tryz.ntmps68
  go_upto_region 1 with fail
  rw [HW.out]
  refine wp_region_et gmT gmT_ok [⟨w.heap.size, 0, (ptA a).toList⟩] (Below W1.heap.size W1) [(1, 0)] [] [(2, .bool (farP a))] (by kernel_rfl) (Below.refl _ _)
    (obsC (fun u hu => rangeKeep (range_new HOa.out) hu) obsN) ⟨rfl, trivial⟩ ?_
  conv => whnf
  intro f1
  conv => whnf
  refine And.intro (rfl) ?_
  conv => whnf
  intro w2 h2
  have HB2 := Lib.hid (ext_trans HB.out h2)
  go_wp2_with fail
  go_ret
  exact ⟨rfl, HB2.out⟩
theorem boxQ (w : World) (q : Pnt) (x : Spo) : ∃ W, Hid (ObjAt W w.heap.size (ptA q) 37) ∧ Hid (ObjAt W (w.heap.size + 1) (soA x) 55) ∧ Hid (ObjAt W (w.heap.size + 1 + 1) (ptA default) 37) ∧ Hid (Below w.heap.size w W) ∧ Hid ((((w.alloc (.cells #[.int .i64 q.x, .int .i64 q.y] 37)).alloc (.cells (soA x) 55)).alloc (.cells #[.int .i64 0, .int .i64 0] 37)) = W) ∧ Hid (W.heap.size = w.heap.size + 1 + 1 + 1) :=
  ⟨_, (((ObjAt.new w (ptA q) 37).alloc _).alloc _), (by have h := (ObjAt.new (w.alloc (.cells #[.int .i64 q.x, .int .i64 q.y] 37)) (soA x) 55).alloc (.cells #[.int .i64 0, .int .i64 0] 37); rw [size_alloc] at h; exact h), (by have h := ObjAt.new ((w.alloc (.cells #[.int .i64 q.x, .int .i64 q.y] 37)).alloc (.cells (soA x) 55)) (ptA default) 37; rw [size_alloc, size_alloc] at h; exact h),
    ((((Below.refl _ _).alloc (by omega) _).alloc (by simp) _).alloc (by simp; omega) _), rfl, by show _ = _; simp⟩
set_option maxRecDepth 100000 in
set_option maxHeartbeats 4000000 in
theorem rPoint_any (q : Pnt) (x : Spo) (w : World) (hq : Nr q) (hx : RightS x) : Calls Tryz.prog 97 #[ptV q, .agg (soA x)] w (Ret w (ptV (mvP x q))) := by
  obtain ⟨W1, HP, HX, HZ, HB, HW, HSZ⟩ := boxQ w q x
  have HR := Lib.hid hx
  have hm : x.turn ≤ 3 := hx.t3
  have HQ := Lib.hid (flpB_nr hq x.flip)
  have hn1 : IntKind.i64.wrap (-q.x) = -q.x := IntWalk.i64_in _ (by have := hq.a; have := hq.b; omega)
  clear hx hq
  unfold ptV
  obtain ⟨xp, xx, xy, xt, xf⟩ := x
  dsimp only at hm
  go_enter Tryz.func97, Tryz.ntmps97
  go_upto_region 1 with fail
  rw [HW.out]
  have c3 := HX.out.cell 3
  have c4 := HX.out.cell 4
  have p0 := HP.out.cell 0
  have f0 := HP.out.frozen 0
  simp only [soA, ptA] at c3 c4 p0
  dsimp at c3 c4 p0
  cases xf
  · have HB2 := HB
    have HP2 : Hid (ObjAt W1 w.heap.size (ptA (rotN 0 (flpB false q))) 37) := HP
    have HX2 := HX
    have HZ2 := HZ
    clear c3 p0 f0 HW HP HX HZ HB hn1
    go_wp2_with fail
    clear c4
    go_loopw [5] (fun i wr => ∃ k : Nat, k ≤ xt.toNat ∧ i = .int .i64 k ∧ Hid (Below w.heap.size w wr) ∧ Hid (ObjAt wr w.heap.size (ptA (rotN k (flpB false q))) 37) ∧ Hid (ObjAt wr (w.heap.size + 1) (soA ⟨xp, xx, xy, xt, false⟩) 55) ∧ Hid (ObjAt wr (w.heap.size + 1 + 1) (ptA default) 37)) (fun i _ => xt.toNat - (intOf i).toNat)
    case atStart => exact ⟨0, Nat.zero_le _, rfl, HB2, HP2, HX2, HZ2⟩
    case round =>
      obtain ⟨k, hk, rfl, hb, hp, hx, hz⟩ := hrel
      have c3 := hx.out.cell 3
      simp only [soA] at c3
      dsimp at c3
      by_cases hlt : k < xt.toNat
      · have i1 : (k : Int) < xt := by omega
        have p0 := hp.out.cell 0
        have p1 := hp.out.cell 1
        simp only [ptA] at p0 p1
        dsimp at p0 p1
        have hw := rotN_nr HQ.out k
        have hn : IntKind.i64.wrap (-(rotN k (flpB false q)).y) = -(rotN k (flpB false q)).y := IntWalk.i64_in _ (by have := hw.c; have := hw.d; omega)
        clear hw
        go_wp2_with (refine wpList_store_row (o := ⟨none, .store _ _ _, _, _, _, _⟩) rfl 37 (.tmp 2) (.tmp 23) rfl w.heap.size (ptA (rotN (k + 1) (flpB false q))) rfl rfl 37 _ hp.out info_Point rfl (pt_one _) ?_)
        go_roundw
        case rel => exact ⟨k + 1, by omega, by go_num, below_setRow hb.out (Nat.le_refl _) _, setRow_heap _ _ _ _ _ _ hp.out, hx.out.row (by omega) _, hz.out.row (by omega) _⟩
        case measure => simp [intOf]; omega
      · have i1 : ¬ (k : Int) < xt := by omega
        have e : k = xt.toNat := by omega
        have p0 := hp.out.cell 0
        have p1 := hp.out.cell 1
        have c1 := hx.out.cell 1
        have c2 := hx.out.cell 2
        simp only [ptA, soA] at p0 p1 c1 c2
        dsimp at p0 p1 c1 c2
        have hw := rotN_nr HQ.out k
        have hnx : IntKind.i64.wrap ((rotN k (flpB false q)).x + xx) = (rotN k (flpB false q)).x + xx := IntWalk.i64_in _ (by have := hw.a; have := hw.b; have := HR.out.x0; have := HR.out.x1; dsimp at *; omega)
        have hny : IntKind.i64.wrap ((rotN k (flpB false q)).y + xy) = (rotN k (flpB false q)).y + xy := IntWalk.i64_in _ (by have := hw.c; have := hw.d; have := HR.out.y0; have := HR.out.y1; dsimp at *; omega)
        have HV : Hid (ptA (mvP ⟨xp, xx, xy, xt, false⟩ q) = #[.int .i64 ((rotN k (flpB false q)).x + xx), .int .i64 ((rotN k (flpB false q)).y + xy)]) := by show _ = _; rw [e]; rfl
        clear hw e
        go_wp2_with (refine wpList_store_row (o := ⟨none, .store _ _ _, _, _, _, _⟩) rfl 37 (.tmp 4) (.tmp 36) rfl (w.heap.size + 1 + 1) #[.int .i64 ((rotN k (flpB false q)).x + xx), .int .i64 ((rotN k (flpB false q)).y + xy)] rfl rfl 37 _ hz.out info_Point rfl (pt_one ⟨(rotN k (flpB false q)).x + xx, (rotN k (flpB false q)).y + xy⟩) ?_)
        rw [← HV.out]
        have HL := Lib.hid (load_Point (setRow_heap _ _ _ (ptA (mvP ⟨xp, xx, xy, xt, false⟩ q)) _ _ hz.out))
        have HBR := Lib.hid (below_setRow hb.out (show w.heap.size ≤ w.heap.size + 1 + 1 by omega) (ptA (mvP ⟨xp, xx, xy, xt, false⟩ q)))
        generalize mvP ⟨xp, xx, xy, xt, false⟩ q = r at *
        refine bodyPost_ret (results_cell Tryz.results97 rfl HL.out) rfl ?_
        exact ⟨rfl, HBR.out⟩
  · have HP2 : Hid (ObjAt (W1.setCell ⟨w.heap.size, 0, none⟩ (.int .i64 (-q.x))) w.heap.size (ptA (rotN 0 (flpB true q))) 37) := by
      have h := HP.out.set 0 (.int .i64 (-q.x))
      exact h
    have HX2 := Lib.hid (HX.out.other (b' := w.heap.size) (by omega) 0 (.int .i64 (-q.x)))
    have HZ2 := Lib.hid (HZ.out.other (b' := w.heap.size) (by omega) 0 (.int .i64 (-q.x)))
    have HB2 := Lib.hid (HB.out.setCell (p := ⟨w.heap.size, 0, none⟩) (Nat.le_refl _) (.int .i64 (-q.x)))
    clear c3 HW HP HX HZ HB
    go_wp2_with fail
    generalize W1.setCell ⟨w.heap.size, 0, none⟩ (.int .i64 (-q.x)) = W2 at *
    clear c4 p0 f0 hn1
    go_loopw [5] (fun i wr => ∃ k : Nat, k ≤ xt.toNat ∧ i = .int .i64 k ∧ Hid (Below w.heap.size w wr) ∧ Hid (ObjAt wr w.heap.size (ptA (rotN k (flpB true q))) 37) ∧ Hid (ObjAt wr (w.heap.size + 1) (soA ⟨xp, xx, xy, xt, true⟩) 55) ∧ Hid (ObjAt wr (w.heap.size + 1 + 1) (ptA default) 37)) (fun i _ => xt.toNat - (intOf i).toNat)
    case atStart => exact ⟨0, Nat.zero_le _, rfl, HB2, HP2, HX2, HZ2⟩
    case round =>
      obtain ⟨k, hk, rfl, hb, hp, hx, hz⟩ := hrel
      have c3 := hx.out.cell 3
      simp only [soA] at c3
      dsimp at c3
      by_cases hlt : k < xt.toNat
      · have i1 : (k : Int) < xt := by omega
        have p0 := hp.out.cell 0
        have p1 := hp.out.cell 1
        simp only [ptA] at p0 p1
        dsimp at p0 p1
        have hw := rotN_nr HQ.out k
        have hn : IntKind.i64.wrap (-(rotN k (flpB true q)).y) = -(rotN k (flpB true q)).y := IntWalk.i64_in _ (by have := hw.c; have := hw.d; omega)
        clear hw
        go_wp2_with (refine wpList_store_row (o := ⟨none, .store _ _ _, _, _, _, _⟩) rfl 37 (.tmp 2) (.tmp 23) rfl w.heap.size (ptA (rotN (k + 1) (flpB true q))) rfl rfl 37 _ hp.out info_Point rfl (pt_one _) ?_)
        go_roundw
        case rel => exact ⟨k + 1, by omega, by go_num, below_setRow hb.out (Nat.le_refl _) _, setRow_heap _ _ _ _ _ _ hp.out, hx.out.row (by omega) _, hz.out.row (by omega) _⟩
        case measure => simp [intOf]; omega
      · have i1 : ¬ (k : Int) < xt := by omega
        have e : k = xt.toNat := by omega
        have p0 := hp.out.cell 0
        have p1 := hp.out.cell 1
        have c1 := hx.out.cell 1
        have c2 := hx.out.cell 2
        simp only [ptA, soA] at p0 p1 c1 c2
        dsimp at p0 p1 c1 c2
        have hw := rotN_nr HQ.out k
        have hnx : IntKind.i64.wrap ((rotN k (flpB true q)).x + xx) = (rotN k (flpB true q)).x + xx := IntWalk.i64_in _ (by have := hw.a; have := hw.b; have := HR.out.x0; have := HR.out.x1; dsimp at *; omega)
        have hny : IntKind.i64.wrap ((rotN k (flpB true q)).y + xy) = (rotN k (flpB true q)).y + xy := IntWalk.i64_in _ (by have := hw.c; have := hw.d; have := HR.out.y0; have := HR.out.y1; dsimp at *; omega)
        have HV : Hid (ptA (mvP ⟨xp, xx, xy, xt, true⟩ q) = #[.int .i64 ((rotN k (flpB true q)).x + xx), .int .i64 ((rotN k (flpB true q)).y + xy)]) := by show _ = _; rw [e]; rfl
        clear hw e
        go_wp2_with (refine wpList_store_row (o := ⟨none, .store _ _ _, _, _, _, _⟩) rfl 37 (.tmp 4) (.tmp 36) rfl (w.heap.size + 1 + 1) #[.int .i64 ((rotN k (flpB true q)).x + xx), .int .i64 ((rotN k (flpB true q)).y + xy)] rfl rfl 37 _ hz.out info_Point rfl (pt_one ⟨(rotN k (flpB true q)).x + xx, (rotN k (flpB true q)).y + xy⟩) ?_)
        rw [← HV.out]
        have HL := Lib.hid (load_Point (setRow_heap _ _ _ (ptA (mvP ⟨xp, xx, xy, xt, true⟩ q)) _ _ hz.out))
        have HBR := Lib.hid (below_setRow hb.out (show w.heap.size ≤ w.heap.size + 1 + 1 by omega) (ptA (mvP ⟨xp, xx, xy, xt, true⟩ q)))
        generalize mvP ⟨xp, xx, xy, xt, true⟩ q = r at *
        refine bodyPost_ret (results_cell Tryz.results97 rfl HL.out) rfl ?_
        exact ⟨rfl, HBR.out⟩
end Go.Proofs.YtfmhickjefogdaaGreat

/- The builtin append onto points, spans, rectangles, shapes that a call owns (printed by wip/gen_rmapp.py). -/
namespace Go.Proofs.YtfmhickjefogdaaGreat
open Go.RowKit
/-! Pnt -/
theorem Tryz_infoPoint : (Tryz.prog.info? 37).map (fun i => (i.zero, i.size, i.bytes)) = some (some (.agg #[.int .i64 0, .int .i64 0]), 2, 16) := by kernel_rfl
theorem PtAt.nth {w : World} {b off : Nat} {x : Pnt} (h : PtAt w b off x) (j : Nat) (u : Value) (hj : (ptCells x)[j]? = some u) : w.cell? ⟨b, off + j, none⟩ = some u := by
  obtain ⟨y0, y1⟩ := h
  match j, hj with
  | 0, hj => simp [ptCells] at hj; subst hj; exact y0
  | 1, hj => simp [ptCells] at hj; subst hj; exact y1
theorem SPt.flat {w : World} {ad : Addr} {n cap : Nat} {l : List Pnt} (h : SPt w (.slice (some ad) n cap) l) : n = l.length ∧ ∀ (j : Nat) u, (l.flatMap ptCells)[j]? = some u → w.cell? (ad.add j) = some u := by
  obtain ⟨a, cap', e, h1, h2, h3⟩ := h
  simp at e
  obtain ⟨rfl, rfl, rfl⟩ := e
  refine ⟨rfl, fun j u hj => ?_⟩
  have hjl := (List.getElem?_eq_some_iff.1 hj).1
  rw [flat_len ptCells ptCells_len] at hjl
  have hi : j / 2 < l.length := by omega
  obtain ⟨b, off, ha, hc⟩ := h3 (j / 2) hi
  have ha := Option.some.inj ha
  subst ha
  have e := flat_get ptCells ptCells_len l (j / 2) (j % 2) hi (by omega)
  rw [show j / 2 * 2 + j % 2 = j by omega, hj, ← pti_lt hi] at e
  have := hc.nth (j % 2) u e.symm
  rw [show (⟨b, off, none⟩ : Addr).add j = ⟨b, off + j, none⟩ by unfold Addr.add; split <;> simp_all]
  rwa [show off + j / 2 * 2 + j % 2 = off + j by omega] at this
theorem OwnPt_empty (w : World) (B : Nat) (h : B ≤ w.heap.size) : OwnPt (w.alloc (.cells #[] 37)) B (.slice (some ⟨w.heap.size, 0, none⟩) 0 0) [] :=
  World.ownsRow_lit w #[] 0 h (Nat.zero_le _) rfl
theorem ptOne (x : Pnt) : ∀ v ∈ ptCells x, v.oneCell' = true := by
  intro v hv
  simp only [ptCells, List.mem_cons, List.not_mem_nil, or_false] at hv
  rcases hv with rfl | rfl <;> rfl
theorem wp_app_Pt {o : Oper} {a : Act} {K : Act → World → Prop} {Q : Exit → Act → World → Prop} {w : World} (s x : Operand)
    (ho : o.op = .call { callee := .builtin .append, args := #[s, x], argTypes := #[44, 44] }) (B : Nat) (v : Value) (l m : List Pnt) (hs : a.eval s = v) (hown : OwnPt w B v l)
    (ad : Addr) (n c : Nat) (hx : a.eval x = .slice (some ad) n c) (hy : SPt w (.slice (some ad) n c) m) (hlen : l.length + m.length ≤ 1000000) (hb : B ≤ w.heap.size)
    (h : ∀ v' w', OwnPt w' B v' (l ++ m) → w.grownBy w' v.ownBlock → (v'.ownBlock = v.ownBlock ∨ v'.ownBlock = some w.heap.size) → K (a.put o.dst v') w') : o.wp Tryz.prog a w K Q := by
  obtain ⟨i, hi, hz0, hz1, hz2⟩ := info_parts Tryz_infoPoint
  obtain ⟨rfl, hf⟩ := hy.flat
  refine wp_app_gen s x 44 37 ho i (.agg #[.int .i64 0, .int .i64 0]) 2 16 Tryz.underlying44 hi hz0 hz1 hz2 rfl (by decide) B v l.length (l.flatMap ptCells) hs hown ad m.length c hx (m.flatMap ptCells) (flat_len ptCells ptCells_len m) hf (fun u hu => ?_) (by unfold maxLen; omega) (by omega) hb fun v' w' h1 h2 h3 => h v' w' ?_ h2 h3
  · obtain ⟨z, _, hz⟩ := List.mem_flatMap.1 hu
    exact ptOne z u hz
  · unfold OwnPt
    rw [List.length_append, List.flatMap_append]
    exact h1
theorem wpList_app_Pt {ops : Array Oper} {rest : List Oper} {o : Oper} {a : Act} {Q : Exit → Act → World → Prop} {w : World} (hw : Region.wanted o (yielded ops a.tmps) = true) (s x : Operand)
    (ho : o.op = .call { callee := .builtin .append, args := #[s, x], argTypes := #[44, 44] }) (B : Nat) (v : Value) (l m : List Pnt) (hs : a.eval s = v) (hown : OwnPt w B v l)
    (ad : Addr) (n c : Nat) (hx : a.eval x = .slice (some ad) n c) (hy : SPt w (.slice (some ad) n c) m) (hlen : l.length + m.length ≤ 1000000) (hb : B ≤ w.heap.size)
    (h : ∀ v' w', OwnPt w' B v' (l ++ m) → w.grownBy w' v.ownBlock → (v'.ownBlock = v.ownBlock ∨ v'.ownBlock = some w.heap.size) → wpList Tryz.prog ops Q rest (a.put o.dst v') w') : wpList Tryz.prog ops Q (o :: rest) a w :=
  wpList_step fun K hK => by
    rw [if_pos hw]
    exact wp_app_Pt s x ho B v l m hs hown ad n c hx hy hlen hb fun v' w' a1 a2 a3 => hK _ _ (h v' w' a1 a2 a3)
theorem sPt_one {w : World} {g : Nat} {x : Pnt} (h : PtAt w g 0 x) : SPt w (.slice (some ⟨g, 0, none⟩) 1 1) [x] := by
  refine ⟨_, _, rfl, Nat.le_refl _, by unfold maxLen; omega, fun i hi => ⟨g, 0, rfl, ?_⟩⟩
  obtain rfl : i = 0 := by simp at hi; omega
  exact h
theorem build_one_Pt (x : Pnt) (w : World) : (Instr.buildSlice 44 1 #[(0, .agg (ptA x))]).run Tryz.prog w = .ok (.slice (some ⟨w.heap.size, 0, none⟩) 1 1) (w.alloc (.cells (ptA x) 37)) := by
  unfold ptA; go_simp
theorem one_Pt {w : World} {g : Nat} {x : Pnt} (h : PtAt w g 0 x) : SPt w (.slice (some ⟨g, 0, none⟩) 1 1) [x] := by
  refine ⟨some ⟨g, 0, none⟩, 1, rfl, Nat.le_refl _, by unfold maxLen; omega, fun i hi => ⟨g, 0, rfl, ?_⟩⟩
  have e : i = 0 := by simp at hi; exact hi
  subst e
  exact h
/-! Spn -/
theorem Tryz_infoSpan : (Tryz.prog.info? 113).map (fun i => (i.zero, i.size, i.bytes)) = some (some (.agg #[.int .i64 0, .int .i64 0]), 2, 16) := by kernel_rfl
theorem SnAt.nth {w : World} {b off : Nat} {x : Spn} (h : SnAt w b off x) (j : Nat) (u : Value) (hj : (snCells x)[j]? = some u) : w.cell? ⟨b, off + j, none⟩ = some u := by
  obtain ⟨y0, y1⟩ := h
  match j, hj with
  | 0, hj => simp [snCells] at hj; subst hj; exact y0
  | 1, hj => simp [snCells] at hj; subst hj; exact y1
theorem SSn.flat {w : World} {ad : Addr} {n cap : Nat} {l : List Spn} (h : SSn w (.slice (some ad) n cap) l) : n = l.length ∧ ∀ (j : Nat) u, (l.flatMap snCells)[j]? = some u → w.cell? (ad.add j) = some u := by
  obtain ⟨a, cap', e, h1, h2, h3⟩ := h
  simp at e
  obtain ⟨rfl, rfl, rfl⟩ := e
  refine ⟨rfl, fun j u hj => ?_⟩
  have hjl := (List.getElem?_eq_some_iff.1 hj).1
  rw [flat_len snCells snCells_len] at hjl
  have hi : j / 2 < l.length := by omega
  obtain ⟨b, off, ha, hc⟩ := h3 (j / 2) hi
  have ha := Option.some.inj ha
  subst ha
  have e := flat_get snCells snCells_len l (j / 2) (j % 2) hi (by omega)
  rw [show j / 2 * 2 + j % 2 = j by omega, hj, ← sni_lt hi] at e
  have := hc.nth (j % 2) u e.symm
  rw [show (⟨b, off, none⟩ : Addr).add j = ⟨b, off + j, none⟩ by unfold Addr.add; split <;> simp_all]
  rwa [show off + j / 2 * 2 + j % 2 = off + j by omega] at this
theorem OwnSn_empty (w : World) (B : Nat) (h : B ≤ w.heap.size) : OwnSn (w.alloc (.cells #[] 113)) B (.slice (some ⟨w.heap.size, 0, none⟩) 0 0) [] :=
  World.ownsRow_lit w #[] 0 h (Nat.zero_le _) rfl
theorem snOne (x : Spn) : ∀ v ∈ snCells x, v.oneCell' = true := by
  intro v hv
  simp only [snCells, List.mem_cons, List.not_mem_nil, or_false] at hv
  rcases hv with rfl | rfl <;> rfl
theorem wp_app_Sn {o : Oper} {a : Act} {K : Act → World → Prop} {Q : Exit → Act → World → Prop} {w : World} (s x : Operand)
    (ho : o.op = .call { callee := .builtin .append, args := #[s, x], argTypes := #[114, 114] }) (B : Nat) (v : Value) (l m : List Spn) (hs : a.eval s = v) (hown : OwnSn w B v l)
    (ad : Addr) (n c : Nat) (hx : a.eval x = .slice (some ad) n c) (hy : SSn w (.slice (some ad) n c) m) (hlen : l.length + m.length ≤ 1000000) (hb : B ≤ w.heap.size)
    (h : ∀ v' w', OwnSn w' B v' (l ++ m) → w.grownBy w' v.ownBlock → (v'.ownBlock = v.ownBlock ∨ v'.ownBlock = some w.heap.size) → K (a.put o.dst v') w') : o.wp Tryz.prog a w K Q := by
  obtain ⟨i, hi, hz0, hz1, hz2⟩ := info_parts Tryz_infoSpan
  obtain ⟨rfl, hf⟩ := hy.flat
  refine wp_app_gen s x 114 113 ho i (.agg #[.int .i64 0, .int .i64 0]) 2 16 Tryz.underlying114 hi hz0 hz1 hz2 rfl (by decide) B v l.length (l.flatMap snCells) hs hown ad m.length c hx (m.flatMap snCells) (flat_len snCells snCells_len m) hf (fun u hu => ?_) (by unfold maxLen; omega) (by omega) hb fun v' w' h1 h2 h3 => h v' w' ?_ h2 h3
  · obtain ⟨z, _, hz⟩ := List.mem_flatMap.1 hu
    exact snOne z u hz
  · unfold OwnSn
    rw [List.length_append, List.flatMap_append]
    exact h1
theorem wpList_app_Sn {ops : Array Oper} {rest : List Oper} {o : Oper} {a : Act} {Q : Exit → Act → World → Prop} {w : World} (hw : Region.wanted o (yielded ops a.tmps) = true) (s x : Operand)
    (ho : o.op = .call { callee := .builtin .append, args := #[s, x], argTypes := #[114, 114] }) (B : Nat) (v : Value) (l m : List Spn) (hs : a.eval s = v) (hown : OwnSn w B v l)
    (ad : Addr) (n c : Nat) (hx : a.eval x = .slice (some ad) n c) (hy : SSn w (.slice (some ad) n c) m) (hlen : l.length + m.length ≤ 1000000) (hb : B ≤ w.heap.size)
    (h : ∀ v' w', OwnSn w' B v' (l ++ m) → w.grownBy w' v.ownBlock → (v'.ownBlock = v.ownBlock ∨ v'.ownBlock = some w.heap.size) → wpList Tryz.prog ops Q rest (a.put o.dst v') w') : wpList Tryz.prog ops Q (o :: rest) a w :=
  wpList_step fun K hK => by
    rw [if_pos hw]
    exact wp_app_Sn s x ho B v l m hs hown ad n c hx hy hlen hb fun v' w' a1 a2 a3 => hK _ _ (h v' w' a1 a2 a3)
theorem sSn_one {w : World} {g : Nat} {x : Spn} (h : SnAt w g 0 x) : SSn w (.slice (some ⟨g, 0, none⟩) 1 1) [x] := by
  refine ⟨_, _, rfl, Nat.le_refl _, by unfold maxLen; omega, fun i hi => ⟨g, 0, rfl, ?_⟩⟩
  obtain rfl : i = 0 := by simp at hi; omega
  exact h
theorem build_one_Sn (x : Spn) (w : World) : (Instr.buildSlice 114 1 #[(0, .agg (snA x))]).run Tryz.prog w = .ok (.slice (some ⟨w.heap.size, 0, none⟩) 1 1) (w.alloc (.cells (snA x) 113)) := by
  unfold snA; go_simp
theorem one_Sn {w : World} {g : Nat} {x : Spn} (h : SnAt w g 0 x) : SSn w (.slice (some ⟨g, 0, none⟩) 1 1) [x] := by
  refine ⟨some ⟨g, 0, none⟩, 1, rfl, Nat.le_refl _, by unfold maxLen; omega, fun i hi => ⟨g, 0, rfl, ?_⟩⟩
  have e : i = 0 := by simp at hi; exact hi
  subst e
  exact h
/-! Rct -/
theorem Tryz_infoRect : (Tryz.prog.info? 39).map (fun i => (i.zero, i.size, i.bytes)) = some (some (.agg #[.int .i64 0, .int .i64 0, .int .i64 0, .int .i64 0]), 4, 32) := by kernel_rfl
theorem RcAt.nth {w : World} {b off : Nat} {x : Rct} (h : RcAt w b off x) (j : Nat) (u : Value) (hj : (rcCells x)[j]? = some u) : w.cell? ⟨b, off + j, none⟩ = some u := by
  obtain ⟨y0, y1, y2, y3⟩ := h
  match j, hj with
  | 0, hj => simp [rcCells] at hj; subst hj; exact y0
  | 1, hj => simp [rcCells] at hj; subst hj; exact y1
  | 2, hj => simp [rcCells] at hj; subst hj; exact y2
  | 3, hj => simp [rcCells] at hj; subst hj; exact y3
theorem SRc.flat {w : World} {ad : Addr} {n cap : Nat} {l : List Rct} (h : SRc w (.slice (some ad) n cap) l) : n = l.length ∧ ∀ (j : Nat) u, (l.flatMap rcCells)[j]? = some u → w.cell? (ad.add j) = some u := by
  obtain ⟨a, cap', e, h1, h2, h3⟩ := h
  simp at e
  obtain ⟨rfl, rfl, rfl⟩ := e
  refine ⟨rfl, fun j u hj => ?_⟩
  have hjl := (List.getElem?_eq_some_iff.1 hj).1
  rw [flat_len rcCells rcCells_len] at hjl
  have hi : j / 4 < l.length := by omega
  obtain ⟨b, off, ha, hc⟩ := h3 (j / 4) hi
  have ha := Option.some.inj ha
  subst ha
  have e := flat_get rcCells rcCells_len l (j / 4) (j % 4) hi (by omega)
  rw [show j / 4 * 4 + j % 4 = j by omega, hj, ← rci_lt hi] at e
  have := hc.nth (j % 4) u e.symm
  rw [show (⟨b, off, none⟩ : Addr).add j = ⟨b, off + j, none⟩ by unfold Addr.add; split <;> simp_all]
  rwa [show off + j / 4 * 4 + j % 4 = off + j by omega] at this
theorem OwnRc_empty (w : World) (B : Nat) (h : B ≤ w.heap.size) : OwnRc (w.alloc (.cells #[] 39)) B (.slice (some ⟨w.heap.size, 0, none⟩) 0 0) [] :=
  World.ownsRow_lit w #[] 0 h (Nat.zero_le _) rfl
theorem rcOne (x : Rct) : ∀ v ∈ rcCells x, v.oneCell' = true := by
  intro v hv
  simp only [rcCells, List.mem_cons, List.not_mem_nil, or_false] at hv
  rcases hv with rfl | rfl | rfl | rfl <;> rfl
theorem wp_app_Rc {o : Oper} {a : Act} {K : Act → World → Prop} {Q : Exit → Act → World → Prop} {w : World} (s x : Operand)
    (ho : o.op = .call { callee := .builtin .append, args := #[s, x], argTypes := #[33, 33] }) (B : Nat) (v : Value) (l m : List Rct) (hs : a.eval s = v) (hown : OwnRc w B v l)
    (ad : Addr) (n c : Nat) (hx : a.eval x = .slice (some ad) n c) (hy : SRc w (.slice (some ad) n c) m) (hlen : l.length + m.length ≤ 1000000) (hb : B ≤ w.heap.size)
    (h : ∀ v' w', OwnRc w' B v' (l ++ m) → w.grownBy w' v.ownBlock → (v'.ownBlock = v.ownBlock ∨ v'.ownBlock = some w.heap.size) → K (a.put o.dst v') w') : o.wp Tryz.prog a w K Q := by
  obtain ⟨i, hi, hz0, hz1, hz2⟩ := info_parts Tryz_infoRect
  obtain ⟨rfl, hf⟩ := hy.flat
  refine wp_app_gen s x 33 39 ho i (.agg #[.int .i64 0, .int .i64 0, .int .i64 0, .int .i64 0]) 4 32 Tryz.underlying33 hi hz0 hz1 hz2 rfl (by decide) B v l.length (l.flatMap rcCells) hs hown ad m.length c hx (m.flatMap rcCells) (flat_len rcCells rcCells_len m) hf (fun u hu => ?_) (by unfold maxLen; omega) (by omega) hb fun v' w' h1 h2 h3 => h v' w' ?_ h2 h3
  · obtain ⟨z, _, hz⟩ := List.mem_flatMap.1 hu
    exact rcOne z u hz
  · unfold OwnRc
    rw [List.length_append, List.flatMap_append]
    exact h1
theorem wpList_app_Rc {ops : Array Oper} {rest : List Oper} {o : Oper} {a : Act} {Q : Exit → Act → World → Prop} {w : World} (hw : Region.wanted o (yielded ops a.tmps) = true) (s x : Operand)
    (ho : o.op = .call { callee := .builtin .append, args := #[s, x], argTypes := #[33, 33] }) (B : Nat) (v : Value) (l m : List Rct) (hs : a.eval s = v) (hown : OwnRc w B v l)
    (ad : Addr) (n c : Nat) (hx : a.eval x = .slice (some ad) n c) (hy : SRc w (.slice (some ad) n c) m) (hlen : l.length + m.length ≤ 1000000) (hb : B ≤ w.heap.size)
    (h : ∀ v' w', OwnRc w' B v' (l ++ m) → w.grownBy w' v.ownBlock → (v'.ownBlock = v.ownBlock ∨ v'.ownBlock = some w.heap.size) → wpList Tryz.prog ops Q rest (a.put o.dst v') w') : wpList Tryz.prog ops Q (o :: rest) a w :=
  wpList_step fun K hK => by
    rw [if_pos hw]
    exact wp_app_Rc s x ho B v l m hs hown ad n c hx hy hlen hb fun v' w' a1 a2 a3 => hK _ _ (h v' w' a1 a2 a3)
theorem sRc_one {w : World} {g : Nat} {x : Rct} (h : RcAt w g 0 x) : SRc w (.slice (some ⟨g, 0, none⟩) 1 1) [x] := by
  refine ⟨_, _, rfl, Nat.le_refl _, by unfold maxLen; omega, fun i hi => ⟨g, 0, rfl, ?_⟩⟩
  obtain rfl : i = 0 := by simp at hi; omega
  exact h
theorem build_one_Rc (x : Rct) (w : World) : (Instr.buildSlice 33 1 #[(0, .agg (rcA x))]).run Tryz.prog w = .ok (.slice (some ⟨w.heap.size, 0, none⟩) 1 1) (w.alloc (.cells (rcA x) 39)) := by
  unfold rcA; go_simp
theorem one_Rc {w : World} {g : Nat} {x : Rct} (h : RcAt w g 0 x) : SRc w (.slice (some ⟨g, 0, none⟩) 1 1) [x] := by
  refine ⟨some ⟨g, 0, none⟩, 1, rfl, Nat.le_refl _, by unfold maxLen; omega, fun i hi => ⟨g, 0, rfl, ?_⟩⟩
  have e : i = 0 := by simp at hi; exact hi
  subst e
  exact h
/-! Shv -/
theorem Tryz_infoShape : (Tryz.prog.info? 47).map (fun i => (i.zero, i.size, i.bytes)) = some (some (.agg #[.slice none 0 0, .slice none 0 0]), 2, 48) := by kernel_rfl
theorem ShAt.nth {w : World} {b off : Nat} {x : Shv} (h : ShAt w b off x) (j : Nat) (u : Value) (hj : (shCells x)[j]? = some u) : w.cell? ⟨b, off + j, none⟩ = some u := by
  obtain ⟨y0, y1⟩ := h
  match j, hj with
  | 0, hj => simp [shCells] at hj; subst hj; exact y0
  | 1, hj => simp [shCells] at hj; subst hj; exact y1
theorem SSh.flat {w : World} {ad : Addr} {n cap : Nat} {l : List Shv} (h : SSh w (.slice (some ad) n cap) l) : n = l.length ∧ ∀ (j : Nat) u, (l.flatMap shCells)[j]? = some u → w.cell? (ad.add j) = some u := by
  obtain ⟨a, cap', e, h1, h2, h3⟩ := h
  simp at e
  obtain ⟨rfl, rfl, rfl⟩ := e
  refine ⟨rfl, fun j u hj => ?_⟩
  have hjl := (List.getElem?_eq_some_iff.1 hj).1
  rw [flat_len shCells shCells_len] at hjl
  have hi : j / 2 < l.length := by omega
  obtain ⟨b, off, ha, hc⟩ := h3 (j / 2) hi
  have ha := Option.some.inj ha
  subst ha
  have e := flat_get shCells shCells_len l (j / 2) (j % 2) hi (by omega)
  rw [show j / 2 * 2 + j % 2 = j by omega, hj, ← shi_lt hi] at e
  have := hc.nth (j % 2) u e.symm
  rw [show (⟨b, off, none⟩ : Addr).add j = ⟨b, off + j, none⟩ by unfold Addr.add; split <;> simp_all]
  rwa [show off + j / 2 * 2 + j % 2 = off + j by omega] at this
theorem OwnSh_empty (w : World) (B : Nat) (h : B ≤ w.heap.size) : OwnSh (w.alloc (.cells #[] 47)) B (.slice (some ⟨w.heap.size, 0, none⟩) 0 0) [] :=
  World.ownsRow_lit w #[] 0 h (Nat.zero_le _) rfl
theorem shOne (x : Shv) : ∀ v ∈ shCells x, v.oneCell' = true := by
  intro v hv
  simp only [shCells, List.mem_cons, List.not_mem_nil, or_false] at hv
  rcases hv with rfl | rfl <;> rfl
theorem wp_app_Sh {o : Oper} {a : Act} {K : Act → World → Prop} {Q : Exit → Act → World → Prop} {w : World} (s x : Operand)
    (ho : o.op = .call { callee := .builtin .append, args := #[s, x], argTypes := #[30, 30] }) (B : Nat) (v : Value) (l m : List Shv) (hs : a.eval s = v) (hown : OwnSh w B v l)
    (ad : Addr) (n c : Nat) (hx : a.eval x = .slice (some ad) n c) (hy : SSh w (.slice (some ad) n c) m) (hlen : l.length + m.length ≤ 1000000) (hb : B ≤ w.heap.size)
    (h : ∀ v' w', OwnSh w' B v' (l ++ m) → w.grownBy w' v.ownBlock → (v'.ownBlock = v.ownBlock ∨ v'.ownBlock = some w.heap.size) → K (a.put o.dst v') w') : o.wp Tryz.prog a w K Q := by
  obtain ⟨i, hi, hz0, hz1, hz2⟩ := info_parts Tryz_infoShape
  obtain ⟨rfl, hf⟩ := hy.flat
  refine wp_app_gen s x 30 47 ho i (.agg #[.slice none 0 0, .slice none 0 0]) 2 48 Tryz.underlying30 hi hz0 hz1 hz2 rfl (by decide) B v l.length (l.flatMap shCells) hs hown ad m.length c hx (m.flatMap shCells) (flat_len shCells shCells_len m) hf (fun u hu => ?_) (by unfold maxLen; omega) (by omega) hb fun v' w' h1 h2 h3 => h v' w' ?_ h2 h3
  · obtain ⟨z, _, hz⟩ := List.mem_flatMap.1 hu
    exact shOne z u hz
  · unfold OwnSh
    rw [List.length_append, List.flatMap_append]
    exact h1
theorem wpList_app_Sh {ops : Array Oper} {rest : List Oper} {o : Oper} {a : Act} {Q : Exit → Act → World → Prop} {w : World} (hw : Region.wanted o (yielded ops a.tmps) = true) (s x : Operand)
    (ho : o.op = .call { callee := .builtin .append, args := #[s, x], argTypes := #[30, 30] }) (B : Nat) (v : Value) (l m : List Shv) (hs : a.eval s = v) (hown : OwnSh w B v l)
    (ad : Addr) (n c : Nat) (hx : a.eval x = .slice (some ad) n c) (hy : SSh w (.slice (some ad) n c) m) (hlen : l.length + m.length ≤ 1000000) (hb : B ≤ w.heap.size)
    (h : ∀ v' w', OwnSh w' B v' (l ++ m) → w.grownBy w' v.ownBlock → (v'.ownBlock = v.ownBlock ∨ v'.ownBlock = some w.heap.size) → wpList Tryz.prog ops Q rest (a.put o.dst v') w') : wpList Tryz.prog ops Q (o :: rest) a w :=
  wpList_step fun K hK => by
    rw [if_pos hw]
    exact wp_app_Sh s x ho B v l m hs hown ad n c hx hy hlen hb fun v' w' a1 a2 a3 => hK _ _ (h v' w' a1 a2 a3)
theorem sSh_one {w : World} {g : Nat} {x : Shv} (h : ShAt w g 0 x) : SSh w (.slice (some ⟨g, 0, none⟩) 1 1) [x] := by
  refine ⟨_, _, rfl, Nat.le_refl _, by unfold maxLen; omega, fun i hi => ⟨g, 0, rfl, ?_⟩⟩
  obtain rfl : i = 0 := by simp at hi; omega
  exact h
theorem build_one_Sh (x : Shv) (w : World) : (Instr.buildSlice 30 1 #[(0, .agg (shA x))]).run Tryz.prog w = .ok (.slice (some ⟨w.heap.size, 0, none⟩) 1 1) (w.alloc (.cells (shA x) 47)) := by
  unfold shA; go_simp
theorem one_Sh {w : World} {g : Nat} {x : Shv} (h : ShAt w g 0 x) : SSh w (.slice (some ⟨g, 0, none⟩) 1 1) [x] := by
  refine ⟨some ⟨g, 0, none⟩, 1, rfl, Nat.le_refl _, by unfold maxLen; omega, fun i hi => ⟨g, 0, rfl, ?_⟩⟩
  have e : i = 0 := by simp at hi; exact hi
  subst e
  exact h
end Go.Proofs.YtfmhickjefogdaaGreat

/- A region that draws its order, in which one value is appended to a slice of a variable, and the variable gets the new slice. -/
namespace Go.Proofs.YtfmhickjefogdaaGreat
open Go.RowKit

/-- what one waits for, over some steps -/
def upA (ops : Array Oper) : Nat → List Nat → List Nat
  | 0, l => l
  | n + 1, l => upA ops n (l ++ (l.flatMap fun i => match ops[i]? with | some o => (o.after.toList.filter fun e => Region.binds .any e && !l.contains e.on).map (·.on) | none => []).eraseDups)
theorem upA_spec {ops : Array Oper} {L : Nat → Bool} (hL : ClosedL ops L) : ∀ (n : Nat) (l : List Nat), (∀ i ∈ l, L i = true) → ∀ i ∈ upA ops n l, L i = true
  | 0, _, h => h
  | n + 1, l, h => by
    refine upA_spec hL n _ fun i hi => ?_
    rcases List.mem_append.1 hi with hi | hi
    · exact h i hi
    · rw [List.mem_eraseDups] at hi
      obtain ⟨j, hj, hm⟩ := List.mem_flatMap.1 hi
      split at hm
      · rename_i o ho
        obtain ⟨e, he, rfl⟩ := List.mem_map.1 hm
        obtain ⟨h1, h2⟩ := List.mem_filter.1 he
        rw [Bool.and_eq_true] at h2
        exact hL j o ho (h j hj) e (by simpa using h1) h2.1
      · cases hm
/-- all that are not special are ahead of K -/
def aheadA (sp : List Nat) (ops : List Oper) (K : Nat) : Bool := (List.range ops.length).all fun i => sp.contains i || (upA ops.toArray 8 [K]).contains i
theorem aheadA_spec {sp : List Nat} {ops : List Oper} {K : Nat} (h : aheadA sp ops K = true) {i : Nat} (hi : i < ops.length) (hs : sp.contains i = false) {L : Nat → Bool} (hL : ClosedL ops.toArray L) (hl : L i = false) : L K = false := by
  cases hk : L K with
  | false => rfl
  | true =>
    have h1 := List.all_eq_true.1 h i (List.mem_range.2 hi)
    rw [hs, Bool.false_or] at h1
    have h2 := upA_spec hL 8 [K] (fun j hj => by rw [List.mem_singleton.1 hj]; exact hk) i (List.contains_iff_mem.1 h1)
    rw [hl] at h2; cases h2
/-- the slice of one, the append, the assignment -/
structure JLa (B C D n0 : Nat) (te : TypeId) (cs : Array Value) (P0 : World → Prop) (P1 : Value → World → Prop) (s : Nat → Option Value) (u : World) : Prop where
  bc : s B = none → s C = none
  cd : s C = none → s D = none
  b : ∀ v, s B = some v → ∃ g, v = .slice (some ⟨g, 0, none⟩) 1 1 ∧ (s C = none → ObjAt u g cs te)
  c0 : s C = none → P0 u
  n : n0 ≤ u.heap.size
  c : ∀ v, s C = some v → P1 v u
  d : ∀ z, s D = some z → s C = some z
section
variable {a0 : Act} {ps : List (Nat × Nat)} {T : QTab} {E : List Ob} {hs : List (Nat × Hint)}
def evLa (a0 : Act) (E : List Ob) (C0 : World → Prop) (n0 nA nB nC nL nO : Nat) (x : Value) (P1 : Value → World → Prop) (v0 : Value) (outs : List (Nat × Value)) (Q : Act → World → Prop) (ops : List Oper) (S : List Ent) : Prop :=
  (slotAt a0 E ops S nA x ∧ slotAt a0 E ops S nL v0) ∧ ∀ (f : Nat → Value), match a0 with
    | ⟨⟨l⟩, d⟩ => finS E outs f S l fun l' => setsN f [nB, nC, nO] l' fun l'' => ∀ w' v, f nO = v → C0 w' → P1 v w' → n0 ≤ w'.heap.size → Q ⟨l''.toArray, d⟩ w'
theorem wp_region_la {id : Nat} {Q : Exit → Act → World → Prop} {w : World} {ops : List Oper} (T : QTab) (hT : T.Ok) (E : List Ob) (ps : List (Nat × Nat)) (hs : List (Nat × Hint)) (outs : List (Nat × Value))
    (B C D nA nB nC nL nO : Nat) (tS te : TypeId) (x : Value) (cs : Array Value) (v0 : Value) (n0 : Nat) (C0 P0 : World → Prop) (P1 : Value → World → Prop)
    (hz : (ops.all fun o => match o.dst with | some n => decide (n < a0.tmps.size) | none => true) = true) (hm : Tryz.prog.follows .mixedOrders = true)
    (hst : (ordB ops.toArray && nodB (dstsL ops) && chkB ops.toArray (quietL [B, C, D] 0 ops) && depB [B, C, D] ops.toArray) = true)
    (hsp : spD [B, C, D] 0 ops = [nB, nC, nO]) (hne : B ≠ C ∧ B ≠ D ∧ C ≠ D)
    (hB : ∃ o, ops[B]? = some o ∧ o.op = .buildSlice tS 1 #[(0, .tmp nA)] ∧ o.dst = some nB)
    (hC : ∃ o, ops[C]? = some o ∧ o.op = .call { callee := .builtin .append, args := #[.tmp nL, .tmp nB], argTypes := #[tS, tS] } ∧ o.dst = some nC ∧ ∃ e ∈ o.after, e.on = B ∧ Region.binds .any e = true)
    (hD : ∃ o, ops[D]? = some o ∧ o.op = .assign (.tmp nC) ∧ o.dst = some nO ∧ ∃ e ∈ o.after, e.on = C ∧ Region.binds .any e = true)
    (hbuild : ∀ u, (Instr.buildSlice tS 1 #[(0, x)]).run Tryz.prog u = .ok (.slice (some ⟨u.heap.size, 0, none⟩) 1 1) (u.alloc (.cells cs te)))
    (happ : ∀ (o : Oper) (a : Act) (u : World) (g : Nat) (K : Act → World → Prop), o.op = .call { callee := .builtin .append, args := #[.tmp nL, .tmp nB], argTypes := #[tS, tS] } → a.eval (.tmp nL) = v0 → a.eval (.tmp nB) = .slice (some ⟨g, 0, none⟩) 1 1 → ObjAt u g cs te → P0 u → n0 ≤ u.heap.size →
      (∀ v' u', P1 v' u' → u.grownBy u' v0.ownBlock → K (a.put o.dst v') u') → o.wp Tryz.prog a u K Q)
    (hP0 : ∀ u u', P0 u → Below u.heap.size u u' → P0 u') (hP1 : ∀ v u u', P1 v u → Below u.heap.size u u' → P1 v u')
    (h0 : C0 w.drew) (hown : P0 w) (hn0 : n0 ≤ w.heap.size)
    (hCB : ∀ u u', C0 u → Below u.heap.size u u' → C0 u') (hCg : ∀ u u', C0 u → n0 ≤ u.heap.size → P0 u → u.grownBy u' v0.ownBlock → C0 u')
    (hE : ObsIn C0 E) (P : psOk a0 E ps)
    (h : evL a0 ps T E C0 (fun u u' => Below u.heap.size u u') hs ops (evLa a0 E C0 n0 nA nB nC nL nO x P1 v0 outs (Q .normal) ops) (quietL [B, C, D] 0 ops) []) : (Code.region id ops.toArray true).wp Tryz.prog Q a0 w := by
  obtain ⟨oB, hB1, hB2, hB3⟩ := hB
  obtain ⟨oC, hC1, hC2, hC3, eC, hC4, hC5, hC6⟩ := hC
  obtain ⟨oD, hD1, hD2, hD3, eD, hD4, hD5, hD6⟩ := hD
  obtain ⟨nBC, nBD, nCD⟩ := hne
  have hst' := hst
  simp only [Bool.and_eq_true] at hst'
  obtain ⟨⟨⟨s1, s2⟩, s3⟩, s4⟩ := hst'
  have hsub : ∀ o ∈ quietL [B, C, D] 0 ops, o ∈ ops := fun o ho => by obtain ⟨k, hk, _⟩ := mem_quietL ho; exact List.mem_of_getElem? hk
  obtain ⟨S, H, af, I, ⟨⟨g1, g2⟩, h2⟩, f1, f2, f3⟩ := evL_fin P hT hE hz _ [] [] a0 hsub s3 InvQ.start h
  refine mix_coreD [B, C, D] E C0 (fun u u' => Below u.heap.size u u') outs (JLa B C D n0 te cs P0 P1) hz hm hst C0 (fun i hi hs L s u hL hl hn hc hj => hc)
    h0 ⟨fun _ => rfl, fun _ => rfl, fun v hv => (by cases hv), fun _ => hP0 _ _ hown ((Below.refl _ _).drew), hn0, fun v hv => (by cases hv), fun v hv => (by cases hv)⟩ hCB (fun u _ => Below.refl _ _)
    (fun s u u' _ hj hb => ⟨hj.bc, hj.cd, fun v hv => by obtain ⟨g, e, q⟩ := hj.b v hv; exact ⟨g, e, fun hc => (q hc).keep hb⟩, fun hc => hP0 _ _ (hj.c0 hc) hb, Nat.le_trans hj.n hb.size, fun v hv => hP1 _ _ _ (hj.c v hv) hb, hj.d⟩) I ⟨⟨?_, ?_, ?_, trivial⟩, fun f s hsv => ?_⟩ f1 f2 f3
  · intro o a u s ho hCu hJ hn hq' hold hdep K hK
    rw [hB1] at ho; cases ho
    have hx : a.eval (.tmp nA) = x := by
      unfold slotAt at g1
      split at g1
      · rename_i m s' hl'
        rw [← g1]; exact hq' nA (by unfold Oper.looksAt; rw [hB2]; simp [Op.operands]) _ hl' rfl
      · cases g1
      · rw [hold nA (by simpa using g1.1)]; exact g1.2
    have hsC := hJ.bc hn
    have hsD := hJ.cd hsC
    have hb : Below u.heap.size u (u.alloc (.cells cs te)) := (Below.refl _ _).alloc (Nat.le_refl _) _
    refine wp_of_run (v := .slice (some ⟨u.heap.size, 0, none⟩) 1 1) (w' := u.alloc (.cells cs te)) ?_ ?_
    · unfold execOp; simp only [hB2, List.map_toArray, List.map_cons, List.map_nil, hx, Sem.run_bind, hbuild]; rfl
    refine hK _ _ (hCB _ _ hCu hb) ⟨fun h => (by rw [updS_same] at h; cases h), fun _ => ?_, fun v' hv => ?_, fun _ => hP0 _ _ (hJ.c0 hsC) hb, Nat.le_trans hJ.n hb.size, fun v' hv => ?_, fun v' hv => ?_⟩
    · rw [updS_other (Ne.symm nBD)]; exact hsD
    · rw [updS_same] at hv; cases hv
      exact ⟨_, rfl, fun _ => ObjAt.new u cs te⟩
    · rw [updS_other (Ne.symm nBC), hsC] at hv; cases hv
    · rw [updS_other (Ne.symm nBD), hsD] at hv; cases hv
  · intro o a u s ho hCu hJ hn hq' hold hdep K hK
    rw [hC1] at ho; cases ho
    obtain ⟨v, v1, v2⟩ := hdep eC hC4 hC6 (by rw [hC5]; simp)
    rw [hC5] at v1 v2
    obtain ⟨g, e1, e2⟩ := hJ.b v v1
    have hx : a.eval (.tmp nB) = .slice (some ⟨g, 0, none⟩) 1 1 := (v2 oB nB hB1 hB3).trans e1
    have hsD := hJ.cd hn
    have hL : a.eval (.tmp nL) = v0 := by
      unfold slotAt at g2
      split at g2
      · rename_i m s' hl'
        rw [← g2]; exact hq' nL (by unfold Oper.looksAt; rw [hC2]; simp [Op.operands, Call.operands]) _ hl' rfl
      · cases g2
      · rw [hold nL (by simpa using g2.1)]; exact g2.2
    have hown := hJ.c0 hn
    refine happ oC a u g K hC2 hL hx (e2 hn) hown hJ.n fun v' u' a1 a2 => ?_
    refine hK _ _ (hCg _ _ hCu hJ.n hown a2) ⟨fun h => ?_, fun h => (by rw [updS_same] at h; cases h), fun v' hv => ?_, fun h => (by rw [updS_same] at h; cases h), Nat.le_trans hJ.n a2.size, fun v'' hv => ?_, fun v'' hv => ?_⟩
    · rw [updS_other nBC, v1] at h; cases h
    · rw [updS_other nBC] at hv
      obtain ⟨g', q1, _⟩ := hJ.b v' hv
      exact ⟨g', q1, fun h => (by rw [updS_same] at h; cases h)⟩
    · rw [updS_same] at hv; cases hv; exact a1
    · rw [updS_other (Ne.symm nCD), hsD] at hv; cases hv
  · intro o a u s ho hCu hJ hn hq' hold hdep K hK
    rw [hD1] at ho; cases ho
    obtain ⟨v, v1, v2⟩ := hdep eD hD4 hD6 (by rw [hD5]; simp)
    rw [hD5] at v1 v2
    have hx : a.eval (.tmp nC) = v := v2 oC nC hC1 hC3
    refine wp_of_run (v := v) (w' := u) (by unfold execOp; simp only [hD2, hx]; rfl) (hK _ _ hCu ⟨fun h => ?_, fun h => ?_, fun v' hv => ?_, fun h => ?_, hJ.n, fun v'' hv => ?_, fun v'' hv => ?_⟩)
    · rw [updS_other nBD] at h; rw [updS_other nCD]; exact hJ.bc h
    · rw [updS_other nCD, v1] at h; cases h
    · rw [updS_other nBD] at hv
      obtain ⟨g', q1, _⟩ := hJ.b v' hv
      exact ⟨g', q1, fun h => (by rw [updS_other nCD, v1] at h; cases h)⟩
    · rw [updS_other nCD, v1] at h; cases h
    · rw [updS_other nCD] at hv
      exact hJ.c v'' hv
    · rw [updS_same] at hv; cases hv
      rw [updS_other nCD]; exact v1
  · obtain ⟨vD, d1, d2⟩ := hsv D (by simp) oD hD1
    obtain ⟨⟨l⟩, d⟩ := a0
    dsimp only at h2 ⊢
    rw [hsp]
    refine finS_mono (fun l' hl' => ?_) (h2 f)
    rw [setsN_eq] at hl' ⊢
    intro w' hC' hJ
    have e1 := hJ.d vD d1
    have e2 : f nO = vD := (d2 nO hD3).symm
    exact hl' w' vD e2 hC' (hJ.c vD e1) hJ.n
end
end Go.Proofs.YtfmhickjefogdaaGreat

/- Contract: contour of the reference's regions (printed by wip/gen_rme2.py). -/
namespace Go.Proofs.YtfmhickjefogdaaGreat
open Go.RowKit

/-- which corner comes at i -/
def mvJ (b : Bool) (n i : Nat) : Nat := if b = true then n - 1 - i else i
def mvTo (x : Spo) (l : List Pnt) (k : Nat) : List Pnt := (List.range k).map fun i => mvP x (pti l (mvJ x.flip l.length i))
theorem mvTo_succ (x : Spo) (l : List Pnt) (k : Nat) : mvTo x l (k + 1) = mvTo x l k ++ [mvP x (pti l (mvJ x.flip l.length k))] := by
  unfold mvTo; rw [List.range_succ, List.map_append]; rfl
theorem mvTo_len (x : Spo) (l : List Pnt) (k : Nat) : (mvTo x l k).length = k := by unfold mvTo; simp
theorem mvTo_all (x : Spo) (l : List Pnt) : mvTo x l l.length = mvL x l := by
  refine List.ext_getElem ?_ fun i h1 h2 => ?_
  · rw [mvTo_len, (mov_spo x).len]
  rw [mvTo_len] at h1
  have e : (mvTo x l l.length)[i] = mvP x (pti l (mvJ x.flip l.length i)) := by simp only [mvTo, List.getElem_map, List.getElem_range]
  rw [e]
  unfold mvJ
  have key : ∀ (m : List Pnt) (h : i < m.length), m[i] = pti m i := fun m h => by simp [pti, h]
  rw [key]
  unfold mvL
  cases x.flip
  · rw [if_neg (by decide), if_neg (by decide), pti_map _ _ h1]
  · rw [if_pos rfl, if_pos rfl, pti_rev _ (by rw [List.length_map]; exact h1), List.length_map, pti_map _ _ (by omega)]
/-- a slice of points of one's own -/
def RetPts (w : World) (m : List Pnt) (e : Ending) (w' : World) : Prop := ∃ v, e = .returned v ∧ OwnPt w' w.heap.size v m ∧ Below w.heap.size w w'
theorem boxSo (w : World) (x : Spo) : ∃ W, Hid (ObjAt W w.heap.size (soA x) 55) ∧ Hid (Below w.heap.size w W) ∧ Hid ((w.alloc (.cells (soA x) 55)) = W) ∧ Hid (W.heap.size = w.heap.size + 1) :=
  ⟨_, ObjAt.new _ _ _, (Below.refl _ _).alloc (Nat.le_refl _) _, rfl, by show _ = _; simp⟩
set_option maxRecDepth 100000 in
set_option maxHeartbeats 1000000 in
theorem rcontour_any (v : Value) (l : List Pnt) (x : Spo) (w : World) (h : SPt w v l) (hn : ∀ i, i < l.length → Nr (pti l i)) (hx : RightS x) (hl : l.length ≤ 1000) : Calls Tryz.prog 69 #[v, .agg (soA x)] w (RetPts w (mvL x l)) := by
  obtain ⟨pa, pc, rfl, k1, k2, k3⟩ := h
  have K3 := Lib.hid k3
  have HN := Lib.hid hn
  have HX := Lib.hid hx
  clear k3 hn hx k1 k2
  obtain ⟨W1, HO, HB, HW, HSZ⟩ := boxSo w x
  go_enter Tryz.func69, Tryz.ntmps69
  go_upto_region 1 with fail
  rw [HW.out]
  clear HW
  go_wp2_with fail
  go_loopw [5, 6] (fun o0 i wr => ∃ (k : Nat) (o : Value), k ≤ l.length ∧ i = .int .i64 k ∧ o = o0 ∧ Hid (Below w.heap.size w wr) ∧ Hid (ObjAt wr w.heap.size (soA x) 55) ∧ Hid (OwnPt wr W1.heap.size o (mvTo x l k)) ∧ Hid (W1.heap.size ≤ wr.heap.size)) (fun _ i _ => l.length - (intOf i).toNat)
  case atStart => exact ⟨0, _, Nat.zero_le _, rfl, rfl, HB, HO, OwnPt_nil _ _, Nat.le_refl _⟩
  case round =>
    obtain ⟨k, o, hk, rfl, rfl, hb, ho, hq, hs⟩ := hrel
    obtain ⟨oa, oc, eo, _⟩ := hq.out.s
    rw [mvTo_len] at eo
    subst eo
    by_cases hlt : k < l.length
    · have i1 : (k : Int) < l.length := by omega
      have c4 := ho.out.cell 4
      simp only [soA] at c4
      dsimp at c4
      obtain ⟨J, hJ⟩ : ∃ J, mvJ x.flip l.length k = J := ⟨_, rfl⟩
      have hJl : J < l.length := by rw [← hJ]; unfold mvJ; split <;> omega
      have HJ := Lib.hid hJ
      obtain ⟨pb, po, rfl, hc⟩ := K3.out J hJl
      have HC := Lib.hid hc
      have HQ := Lib.hid (HN.out J hJl)
      have HMS : Hid (mvTo x l (k + 1) = mvTo x l k ++ [mvP x (pti l J)]) := by show _ = _; rw [mvTo_succ, HJ.out]
      clear hc
      cases hf : x.flip
      · have e : J = k := by rw [← hJ, hf]; rfl
        subst e
        rw [hf] at c4
        go_upto_region 8 with fail
        refine wp_region_la gmT gmT_ok [⟨pb, po + J * 2, ptCells (pti l J)⟩, ⟨w.heap.size, 0, (soA x).toList⟩] [(3, 1)] [(25, .ix J 0), (28, .ret (ptV (mvP x (pti l J))))] [] 7 8 9 28 29 30 22 5 44 37 (ptV (mvP x (pti l J))) (ptA (mvP x (pti l J))) (.slice oa J oc) W1.heap.size
          (fun u => Below w.heap.size w u ∧ ObjAt u w.heap.size (soA x) 55) (fun u => OwnPt u W1.heap.size (.slice oa J oc) (mvTo x l J)) (fun z u => OwnPt u W1.heap.size z (mvTo x l (J + 1)))
          (by kernel_rfl) mixed (by kernel_rfl) (by kernel_rfl) (by decide) ⟨_, rfl, rfl, rfl⟩ ⟨_, rfl, rfl, rfl, ⟨7, .data⟩, by simp, rfl, rfl⟩ ⟨_, rfl, rfl, rfl, ⟨8, .data⟩, by simp, rfl, rfl⟩ (build_one_Pt _)
          (fun o2 a u g2 K ho2 h1 h2 h3 h4 h5 hK => wp_app_Pt (.tmp 22) (.tmp 29) ho2 W1.heap.size (.slice oa J oc) (mvTo x l J) [mvP x (pti l J)] h1 h4 ⟨g2, 0, none⟩ 1 1 h2 (one_Pt (ptC h3)) (by rw [mvTo_len]; simp; omega) h5 fun v' u' a1 a2 _ => hK v' u' (by rw [HMS.out]; exact a1) a2)
          (fun u u' h hb => OwnPt.below h hb) (fun v u u' h hb => OwnPt.below h hb) ⟨hb.out.drew, ho.out.drewN 1⟩ hq.out hs.out
          (fun u u' h hb => ⟨ext_trans h.1 hb, h.2.keep hb⟩) (fun u u' h hn2 ho2 hg => ⟨h.1.grown hg h.1.size (fun r hr => by have := (OwnPt.lt ho2 r hr).1; have := HSZ.out; omega), h.2.grown hg (fun e => by have := (OwnPt.lt ho2 _ e).1; have := HSZ.out; omega)⟩)
          (obsC (fun u hu => pt_range (HC.out.keep hu.1)) (obsC (fun u hu => range_new hu.2) obsN)) ⟨rfl, trivial⟩ ?_
        conv => whnf
        refine And.intro (under_of ⟨rfl, hJl, rfl, rfl⟩) ?_
        conv => whnf
        refine And.intro (Nat.le_of_ble_eq_true rfl) ?_
        conv => whnf
        refine And.intro (Nat.le_of_ble_eq_true rfl) ?_
        conv => whnf
        refine And.intro (under_of fun u hu => rPoint_any _ _ u HQ.out HX.out) ?_
        conv => whnf
        refine And.intro ⟨rfl, rfl⟩ ?_
        intro f1
        conv => whnf
        intro w6 v6 e6 hc6 ho6 hn6
        have HB6 := Lib.hid hc6.1
        have HO6 := Lib.hid hc6.2
        have HQ6 := Lib.hid ho6
        have HS6 := Lib.hid hn6
        try rw [e6]
        clear hc6 ho6 hn6 hb ho hq hs c4
        go_wp2_with fail
        go_roundw
        case rel => exact ⟨J + 1, _, by omega, by go_num, rfl, HB6, HO6, HQ6, HS6⟩
        case measure => simp [intOf]; omega
      · have e : J = l.length - 1 - k := by rw [← hJ, hf]; rfl
        have i3 : (l.length : Int) - 1 - k = (J : Int) := by omega
        clear e hJ
        rw [hf] at c4
        go_upto_region 8 with fail
        try rw [i3]
        clear i3
        refine wp_region_la gmT gmT_ok [⟨pb, po + J * 2, ptCells (pti l J)⟩, ⟨w.heap.size, 0, (soA x).toList⟩] [(3, 1)] [(25, .ix J 0), (28, .ret (ptV (mvP x (pti l J))))] [] 7 8 9 28 29 30 22 5 44 37 (ptV (mvP x (pti l J))) (ptA (mvP x (pti l J))) (.slice oa k oc) W1.heap.size
          (fun u => Below w.heap.size w u ∧ ObjAt u w.heap.size (soA x) 55) (fun u => OwnPt u W1.heap.size (.slice oa k oc) (mvTo x l k)) (fun z u => OwnPt u W1.heap.size z (mvTo x l (k + 1)))
          (by kernel_rfl) mixed (by kernel_rfl) (by kernel_rfl) (by decide) ⟨_, rfl, rfl, rfl⟩ ⟨_, rfl, rfl, rfl, ⟨7, .data⟩, by simp, rfl, rfl⟩ ⟨_, rfl, rfl, rfl, ⟨8, .data⟩, by simp, rfl, rfl⟩ (build_one_Pt _)
          (fun o2 a u g2 K ho2 h1 h2 h3 h4 h5 hK => wp_app_Pt (.tmp 22) (.tmp 29) ho2 W1.heap.size (.slice oa k oc) (mvTo x l k) [mvP x (pti l J)] h1 h4 ⟨g2, 0, none⟩ 1 1 h2 (one_Pt (ptC h3)) (by rw [mvTo_len]; simp; omega) h5 fun v' u' a1 a2 _ => hK v' u' (by rw [HMS.out]; exact a1) a2)
          (fun u u' h hb => OwnPt.below h hb) (fun v u u' h hb => OwnPt.below h hb) ⟨hb.out.drew, ho.out.drewN 1⟩ hq.out hs.out
          (fun u u' h hb => ⟨ext_trans h.1 hb, h.2.keep hb⟩) (fun u u' h hn2 ho2 hg => ⟨h.1.grown hg h.1.size (fun r hr => by have := (OwnPt.lt ho2 r hr).1; have := HSZ.out; omega), h.2.grown hg (fun e => by have := (OwnPt.lt ho2 _ e).1; have := HSZ.out; omega)⟩)
          (obsC (fun u hu => pt_range (HC.out.keep hu.1)) (obsC (fun u hu => range_new hu.2) obsN)) ⟨rfl, trivial⟩ ?_
        conv => whnf
        refine And.intro (under_of ⟨rfl, hJl, rfl, rfl⟩) ?_
        conv => whnf
        refine And.intro (Nat.le_of_ble_eq_true rfl) ?_
        conv => whnf
        refine And.intro (Nat.le_of_ble_eq_true rfl) ?_
        conv => whnf
        refine And.intro (under_of fun u hu => rPoint_any _ _ u HQ.out HX.out) ?_
        conv => whnf
        refine And.intro ⟨rfl, rfl⟩ ?_
        intro f1
        conv => whnf
        intro w6 v6 e6 hc6 ho6 hn6
        have HB6 := Lib.hid hc6.1
        have HO6 := Lib.hid hc6.2
        have HQ6 := Lib.hid ho6
        have HS6 := Lib.hid hn6
        try rw [e6]
        clear hc6 ho6 hn6 hb ho hq hs c4
        go_wp2_with fail
        go_roundw
        case rel => exact ⟨k + 1, _, by omega, by go_num, rfl, HB6, HO6, HQ6, HS6⟩
        case measure => simp [intOf]; omega
    · have i1 : ¬ (k : Int) < l.length := by omega
      have e : k = l.length := by omega
      subst e
      have HQ := Lib.hid (OwnPt.mono hq.out (show w.heap.size ≤ W1.heap.size by have := HSZ.out; omega))
      rw [mvTo_all] at HQ
      go_wp2_with fail
      go_ret
      exact ⟨_, rfl, HQ.out, hb.out⟩
end Go.Proofs.YtfmhickjefogdaaGreat

/- Contract: contours of the reference's regions (printed by wip/gen_rme3.py). -/
namespace Go.Proofs.YtfmhickjefogdaaGreat
open Go.RowKit

theorem Tryz_infopts : (Tryz.prog.info? 44).map (fun i => (i.zero, i.size, i.bytes)) = some (some (.slice none 0 0), 1, 24) := by kernel_rfl
theorem run_app_pp {w : World} {B : Nat} {v u : Value} {vs us : List Value} (ty : TypeId) (hown : w.ownsRow B 44 1 v vs.length vs) (hs : Sl w u us.length fun i => us.getD i default) (h1 : ∀ y ∈ us, y.oneCell' = true) (hlen : vs.length + us.length ≤ 1000000) (hb : B ≤ w.heap.size) :
    ∃ v' w', (Builtin.append_ #[45, 45] ty #[v, u]).run Tryz.prog w = .ok v' w' ∧ w'.ownsRow B 44 1 v' (vs ++ us).length (vs ++ us) ∧ w.grownBy w' v.ownBlock := by
  obtain ⟨i, hi, hz0, hz1, hz2⟩ := info_parts Tryz_infopts
  obtain ⟨a, cap, rfl, g1, g2, g3⟩ := hs
  cases a with
  | none =>
    have hx : us = [] := by
      cases us with
      | nil => rfl
      | cons x xs => obtain ⟨b, off, ha, _⟩ := g3 0 (by simp); cases ha
    subst hx
    exact ⟨v, w, run_append_zero _ _ i Tryz.underlying45 hi hown cap, by simpa using hown, World.grownBy.refl _ _⟩
  | some ad =>
    have hnews : ∀ j x, us[j]? = some x → w.cell? (ad.add j) = some x := by
      intro j x hj
      obtain ⟨hjl, hjx⟩ := List.getElem?_eq_some_iff.1 hj
      obtain ⟨b, off, ha, hc⟩ := g3 j hjl
      simp at ha
      subst ha
      have hadd : (⟨b, off, none⟩ : Addr).add j = ⟨b, off + j, none⟩ := by unfold Addr.add; split <;> simp_all
      rw [hadd, hc]
      simp [hj]
    obtain ⟨v', w', hr, ho, hg, _, hat⟩ := run_append_own_at (P := Tryz.prog) w B 45 ty 44 i (.slice none 0 0) 1 24 Tryz.underlying45 hi hz0 hz1 hz2 rfl (by decide) v vs.length vs hown ad us.length cap us (by simp) hnews h1
      (by unfold maxLen; omega) (by omega) hb
    exact ⟨v', w', hr, by rw [List.length_append]; exact ho, hg⟩
theorem wpList_app_pp {ops : Array Oper} {rest : List Oper} {o : Oper} {a : Act} {Q : Exit → Act → World → Prop} {w : World} (hw : Region.wanted o (yielded ops a.tmps) = true) (s x : Operand)
    (ho : o.op = .call { callee := .builtin .append, args := #[s, x], argTypes := #[45, 45] })
    (B : Nat) (v u : Value) (vs us : List Value) (hs : a.eval s = v) (hx : a.eval x = u) (hown : w.ownsRow B 44 1 v vs.length vs) (hsrc : Sl w u us.length fun i => us.getD i default) (h1 : ∀ y ∈ us, y.oneCell' = true) (hlen : vs.length + us.length ≤ 1000000) (hb : B ≤ w.heap.size)
    (h : ∀ v' w', w'.ownsRow B 44 1 v' (vs ++ us).length (vs ++ us) → w.grownBy w' v.ownBlock → wpList Tryz.prog ops Q rest (a.put o.dst v') w') : wpList Tryz.prog ops Q (o :: rest) a w :=
  wpList_step fun K hK => by
    rw [if_pos hw]
    obtain ⟨v', w', hr, h2, h3⟩ := run_app_pp o.type hown hsrc h1 hlen hb
    unfold Oper.wp execOp
    simp only [ho, resolve, invoke, builtin, Sem.run_bind, Sem.run_pure, Result.andThen_ok, List.map_toArray, List.map_cons, List.map_nil, hs, hx, hr]
    exact hK _ _ (h v' w' h2 h3)
theorem ShpOK.one {w : World} {ov hv : Value} {outer : List Pnt} {holes : List (List Pnt)} {hvs : List Value} (h : ShpOK w ov hv outer holes hvs) : ∀ y ∈ hvs, y.oneCell' = true := fun y hy => by
  obtain ⟨j, hj, rfl⟩ := List.mem_iff_getElem.1 hy
  obtain ⟨a, c, e, _⟩ := h.h j (by rw [← h.n]; exact hj)
  have e2 : hvs.getD j default = hvs[j] := by simp [hj]
  rw [← e2, e]; rfl
/-- all contours -/
def RetC (w : World) (ov : Value) (hvs : List Value) (e : Ending) (w' : World) : Prop := ∃ v, e = .returned v ∧ (Sl w' v (ov :: hvs).length fun i => (ov :: hvs).getD i undef) ∧ Below w.heap.size w w'
set_option maxRecDepth 100000 in
set_option maxHeartbeats 400000 in
theorem rcontours_any (ov hv : Value) (outer : List Pnt) (holes : List (List Pnt)) (hvs : List Value) (w : World) (h : ShpOK w ov hv outer holes hvs) (hl : hvs.length ≤ 1000) : Calls Tryz.prog 67 #[.agg #[ov, hv]] w (RetC w ov hvs) := by
  have H1 := Lib.hid h.one
  have HS := Lib.hid h.hs
  have HLN := Lib.hid hl
  obtain ⟨oa, oc, rfl, o1, o2, _⟩ := h.o
  obtain ⟨ha, hc, rfl, s1, s2, _⟩ := h.hs
  clear h o1 o2 s1 s2 hl
  obtain ⟨W1, HS1, HB1, HW1⟩ := boxS w oa outer.length oc ha hvs.length hc
  obtain ⟨W2, hW2⟩ : ∃ W2, W1.alloc (.cells #[.slice oa outer.length oc] 44) = W2 := ⟨_, rfl⟩
  have HB2 : Hid (Below w.heap.size w W2) := by show Below ..; rw [← hW2]; exact HB1.out.alloc HB1.out.size _
  have HO2 : Hid (W2.ownsRow w.heap.size 44 1 (.slice (some ⟨W1.heap.size, 0, none⟩) 1 1) [(.slice oa outer.length oc : Value)].length [.slice oa outer.length oc]) := by
    show World.ownsRow ..
    rw [← hW2]
    exact World.ownsRow_lit W1 #[.slice oa outer.length oc] 1 HB1.out.size (by unfold maxLen; omega) rfl
  have HS2 := Lib.hid (Sl.keep HS.out HB2.out)
  have HS1' : Hid (ObjAt W2 w.heap.size #[.slice oa outer.length oc, .slice ha hvs.length hc] 47) := by show ObjAt ..; rw [← hW2]; exact HS1.out.alloc _
  have HW2 := Lib.hid hW2
  clear hW2
  go_enter Tryz.func67, Tryz.ntmps67
  go_upto_region 1 with fail
  rw [HW1.out]
  have c0 := HS1.out.cell 0
  have c1 := HS1'.out.cell 1
  dsimp at c0 c1
  rw [← HW2.out] at c1
  go_wp2_with (at_builtin; rw [HW2.out]; refine wpList_app_pp rfl (.tmp 5) (.tmp 7) rfl w.heap.size _ _ [.slice oa outer.length oc] hvs rfl rfl HO2.out HS2.out H1.out (by have := HLN.out; simp; omega) HB2.out.size ?_)
  intro va wa hoa hga
  have HOA := Lib.hid (Sl_of_owns hoa)
  have HBA := Lib.hid (HB2.out.grown hga HB2.out.size (fun q hq => by
    have e : W1.heap.size = q := Option.some.inj hq
    have := HB1.out.size
    omega))
  clear hoa hga c0 c1
  go_wp2_with fail
  go_ret
  exact ⟨_, rfl, HOA.out, HBA.out⟩
/-- it comes back with a truth value -/
def RetB (w : World) (e : Ending) (w' : World) : Prop := ∃ b : Bool, e = .returned (.bool b) ∧ Below w.heap.size w w'
/-- .. and true means something -/
def RetT (P : Prop) (w : World) (e : Ending) (w' : World) : Prop := ∃ b : Bool, e = .returned (.bool b) ∧ Below w.heap.size w w' ∧ (b = true → P)
end Go.Proofs.YtfmhickjefogdaaGreat
