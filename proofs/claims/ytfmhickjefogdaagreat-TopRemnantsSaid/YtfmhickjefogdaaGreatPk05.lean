/- Polygons of the reference: near, simple, Check (printed by wip/gen_gmb.py). -/
import Derived.Test.YtfmhickjefogdaaGreatPk04
import Derived.Test.YtfmhickjefogdaaGreatPk02
set_option linter.unusedSimpArgs false
set_option linter.unusedVariables false

/- Points: Turn, On, Meet, Near of both references (printed by wip/gen_gm.py). -/
namespace Go.Proofs.YtfmhickjefogdaaGreat
open Go.RowKit

theorem size_alloc (w : World) (o : Obj) : (w.alloc o).heap.size = w.heap.size + 1 := by simp
theorem boxP1 (w : World) (a : Pnt) : ∃ W, Hid (ObjAt W (w.heap.size) (ptA a) 37) ∧ Hid (Below w.heap.size w W) ∧ Hid ((w.alloc (.cells #[.int .i64 a.x, .int .i64 a.y] 37)) = W) :=
  ⟨(w.alloc (.cells #[.int .i64 a.x, .int .i64 a.y] 37)), (by have h := (ObjAt.new w (ptA a) 37); exact h), ((Below.refl _ _).alloc (by omega) _), rfl⟩
theorem boxP3 (w : World) (a b c : Pnt) : ∃ W, Hid (ObjAt W (w.heap.size) (ptA a) 37) ∧ Hid (ObjAt W (w.heap.size + 1) (ptA b) 37) ∧ Hid (ObjAt W (w.heap.size + 1 + 1) (ptA c) 37) ∧ Hid (Below w.heap.size w W) ∧ Hid ((((w.alloc (.cells #[.int .i64 a.x, .int .i64 a.y] 37)).alloc (.cells #[.int .i64 b.x, .int .i64 b.y] 37)).alloc (.cells #[.int .i64 c.x, .int .i64 c.y] 37)) = W) :=
  ⟨(((w.alloc (.cells #[.int .i64 a.x, .int .i64 a.y] 37)).alloc (.cells #[.int .i64 b.x, .int .i64 b.y] 37)).alloc (.cells #[.int .i64 c.x, .int .i64 c.y] 37)), (by have h := (ObjAt.new w (ptA a) 37); exact ((h.alloc _).alloc _)), (by have h := (ObjAt.new (w.alloc (.cells (ptA a) 37)) (ptA b) 37); rw [size_alloc] at h; exact (h.alloc _)), (by have h := (ObjAt.new ((w.alloc (.cells (ptA a) 37)).alloc (.cells (ptA b) 37)) (ptA c) 37); rw [size_alloc, size_alloc] at h; exact h), ((((Below.refl _ _).alloc (by omega) _).alloc (by rw [size_alloc]; omega) _).alloc (by rw [size_alloc, size_alloc]; omega) _), rfl⟩
theorem boxP4 (w : World) (a b c d : Pnt) : ∃ W, Hid (ObjAt W (w.heap.size) (ptA a) 37) ∧ Hid (ObjAt W (w.heap.size + 1) (ptA b) 37) ∧ Hid (ObjAt W (w.heap.size + 1 + 1) (ptA c) 37) ∧ Hid (ObjAt W (w.heap.size + 1 + 1 + 1) (ptA d) 37) ∧ Hid (Below w.heap.size w W) ∧ Hid (((((w.alloc (.cells #[.int .i64 a.x, .int .i64 a.y] 37)).alloc (.cells #[.int .i64 b.x, .int .i64 b.y] 37)).alloc (.cells #[.int .i64 c.x, .int .i64 c.y] 37)).alloc (.cells #[.int .i64 d.x, .int .i64 d.y] 37)) = W) :=
  ⟨((((w.alloc (.cells #[.int .i64 a.x, .int .i64 a.y] 37)).alloc (.cells #[.int .i64 b.x, .int .i64 b.y] 37)).alloc (.cells #[.int .i64 c.x, .int .i64 c.y] 37)).alloc (.cells #[.int .i64 d.x, .int .i64 d.y] 37)), (by have h := (ObjAt.new w (ptA a) 37); exact (((h.alloc _).alloc _).alloc _)), (by have h := (ObjAt.new (w.alloc (.cells (ptA a) 37)) (ptA b) 37); rw [size_alloc] at h; exact ((h.alloc _).alloc _)), (by have h := (ObjAt.new ((w.alloc (.cells (ptA a) 37)).alloc (.cells (ptA b) 37)) (ptA c) 37); rw [size_alloc, size_alloc] at h; exact (h.alloc _)), (by have h := (ObjAt.new (((w.alloc (.cells (ptA a) 37)).alloc (.cells (ptA b) 37)).alloc (.cells (ptA c) 37)) (ptA d) 37); rw [size_alloc, size_alloc, size_alloc] at h; exact h), (((((Below.refl _ _).alloc (by omega) _).alloc (by rw [size_alloc]; omega) _).alloc (by rw [size_alloc, size_alloc]; omega) _).alloc (by rw [size_alloc, size_alloc, size_alloc]; omega) _), rfl⟩

def ptV (a : Pnt) : Value := .agg #[.int .i64 a.x, .int .i64 a.y]
def turnP (a b c : Pnt) : Int := IntKind.i64.wrap (IntKind.i64.wrap (IntKind.i64.wrap (b.x - a.x) * IntKind.i64.wrap (c.y - a.y)) - IntKind.i64.wrap (IntKind.i64.wrap (b.y - a.y) * IntKind.i64.wrap (c.x - a.x)))
def sgnP (n : Int) : Int := if n < 0 then -1 else if 0 < n then 1 else 0
def onP (q a b : Pnt) : Bool := (turnP a b q == 0) && decide (min a.x b.x ≤ q.x) && decide (q.x ≤ max a.x b.x) && decide (min a.y b.y ≤ q.y) && decide (q.y ≤ max a.y b.y)
def meetP (a b c d : Pnt) : Bool := (onP a c d || onP b c d || onP c a b || onP d a b) || (decide (IntKind.i64.wrap (sgnP (turnP a b c) * sgnP (turnP a b d)) < 0) && decide (IntKind.i64.wrap (sgnP (turnP c d a) * sgnP (turnP c d b)) < 0))
def onQ (a b q : Pnt) : Bool := (sgnP (turnP a b q) == 0) && decide (min a.x b.x ≤ q.x) && decide (q.x ≤ max a.x b.x) && decide (min a.y b.y ≤ q.y) && decide (q.y ≤ max a.y b.y)
def meetQ (a b c d : Pnt) : Bool := (onQ a b c || onQ a b d || onQ c d a || onQ c d b) || (decide (IntKind.i64.wrap (sgnP (turnP a b c) * sgnP (turnP a b d)) < 0) && decide (IntKind.i64.wrap (sgnP (turnP c d a) * sgnP (turnP c d b)) < 0))
def nearP (q : Pnt) : Bool := decide (-32768 ≤ q.x) && decide (q.x ≤ 32768) && decide (-32768 ≤ q.y) && decide (q.y ≤ 32768)
set_option maxRecDepth 100000 in
theorem rTurn_any (a b c : Pnt) (w : World) : Calls Tryz.prog 96 #[ptV a, ptV b, ptV c] w (Ret w (.int .i64 (turnP a b c))) := by
  obtain ⟨W1, HOa, HOb, HOc, HB, HW⟩ := boxP3 w a b c
  unfold ptV
  go_enter Tryz.func96, Tryz.ntmps96
  go_upto_region 1 with fail
  rw [HW.out]
  refine wp_region_et gmT gmT_ok [⟨w.heap.size, 0, (ptA a).toList⟩, ⟨w.heap.size + 1, 0, (ptA b).toList⟩, ⟨w.heap.size + 1 + 1, 0, (ptA c).toList⟩] (Below W1.heap.size W1) [(3, 0), (4, 1), (5, 2)] [] [(6, .int .i64 (turnP a b c))] (by kernel_rfl) (Below.refl _ _)
    (obsC (fun u hu => rangeKeep (range_new HOa.out) hu) (obsC (fun u hu => rangeKeep (range_new HOb.out) hu) (obsC (fun u hu => rangeKeep (range_new HOc.out) hu) obsN))) ⟨rfl, rfl, rfl, trivial⟩ ?_
  conv => whnf
  intro f1
  conv => whnf
  refine And.intro (rfl) ?_
  conv => whnf
  intro w2 h2
  have HB2 := Lib.hid (ext_trans HB.out h2)
  go_wp2_with fail
  go_ret
  exact ⟨rfl, HB2.out⟩
set_option maxRecDepth 100000 in
theorem rSign_any (n : Int) (w : World) : Calls Tryz.prog 140 #[.int .i64 n] w (Ret w (.int .i64 (sgnP n))) := by
  unfold sgnP
  by_cases h1 : n < 0
  · rw [if_pos h1]
    go_enter Tryz.func140, Tryz.ntmps140
    go_wp2_with fail
    go_ret
    exact ⟨rfl, Below.refl _ _⟩
  · rw [if_neg h1]
    by_cases h2 : 0 < n
    · rw [if_pos h2]
      go_enter Tryz.func140, Tryz.ntmps140
      go_wp2_with fail
      go_ret
      exact ⟨rfl, Below.refl _ _⟩
    · rw [if_neg h2]
      go_enter Tryz.func140, Tryz.ntmps140
      go_wp2_with fail
      go_ret
      exact ⟨rfl, Below.refl _ _⟩
set_option maxRecDepth 100000 in
theorem rturn_any (a b c : Pnt) (w : World) : Calls Tryz.prog 116 #[ptV a, ptV b, ptV c] w (Ret w (.int .i64 (sgnP (turnP a b c)))) := by
  obtain ⟨W1, HOa, HOb, HOc, HB, HW⟩ := boxP3 w a b c
  unfold ptV
  obtain ⟨n, hn⟩ : ∃ n, turnP a b c = n := ⟨_, rfl⟩
  have HN := Lib.hid hn
  rw [hn]
  clear hn
  go_enter Tryz.func116, Tryz.ntmps116
  go_upto_region 1 with fail
  rw [HW.out]
  refine wp_region_et gmT gmT_ok [⟨w.heap.size, 0, (ptA a).toList⟩, ⟨w.heap.size + 1, 0, (ptA b).toList⟩, ⟨w.heap.size + 1 + 1, 0, (ptA c).toList⟩] (Below W1.heap.size W1) [(3, 0), (4, 1), (5, 2)] [] [(7, .int .i64 n)] (by kernel_rfl) (Below.refl _ _)
    (obsC (fun u hu => rangeKeep (range_new HOa.out) hu) (obsC (fun u hu => rangeKeep (range_new HOb.out) hu) (obsC (fun u hu => rangeKeep (range_new HOc.out) hu) obsN))) ⟨rfl, rfl, rfl, trivial⟩ ?_
  conv => whnf
  intro f1
  conv => whnf
  refine And.intro (congrArg (Value.int .i64) HN.out) ?_
  conv => whnf
  intro w2 h2
  have HB2 := Lib.hid (ext_trans HB.out h2)
  clear h2
  have HS := Lib.hid (show sgnP n = if n < 0 then -1 else if 0 < n then 1 else 0 from rfl)
  by_cases h1 : n < 0
  · rw [if_pos h1] at HS
    have h2 : ¬ 0 < n := by omega
    go_wp2_with fail
    go_ret
    exact ⟨ret_int HS.out.symm, HB2.out⟩
  · rw [if_neg h1] at HS
    by_cases h2 : 0 < n
    · rw [if_pos h2] at HS
      go_wp2_with fail
      go_ret
      exact ⟨ret_int HS.out.symm, HB2.out⟩
    · rw [if_neg h2] at HS
      go_wp2_with fail
      go_ret
      exact ⟨ret_int HS.out.symm, HB2.out⟩
set_option maxRecDepth 100000 in
theorem rOn_any (a b c : Pnt) (w : World) : Calls Tryz.prog 95 #[ptV a, ptV b, ptV c] w (Ret w (.bool (onP a b c))) := by
  obtain ⟨W1, HOa, HOb, HOc, HB, HW⟩ := boxP3 w a b c
  unfold ptV
  go_enter Tryz.func95, Tryz.ntmps95
  go_upto_region 1 with fail
  rw [HW.out]
  refine wp_region_et gmT gmT_ok [⟨w.heap.size, 0, (ptA a).toList⟩, ⟨w.heap.size + 1, 0, (ptA b).toList⟩, ⟨w.heap.size + 1 + 1, 0, (ptA c).toList⟩] (Below W1.heap.size W1) [(3, 0), (4, 1), (5, 2)] [(10, .ret (.int .i64 (turnP b c a)))] [(6, .bool (onP a b c))] (by kernel_rfl) (Below.refl _ _)
    (obsC (fun u hu => rangeKeep (range_new HOa.out) hu) (obsC (fun u hu => rangeKeep (range_new HOb.out) hu) (obsC (fun u hu => rangeKeep (range_new HOc.out) hu) obsN))) ⟨rfl, rfl, rfl, trivial⟩ ?_
  conv => whnf
  refine And.intro (Nat.le_of_ble_eq_true rfl) ?_
  conv => whnf
  refine And.intro (Nat.le_of_ble_eq_true rfl) ?_
  conv => whnf
  refine And.intro (Nat.le_of_ble_eq_true rfl) ?_
  conv => whnf
  refine And.intro (under_of fun u hu => ret_in (rTurn_any b c a u) hu) ?_
  conv => whnf
  intro f1
  conv => whnf
  refine And.intro (rfl) ?_
  conv => whnf
  intro w2 h2
  have HB2 := Lib.hid (ext_trans HB.out h2)
  go_wp2_with fail
  go_ret
  exact ⟨rfl, HB2.out⟩
set_option maxRecDepth 100000 in
theorem ron_any (a b c : Pnt) (w : World) : Calls Tryz.prog 115 #[ptV a, ptV b, ptV c] w (Ret w (.bool (onQ a b c))) := by
  obtain ⟨W1, HOa, HOb, HOc, HB, HW⟩ := boxP3 w a b c
  unfold ptV
  go_enter Tryz.func115, Tryz.ntmps115
  go_upto_region 1 with fail
  rw [HW.out]
  refine wp_region_et gmT gmT_ok [⟨w.heap.size, 0, (ptA a).toList⟩, ⟨w.heap.size + 1, 0, (ptA b).toList⟩, ⟨w.heap.size + 1 + 1, 0, (ptA c).toList⟩] (Below W1.heap.size W1) [(3, 0), (4, 1), (5, 2)] [(10, .ret (.int .i64 (sgnP (turnP a b c))))] [(6, .bool (onQ a b c))] (by kernel_rfl) (Below.refl _ _)
    (obsC (fun u hu => rangeKeep (range_new HOa.out) hu) (obsC (fun u hu => rangeKeep (range_new HOb.out) hu) (obsC (fun u hu => rangeKeep (range_new HOc.out) hu) obsN))) ⟨rfl, rfl, rfl, trivial⟩ ?_
  conv => whnf
  refine And.intro (Nat.le_of_ble_eq_true rfl) ?_
  conv => whnf
  refine And.intro (Nat.le_of_ble_eq_true rfl) ?_
  conv => whnf
  refine And.intro (Nat.le_of_ble_eq_true rfl) ?_
  conv => whnf
  refine And.intro (under_of fun u hu => ret_in (rturn_any a b c u) hu) ?_
  conv => whnf
  intro f1
  conv => whnf
  refine And.intro (rfl) ?_
  conv => whnf
  intro w2 h2
  have HB2 := Lib.hid (ext_trans HB.out h2)
  go_wp2_with fail
  go_ret
  exact ⟨rfl, HB2.out⟩
set_option maxRecDepth 100000 in
theorem rMeet_any (a b c d : Pnt) (w : World) : Calls Tryz.prog 114 #[ptV a, ptV b, ptV c, ptV d] w (Ret w (.bool (meetP a b c d))) := by
  obtain ⟨W1, HOa, HOb, HOc, HOd, HB, HW⟩ := boxP4 w a b c d
  unfold ptV
  go_enter Tryz.func114, Tryz.ntmps114
  go_upto_region 1 with fail
  rw [HW.out]
  refine wp_region_et gmT gmT_ok [⟨w.heap.size, 0, (ptA a).toList⟩, ⟨w.heap.size + 1, 0, (ptA b).toList⟩, ⟨w.heap.size + 1 + 1, 0, (ptA c).toList⟩, ⟨w.heap.size + 1 + 1 + 1, 0, (ptA d).toList⟩] (Below W1.heap.size W1) [(4, 0), (5, 1), (6, 2), (7, 3)] [(12, .ret (.bool (onP a c d))), (17, .ret (.bool (onP b c d))), (23, .ret (.bool (onP c a b))), (29, .ret (.bool (onP d a b)))] [(30, .bool (onP a c d || onP b c d || onP c a b || onP d a b))] (by kernel_rfl) (Below.refl _ _)
    (obsC (fun u hu => rangeKeep (range_new HOa.out) hu) (obsC (fun u hu => rangeKeep (range_new HOb.out) hu) (obsC (fun u hu => rangeKeep (range_new HOc.out) hu) (obsC (fun u hu => rangeKeep (range_new HOd.out) hu) obsN)))) ⟨rfl, rfl, rfl, rfl, trivial⟩ ?_
  conv => whnf
  refine And.intro (Nat.le_of_ble_eq_true rfl) ?_
  conv => whnf
  refine And.intro (Nat.le_of_ble_eq_true rfl) ?_
  conv => whnf
  refine And.intro (Nat.le_of_ble_eq_true rfl) ?_
  conv => whnf
  refine And.intro (under_of fun u hu => ret_in (rOn_any a c d u) hu) ?_
  conv => whnf
  refine And.intro (Nat.le_of_ble_eq_true rfl) ?_
  conv => whnf
  refine And.intro (Nat.le_of_ble_eq_true rfl) ?_
  conv => whnf
  refine And.intro (Nat.le_of_ble_eq_true rfl) ?_
  conv => whnf
  refine And.intro (under_of fun u hu => ret_in (rOn_any b c d u) hu) ?_
  conv => whnf
  refine And.intro (Nat.le_of_ble_eq_true rfl) ?_
  conv => whnf
  refine And.intro (Nat.le_of_ble_eq_true rfl) ?_
  conv => whnf
  refine And.intro (Nat.le_of_ble_eq_true rfl) ?_
  conv => whnf
  refine And.intro (under_of fun u hu => ret_in (rOn_any c a b u) hu) ?_
  conv => whnf
  refine And.intro (Nat.le_of_ble_eq_true rfl) ?_
  conv => whnf
  refine And.intro (Nat.le_of_ble_eq_true rfl) ?_
  conv => whnf
  refine And.intro (Nat.le_of_ble_eq_true rfl) ?_
  conv => whnf
  refine And.intro (under_of fun u hu => ret_in (rOn_any d a b u) hu) ?_
  conv => whnf
  intro f1
  conv => whnf
  refine And.intro (rfl) ?_
  conv => whnf
  intro w2 h2
  have HB2 := Lib.hid (ext_trans HB.out h2)
  have HO1a := Lib.hid (HOa.out.keep h2)
  have HO1b := Lib.hid (HOb.out.keep h2)
  have HO1c := Lib.hid (HOc.out.keep h2)
  have HO1d := Lib.hid (HOd.out.keep h2)
  clear h2 HOa HOb HOc HOd HW
  have HM : Hid (meetP a b c d = ((onP a c d || onP b c d || onP c a b || onP d a b) || (decide (IntKind.i64.wrap (sgnP (turnP a b c) * sgnP (turnP a b d)) < 0) && decide (IntKind.i64.wrap (sgnP (turnP c d a) * sgnP (turnP c d b)) < 0)))) := rfl
  obtain ⟨z, hz⟩ : ∃ z, (onP a c d || onP b c d || onP c a b || onP d a b) = z := ⟨_, rfl⟩
  rw [hz] at HM ⊢
  clear hz
  cases z
  rotate_left
  · go_wp2_with fail
    go_ret
    exact ⟨ret_bool HM.out.symm, HB2.out⟩
  go_upto_region 3 with fail
  refine wp_region_ev gmT gmT_ok [⟨w.heap.size, 0, (ptA a).toList⟩, ⟨w.heap.size + 1, 0, (ptA b).toList⟩, ⟨w.heap.size + 1 + 1, 0, (ptA c).toList⟩, ⟨w.heap.size + 1 + 1 + 1, 0, (ptA d).toList⟩] (Below w2.heap.size w2) [(4, 0), (5, 1), (6, 2), (7, 3)] [(34, .ret (.int .i64 (turnP a b c))), (35, .ret (.int .i64 (sgnP (turnP a b c)))), (39, .ret (.int .i64 (turnP a b d))), (40, .ret (.int .i64 (sgnP (turnP a b d)))), (47, .ret (.int .i64 (turnP c d a))), (48, .ret (.int .i64 (sgnP (turnP c d a)))), (52, .ret (.int .i64 (turnP c d b))), (53, .ret (.int .i64 (sgnP (turnP c d b))))] [(8, .bool (decide (IntKind.i64.wrap (sgnP (turnP a b c) * sgnP (turnP a b d)) < 0) && decide (IntKind.i64.wrap (sgnP (turnP c d a) * sgnP (turnP c d b)) < 0)))] (by kernel_rfl) mixed (by kernel_rfl) ((Below.refl _ _).drew)
    (obsC (fun u hu => rangeKeep (range_new HO1a.out) hu) (obsC (fun u hu => rangeKeep (range_new HO1b.out) hu) (obsC (fun u hu => rangeKeep (range_new HO1c.out) hu) (obsC (fun u hu => rangeKeep (range_new HO1d.out) hu) obsN)))) ⟨rfl, rfl, rfl, rfl, trivial⟩ ?_
  conv => whnf
  refine And.intro (Nat.le_of_ble_eq_true rfl) ?_
  conv => whnf
  refine And.intro (Nat.le_of_ble_eq_true rfl) ?_
  conv => whnf
  refine And.intro (Nat.le_of_ble_eq_true rfl) ?_
  conv => whnf
  refine And.intro (under_of fun u hu => ret_in (rTurn_any a b c u) hu) ?_
  conv => whnf
  refine And.intro (under_of fun u hu => ret_in (rSign_any _ u) hu) ?_
  conv => whnf
  refine And.intro (Nat.le_of_ble_eq_true rfl) ?_
  conv => whnf
  refine And.intro (Nat.le_of_ble_eq_true rfl) ?_
  conv => whnf
  refine And.intro (Nat.le_of_ble_eq_true rfl) ?_
  conv => whnf
  refine And.intro (under_of fun u hu => ret_in (rTurn_any a b d u) hu) ?_
  conv => whnf
  refine And.intro (under_of fun u hu => ret_in (rSign_any _ u) hu) ?_
  conv => whnf
  refine And.intro (Nat.le_of_ble_eq_true rfl) ?_
  conv => whnf
  refine And.intro (Nat.le_of_ble_eq_true rfl) ?_
  conv => whnf
  refine And.intro (Nat.le_of_ble_eq_true rfl) ?_
  conv => whnf
  refine And.intro (under_of fun u hu => ret_in (rTurn_any c d a u) hu) ?_
  conv => whnf
  refine And.intro (under_of fun u hu => ret_in (rSign_any _ u) hu) ?_
  conv => whnf
  refine And.intro (Nat.le_of_ble_eq_true rfl) ?_
  conv => whnf
  refine And.intro (Nat.le_of_ble_eq_true rfl) ?_
  conv => whnf
  refine And.intro (Nat.le_of_ble_eq_true rfl) ?_
  conv => whnf
  refine And.intro (under_of fun u hu => ret_in (rTurn_any c d b u) hu) ?_
  conv => whnf
  refine And.intro (under_of fun u hu => ret_in (rSign_any _ u) hu) ?_
  conv => whnf
  intro f2
  conv => whnf
  refine And.intro (rfl) ?_
  conv => whnf
  intro w3 h3
  have HB3 := Lib.hid (ext_trans HB2.out h3)
  go_wp2_with fail
  go_ret
  exact ⟨ret_bool HM.out.symm, HB3.out⟩
set_option maxRecDepth 100000 in
theorem rmeet_any (a b c d : Pnt) (w : World) : Calls Tryz.prog 93 #[ptV a, ptV b, ptV c, ptV d] w (Ret w (.bool (meetQ a b c d))) := by
  obtain ⟨W1, HOa, HOb, HOc, HOd, HB, HW⟩ := boxP4 w a b c d
  unfold ptV
  go_enter Tryz.func93, Tryz.ntmps93
  go_upto_region 1 with fail
  rw [HW.out]
  refine wp_region_et gmT gmT_ok [⟨w.heap.size, 0, (ptA a).toList⟩, ⟨w.heap.size + 1, 0, (ptA b).toList⟩, ⟨w.heap.size + 1 + 1, 0, (ptA c).toList⟩, ⟨w.heap.size + 1 + 1 + 1, 0, (ptA d).toList⟩] (Below W1.heap.size W1) [(4, 0), (5, 1), (6, 2), (7, 3)] [(12, .ret (.bool (onQ a b c))), (17, .ret (.bool (onQ a b d))), (23, .ret (.bool (onQ c d a))), (29, .ret (.bool (onQ c d b)))] [(30, .bool (onQ a b c || onQ a b d || onQ c d a || onQ c d b))] (by kernel_rfl) (Below.refl _ _)
    (obsC (fun u hu => rangeKeep (range_new HOa.out) hu) (obsC (fun u hu => rangeKeep (range_new HOb.out) hu) (obsC (fun u hu => rangeKeep (range_new HOc.out) hu) (obsC (fun u hu => rangeKeep (range_new HOd.out) hu) obsN)))) ⟨rfl, rfl, rfl, rfl, trivial⟩ ?_
  conv => whnf
  refine And.intro (Nat.le_of_ble_eq_true rfl) ?_
  conv => whnf
  refine And.intro (Nat.le_of_ble_eq_true rfl) ?_
  conv => whnf
  refine And.intro (Nat.le_of_ble_eq_true rfl) ?_
  conv => whnf
  refine And.intro (under_of fun u hu => ret_in (ron_any a b c u) hu) ?_
  conv => whnf
  refine And.intro (Nat.le_of_ble_eq_true rfl) ?_
  conv => whnf
  refine And.intro (Nat.le_of_ble_eq_true rfl) ?_
  conv => whnf
  refine And.intro (Nat.le_of_ble_eq_true rfl) ?_
  conv => whnf
  refine And.intro (under_of fun u hu => ret_in (ron_any a b d u) hu) ?_
  conv => whnf
  refine And.intro (Nat.le_of_ble_eq_true rfl) ?_
  conv => whnf
  refine And.intro (Nat.le_of_ble_eq_true rfl) ?_
  conv => whnf
  refine And.intro (Nat.le_of_ble_eq_true rfl) ?_
  conv => whnf
  refine And.intro (under_of fun u hu => ret_in (ron_any c d a u) hu) ?_
  conv => whnf
  refine And.intro (Nat.le_of_ble_eq_true rfl) ?_
  conv => whnf
  refine And.intro (Nat.le_of_ble_eq_true rfl) ?_
  conv => whnf
  refine And.intro (Nat.le_of_ble_eq_true rfl) ?_
  conv => whnf
  refine And.intro (under_of fun u hu => ret_in (ron_any c d b u) hu) ?_
  conv => whnf
  intro f1
  conv => whnf
  refine And.intro (rfl) ?_
  conv => whnf
  intro w2 h2
  have HB2 := Lib.hid (ext_trans HB.out h2)
  have HO1a := Lib.hid (HOa.out.keep h2)
  have HO1b := Lib.hid (HOb.out.keep h2)
  have HO1c := Lib.hid (HOc.out.keep h2)
  have HO1d := Lib.hid (HOd.out.keep h2)
  clear h2 HOa HOb HOc HOd HW
  have HM : Hid (meetQ a b c d = ((onQ a b c || onQ a b d || onQ c d a || onQ c d b) || (decide (IntKind.i64.wrap (sgnP (turnP a b c) * sgnP (turnP a b d)) < 0) && decide (IntKind.i64.wrap (sgnP (turnP c d a) * sgnP (turnP c d b)) < 0)))) := rfl
  obtain ⟨z, hz⟩ : ∃ z, (onQ a b c || onQ a b d || onQ c d a || onQ c d b) = z := ⟨_, rfl⟩
  rw [hz] at HM ⊢
  clear hz
  cases z
  rotate_left
  · go_wp2_with fail
    go_ret
    exact ⟨ret_bool HM.out.symm, HB2.out⟩
  go_upto_region 3 with fail
  refine wp_region_ev gmT gmT_ok [⟨w.heap.size, 0, (ptA a).toList⟩, ⟨w.heap.size + 1, 0, (ptA b).toList⟩, ⟨w.heap.size + 1 + 1, 0, (ptA c).toList⟩, ⟨w.heap.size + 1 + 1 + 1, 0, (ptA d).toList⟩] (Below w2.heap.size w2) [(4, 0), (5, 1), (6, 2), (7, 3)] [(34, .ret (.int .i64 (sgnP (turnP a b c)))), (38, .ret (.int .i64 (sgnP (turnP a b d)))), (45, .ret (.int .i64 (sgnP (turnP c d a)))), (49, .ret (.int .i64 (sgnP (turnP c d b))))] [(8, .bool (decide (IntKind.i64.wrap (sgnP (turnP a b c) * sgnP (turnP a b d)) < 0) && decide (IntKind.i64.wrap (sgnP (turnP c d a) * sgnP (turnP c d b)) < 0)))] (by kernel_rfl) mixed (by kernel_rfl) ((Below.refl _ _).drew)
    (obsC (fun u hu => rangeKeep (range_new HO1a.out) hu) (obsC (fun u hu => rangeKeep (range_new HO1b.out) hu) (obsC (fun u hu => rangeKeep (range_new HO1c.out) hu) (obsC (fun u hu => rangeKeep (range_new HO1d.out) hu) obsN)))) ⟨rfl, rfl, rfl, rfl, trivial⟩ ?_
  conv => whnf
  refine And.intro (Nat.le_of_ble_eq_true rfl) ?_
  conv => whnf
  refine And.intro (Nat.le_of_ble_eq_true rfl) ?_
  conv => whnf
  refine And.intro (Nat.le_of_ble_eq_true rfl) ?_
  conv => whnf
  refine And.intro (under_of fun u hu => ret_in (rturn_any a b c u) hu) ?_
  conv => whnf
  refine And.intro (Nat.le_of_ble_eq_true rfl) ?_
  conv => whnf
  refine And.intro (Nat.le_of_ble_eq_true rfl) ?_
  conv => whnf
  refine And.intro (Nat.le_of_ble_eq_true rfl) ?_
  conv => whnf
  refine And.intro (under_of fun u hu => ret_in (rturn_any a b d u) hu) ?_
  conv => whnf
  refine And.intro (Nat.le_of_ble_eq_true rfl) ?_
  conv => whnf
  refine And.intro (Nat.le_of_ble_eq_true rfl) ?_
  conv => whnf
  refine And.intro (Nat.le_of_ble_eq_true rfl) ?_
  conv => whnf
  refine And.intro (under_of fun u hu => ret_in (rturn_any c d a u) hu) ?_
  conv => whnf
  refine And.intro (Nat.le_of_ble_eq_true rfl) ?_
  conv => whnf
  refine And.intro (Nat.le_of_ble_eq_true rfl) ?_
  conv => whnf
  refine And.intro (Nat.le_of_ble_eq_true rfl) ?_
  conv => whnf
  refine And.intro (under_of fun u hu => ret_in (rturn_any c d b u) hu) ?_
  conv => whnf
  intro f2
  conv => whnf
  refine And.intro (rfl) ?_
  conv => whnf
  intro w3 h3
  have HB3 := Lib.hid (ext_trans HB2.out h3)
  go_wp2_with fail
  go_ret
  exact ⟨ret_bool HM.out.symm, HB3.out⟩
set_option maxRecDepth 100000 in
theorem rNear_any (a : Pnt) (w : World) : Calls Tryz.prog 94 #[ptV a] w (Ret w (.bool (nearP a))) := by
  obtain ⟨W1, HOa, HB, HW⟩ := boxP1 w a
  unfold ptV
  go_enter Tryz.func94, Tryz.ntmps94
  go_upto_region 1 with fail
  rw [HW.out]
  refine wp_region_et gmT gmT_ok [⟨w.heap.size, 0, (ptA a).toList⟩] (Below W1.heap.size W1) [(1, 0)] [] [(2, .bool (nearP a))] (by kernel_rfl) (Below.refl _ _)
    (obsC (fun u hu => rangeKeep (range_new HOa.out) hu) obsN) ⟨rfl, trivial⟩ ?_
  conv => whnf
  intro f1
  conv => whnf
  refine And.intro (rfl) ?_
  conv => whnf
  intro w2 h2
  have HB2 := Lib.hid (ext_trans HB.out h2)
  go_wp2_with fail
  go_ret
  exact ⟨rfl, HB2.out⟩
end Go.Proofs.YtfmhickjefogdaaGreat

/- Regions that draw their order, with several new variables, each written once with a value known ahead. -/
namespace Go.Proofs.YtfmhickjefogdaaGreat
open Go.RowKit

/-- a new variable: the operations that make it and write it, its slot, the slot of what is written, its type, what it holds at first and then -/
structure NW where
  A : Nat
  B : Nat
  nA : Nat
  nX : Nat
  ty : TypeId
  zero : Array Value
  cells : Array Value
def NWJ (its : List NW) (base : Nat) (s : Nat → Option Value) (w : World) : Prop :=
  (∀ it ∈ its, (s it.A = none → s it.B = none) ∧ ∀ v, s it.A = some v → ∃ b, v = .pointer (some ⟨b, 0, none⟩) ∧ base ≤ b ∧ ObjAt w b (cond (s it.B).isSome it.cells it.zero) it.ty) ∧
  ∀ it ∈ its, ∀ jt ∈ its, it.A ≠ jt.A → ∀ b c, s it.A = some (.pointer (some ⟨b, 0, none⟩)) → s jt.A = some (.pointer (some ⟨c, 0, none⟩)) → b ≠ c
def nwSp : List NW → List Nat
  | [] => []
  | it :: l => it.A :: it.B :: nwSp l
theorem mem_nwSp {i : Nat} : ∀ {l : List NW}, i ∈ nwSp l ↔ ∃ it ∈ l, i = it.A ∨ i = it.B
  | [] => by simp [nwSp]
  | x :: l => by simp [nwSp, mem_nwSp (l := l), or_assoc]
section
variable {a0 : Act} {ps : List (Nat × Nat)} {T : QTab} {E : List Ob} {hs : List (Nat × Hint)}
def nwX (S : List Ent) : List NW → Prop
  | [] => True
  | it :: l => (match lookS S it.nX with
    | some ⟨_, [], .v x⟩ => x = .agg it.cells
    | _ => False) ∧ nwX S l
theorem nwX_at {S : List Ent} {it : NW} : ∀ {l : List NW}, nwX S l → it ∈ l → (match lookS S it.nX with
    | some ⟨_, [], .v x⟩ => x = .agg it.cells
    | _ => False)
  | x :: l, h, hm => by
    rcases List.mem_cons.1 hm with e | h2
    · subst e; exact h.1
    · exact nwX_at h.2 h2
theorem setsN_mono {f : Nat → Value} : ∀ {ns : List Nat} {l : List Value} {k k' : List Value → Prop}, (∀ l, k l → k' l) → setsN f ns l k → setsN f ns l k'
  | [], l, k, k', h, g => h l g
  | n :: ns, l, k, k', h, g => by
    unfold setsN at g ⊢
    exact setsN_mono (fun l' hl' => by rw [setN_eq] at hl' ⊢; exact h _ hl') g
theorem spec_nw {J : (Nat → Option Value) → World → Prop} {C : World → Prop} {sp : List Nat} {ops : List Oper} {Q : Exit → Act → World → Prop} {S : List Ent} : ∀ {l : List Nat}, (∀ i ∈ l, SpecAt a0 E C J sp ops Q S i) → SpecL a0 E C J sp ops Q S l
  | [], _ => trivial
  | i :: l, h => ⟨h i (List.mem_cons_self ..), spec_nw fun j hj => h j (List.mem_cons_of_mem _ hj)⟩
def evNw (a0 : Act) (E : List Ob) (W : World) (ops : List Oper) (its : List NW) (outs : List (Nat × Value)) (Q : Act → World → Prop) (S : List Ent) : Prop :=
  nwX S its ∧ ∀ (f : Nat → Value), match a0 with
    | ⟨⟨l⟩, d⟩ => finS E outs f S l fun l' => setsN f (spD (nwSp its) 0 ops) l' fun l'' => ∀ w', Below W.heap.size W w' → (∀ it ∈ its, ∃ b, f it.nA = .pointer (some ⟨b, 0, none⟩) ∧ W.heap.size ≤ b ∧ ObjAt w' b it.cells it.ty) → Q ⟨l''.toArray, d⟩ w'
/-- what is told of one -/
structure NWOK (ops : List Oper) (it : NW) : Prop where
  hA : ∃ o, ops[it.A]? = some o ∧ o.op = .alloc it.ty ∧ o.dst = some it.nA
  hB : ∃ o, ops[it.B]? = some o ∧ o.op = .store it.ty (.tmp it.nA) (.tmp it.nX) ∧ o.dst = none ∧ ∃ e ∈ o.after, e.on = it.A ∧ Region.binds .any e = true
  halloc : ∀ w, (Instr.alloc it.ty true (.tuple #[])).run Tryz.prog w = .ok (.pointer (some ⟨w.heap.size, 0, none⟩)) (w.alloc (.cells it.zero it.ty))
  hi : (Tryz.prog.info? it.ty).map (·.size) = some it.cells.size
  hzs : it.zero.size = it.cells.size
  hone : it.cells.all (·.oneCell') = true
theorem wp_region_nw {id : Nat} {Q : Exit → Act → World → Prop} {w : World} {ops : List Oper} (T : QTab) (hT : T.Ok) (E : List Ob) (ps : List (Nat × Nat)) (hs : List (Nat × Hint)) (outs : List (Nat × Value))
    (its : List NW)
    (hz : (ops.all fun o => match o.dst with | some n => decide (n < a0.tmps.size) | none => true) = true) (hm : Tryz.prog.follows .mixedOrders = true)
    (hst : (ordB ops.toArray && nodB (dstsL ops) && chkB ops.toArray (quietL (nwSp its) 0 ops) && depB (nwSp its) ops.toArray) = true)
    (hnd : (nwSp its).Nodup)
    (hits : ∀ it ∈ its, NWOK ops it)
    (hE : ObsIn (Below w.heap.size w) E) (P : psOk a0 E ps)
    (h : evL a0 ps T E (Below w.heap.size w) (fun u u' => Below u.heap.size u u') hs ops (evNw a0 E w ops its outs (Q .normal)) (quietL (nwSp its) 0 ops) []) : (Code.region id ops.toArray true).wp Tryz.prog Q a0 w := by
  have hst' := hst
  simp only [Bool.and_eq_true] at hst'
  obtain ⟨⟨⟨s1, s2⟩, s3⟩, s4⟩ := hst'
  -- which operation is whose
  have key : ∀ it ∈ its, ∀ jt ∈ its, (it.A = jt.A → it = jt) ∧ (it.B = jt.B → it = jt) ∧ it.A ≠ jt.B := by
    clear hits h hst s3 s4
    induction its with
    | nil => intro it hit; cases hit
    | cons x l ih =>
      have hnd' := hnd
      unfold nwSp at hnd'
      rw [List.nodup_cons, List.nodup_cons] at hnd'
      obtain ⟨n1, n2, n3⟩ := hnd'
      rw [List.mem_cons, not_or] at n1
      have hx : ∀ jt ∈ l, x.A ≠ jt.A ∧ x.A ≠ jt.B ∧ x.B ≠ jt.A ∧ x.B ≠ jt.B := fun jt hj => ⟨fun e => n1.2 (mem_nwSp.2 ⟨jt, hj, .inl e⟩), fun e => n1.2 (mem_nwSp.2 ⟨jt, hj, .inr e⟩), fun e => n2 (mem_nwSp.2 ⟨jt, hj, .inl e⟩), fun e => n2 (mem_nwSp.2 ⟨jt, hj, .inr e⟩)⟩
      intro it hit jt hjt
      rcases List.mem_cons.1 hit with e | hit2 <;> rcases List.mem_cons.1 hjt with e' | hjt2
      · subst e; subst e'; exact ⟨fun _ => rfl, fun _ => rfl, n1.1⟩
      · subst e; have := hx jt hjt2; exact ⟨fun e => absurd e this.1, fun e => absurd e this.2.2.2, this.2.1⟩
      · subst e'; have := hx it hit2; exact ⟨fun e => absurd e.symm this.1, fun e => absurd e.symm this.2.2.2, fun e => this.2.2.1 e.symm⟩
      · exact ih n3 it hit2 jt hjt2
  have hsub : ∀ o ∈ quietL (nwSp its) 0 ops, o ∈ ops := fun o ho => by obtain ⟨k, hk, _⟩ := mem_quietL ho; exact List.mem_of_getElem? hk
  obtain ⟨S, H, af, I, ⟨h1, h2⟩, f1, f2, f3⟩ := evL_fin P hT hE hz _ [] [] a0 hsub s3 InvQ.start h
  refine mix_core (nwSp its) E (Below w.heap.size w) (fun u u' => Below u.heap.size u u') outs (NWJ its w.heap.size) hz hm hst ((Below.refl _ _).drew) ⟨fun it _ => ⟨fun _ => rfl, fun v hv => by cases hv⟩, fun it _ jt _ _ b c hv => by cases hv⟩ (fun u u' h1 h2 => h1.trans (h2.mono h1.size)) (fun u _ => Below.refl _ _) (fun s u u' h1 h2 h3 => ⟨fun it hit => ⟨(h2.1 it hit).1, fun v hv => ?_⟩, h2.2⟩) I ⟨spec_nw fun i hi => ?_, fun f s hsv => ?_⟩ f1 f2 f3
  · obtain ⟨b, e1, e2, e3⟩ := (h2.1 it hit).2 v hv
    exact ⟨b, e1, e2, e3.keep h3⟩
  · obtain ⟨it, hit, hi'⟩ := mem_nwSp.1 hi
    have hO := hits it hit
    obtain ⟨oA, hA1, hA2, hA3⟩ := hO.hA
    obtain ⟨oB, hB1, hB2, hB3, eB, hB4, hB5, hB6⟩ := hO.hB
    have hAB : it.A ≠ it.B := (key it hit it hit).2.2
    rcases hi' with e | e
    · -- it is made
      subst e
      intro o a u s ho hC hJ hn _ _ hdep K hK
      rw [hA1] at ho; cases ho
      refine wp_of_run (v := .pointer (some ⟨u.heap.size, 0, none⟩)) (w' := u.alloc (.cells it.zero it.ty)) ?_ ?_
      · unfold execOp; simp only [hA2, Sem.run_bind, hO.halloc]; rfl
      · have hsB : s it.B = none := (hJ.1 it hit).1 hn
        refine hK _ _ (hC.alloc hC.size _) ⟨fun jt hjt => ?_, fun jt hjt kt hkt hne b c hb hc => ?_⟩
        · by_cases e : jt.A = it.A
          · have e' := (key jt hjt it hit).1 e
            subst e'
            refine ⟨fun h => (by rw [updS_same] at h; cases h), fun v hv => ?_⟩
            rw [updS_same] at hv; cases hv
            refine ⟨_, rfl, hC.size, ?_⟩
            rw [updS_other (Ne.symm hAB), hsB]
            exact ObjAt.new u _ _
          · have e2 : jt.B ≠ it.A := fun e2 => (key it hit jt hjt).2.2 e2.symm
            rw [updS_other e, updS_other e2]
            refine ⟨(hJ.1 jt hjt).1, fun v hv => ?_⟩
            obtain ⟨b, b1, b2, b3⟩ := (hJ.1 jt hjt).2 v hv
            exact ⟨b, b1, b2, b3.alloc _⟩
        · have fresh : ∀ qt ∈ its, ∀ d, s qt.A = some (.pointer (some ⟨d, 0, none⟩)) → d < u.heap.size := fun qt hqt d hd => by
            obtain ⟨b', b1, _, b3⟩ := (hJ.1 qt hqt).2 _ hd
            simp only [Value.pointer.injEq, Option.some.injEq, Addr.mk.injEq, and_true] at b1
            subst b1
            exact b3.lt
          by_cases e : jt.A = it.A
          · rw [e, updS_same] at hb
            simp only [Option.some.injEq, Value.pointer.injEq, Addr.mk.injEq, and_true] at hb
            have e2 : kt.A ≠ it.A := fun e2 => hne (e.trans e2.symm)
            rw [updS_other e2] at hc
            have := fresh kt hkt c hc
            omega
          · rw [updS_other e] at hb
            by_cases e2 : kt.A = it.A
            · rw [e2, updS_same] at hc
              simp only [Option.some.injEq, Value.pointer.injEq, Addr.mk.injEq, and_true] at hc
              have := fresh jt hjt b hb
              omega
            · rw [updS_other e2] at hc
              exact hJ.2 jt hjt kt hkt hne b c hb hc
    · -- it is written
      subst e
      intro o a u s ho hC hJ hn hq hold hdep K hK
      rw [hB1] at ho; cases ho
      obtain ⟨v, v1, v2⟩ := hdep eB hB4 hB6 (by rw [hB5]; simpa using mem_nwSp.2 ⟨it, hit, .inl rfl⟩)
      rw [hB5] at v1 v2
      obtain ⟨b, e1, e2, e3⟩ := (hJ.1 it hit).2 v v1
      have hx : a.eval (.tmp it.nX) = .agg it.cells := by
        have h1' := nwX_at h1 hit
        split at h1'
        · rename_i m x hl
          subst h1'
          exact hq it.nX (by unfold Oper.looksAt; rw [hB2]; simp [Op.operands]) _ hl rfl
        · cases h1'
      have hp : a.eval (.tmp it.nA) = .pointer (some ⟨b, 0, none⟩) := (v2 oA it.nA hA1 hA3).trans e1
      rw [hn] at e3
      have e3' : ObjAt u b it.zero it.ty := e3
      refine wp_of_skip (w' := u.setRow b it.cells) ?_ ?_
      · unfold execOp
        simp only [hB2, Sem.run_bind, hp, hx, Instr.storeAt, Instr.sureAddr, Sem.run_pure, Result.andThen_ok, run_storeVar_row (P := Tryz.prog) u b it.ty it.ty it.zero it.cells e3' hO.hi hO.hzs hO.hone]
      · refine hK _ _ (below_setRow hC e2 _) ⟨fun jt hjt => ?_, fun jt hjt kt hkt hne b c hb hc => ?_⟩
        · have ejA : jt.A ≠ it.B := (key jt hjt it hit).2.2
          rw [updS_other ejA]
          by_cases e : jt.A = it.A
          · have e' := (key jt hjt it hit).1 e
            subst e'
            refine ⟨fun h => (by rw [v1] at h; cases h), fun v' hv' => ?_⟩
            rw [v1] at hv'; cases hv'
            refine ⟨b, e1, e2, ?_⟩
            rw [updS_same]
            exact setRow_heap _ _ _ _ _ _ e3'
          · have ejB : jt.B ≠ it.B := fun e4 => e (congrArg NW.A ((key jt hjt it hit).2.1 e4))
            rw [updS_other ejB]
            refine ⟨(hJ.1 jt hjt).1, fun v' hv' => ?_⟩
            obtain ⟨b', b1, b2, b3⟩ := (hJ.1 jt hjt).2 v' hv'
            refine ⟨b', b1, b2, ?_⟩
            have hne : b' ≠ b := hJ.2 jt hjt it hit e b' b (by rw [hv', b1]) (by rw [v1, e1])
            exact (setRow_other u b b' it.cells hne).trans b3
        · rw [updS_other ((key jt hjt it hit).2.2)] at hb
          rw [updS_other ((key kt hkt it hit).2.2)] at hc
          exact hJ.2 jt hjt kt hkt hne b c hb hc
  · obtain ⟨⟨l⟩, d⟩ := a0
    dsimp only at h2 ⊢
    refine finS_mono (fun l' hl' => ?_) (h2 f)
    refine setsN_mono (fun l'' hl'' => ?_) hl'
    intro w' hC hJ
    refine hl'' w' hC fun it hit => ?_
    have hO := hits it hit
    obtain ⟨oA, hA1, hA2, hA3⟩ := hO.hA
    obtain ⟨oB, hB1, _⟩ := hO.hB
    obtain ⟨v, v1, v2⟩ := hsv it.A (by simpa using mem_nwSp.2 ⟨it, hit, .inl rfl⟩) oA hA1
    obtain ⟨vB, vB1, _⟩ := hsv it.B (by simpa using mem_nwSp.2 ⟨it, hit, .inr rfl⟩) oB hB1
    obtain ⟨b', e1, e2, e3⟩ := (hJ.1 it hit).2 v v1
    rw [vB1] at e3
    exact ⟨b', (v2 it.nA hA3).symm.trans e1, e2, e3⟩
end
end Go.Proofs.YtfmhickjefogdaaGreat

/- Polygons of the reference: near, simple, Check (printed by wip/gen_gmb.py). -/
namespace Go.Proofs.YtfmhickjefogdaaGreat
open Go.RowKit

theorem alloc_point : ∀ w, (Instr.alloc 37 true (.tuple #[])).run Tryz.prog w = .ok (.pointer (some ⟨w.heap.size, 0, none⟩)) (w.alloc (.cells #[.int .i64 0, .int .i64 0] 37)) := fun w => by go_simp
theorem pt_one (a : Pnt) : (ptA a).all (·.oneCell') = true := by simp [ptA, Value.oneCell']
theorem wrapN {n : Nat} (h : n ≤ 1000000) : IntKind.i64.wrap ((n : Nat) : Int) = (n : Int) := IntWalk.i64_in (n : Int) (by omega)
theorem modix1 {i n : Nat} (hi : i ≤ 900000) : (IntKind.i64.wrap ((i : Int) + 1)).tmod (n : Int) = (((i + 1) % n : Nat) : Int) := by
  rw [show ((i : Int) + 1) = ((i + 1 : Nat) : Int) from by omega, wrapN (by omega)]
  rw [Int.tmod_eq_emod_of_nonneg (by omega)]
  exact (Int.natCast_emod _ _).symm
theorem modix2 {i n : Nat} (hi : i ≤ 900000) : (IntKind.i64.wrap ((i : Int) + 2)).tmod (n : Int) = (((i + 2) % n : Nat) : Int) := by
  rw [show ((i : Int) + 2) = ((i + 2 : Nat) : Int) from by omega, wrapN (by omega)]
  rw [Int.tmod_eq_emod_of_nonneg (by omega)]
  exact (Int.natCast_emod _ _).symm
def nx2 (l : List Pnt) (i : Nat) : Pnt := pti l ((i + 2) % l.length)
def ptEq (a b : Pnt) : Bool := a.x == b.x && a.y == b.y
def nearL (l : List Pnt) : Bool := l.all nearP
structure Simp (l : List Pnt) : Prop where
  a : ∀ i k, k < i → i < l.length → ptEq (pti l i) (pti l k) = false
  b : ∀ i, i < l.length → (onP (pti l i) (nxt l i) (nx2 l i) || onP (nx2 l i) (pti l i) (nxt l i)) = false
  c : ∀ i k, i + 2 ≤ k → k < l.length → (decide ((k + 1) % l.length ≠ i) && meetP (pti l i) (nxt l i) (pti l k) (nxt l k)) = false
noncomputable def simpB (l : List Pnt) : Bool := @decide (Simp l) (Classical.propDecidable _)
theorem simpB_true {l : List Pnt} (h : Simp l) : simpB l = true := @decide_eq_true _ (Classical.propDecidable _) h
theorem simpB_false {l : List Pnt} (h : ¬ Simp l) : simpB l = false := @decide_eq_false _ (Classical.propDecidable _) h
noncomputable def pchkL (l : List Pnt) : Int := if l.length < 3 then 3 else if 32 < l.length then 4 else if nearL l = false then 9 else if simpB l = false then 17 else 0
theorem eql_pt (a b : Pnt) (t : TypeId) (x y : Operand) (w : World) (ht : t = 37) : (eqGuard .eql t x y (ptV a) (ptV b)).run Tryz.prog w = .ok () w ∧ (binOp .eql t (ptV a) (ptV b)).run Tryz.prog w = .ok (.bool (ptEq a b)) w := by
  subst ht
  unfold ptV ptEq
  refine ⟨by go_simp, ?_⟩
  go_simp
  split
  · split <;> simp_all
  · simp_all
theorem cell_pt {w : World} {b off : Nat} {x : Pnt} (h : PtAt w b off x) : w.rangeAt b off (ptCells x) := pt_range h
set_option maxRecDepth 100000 in
theorem rnear_any (v : Value) (l : List Pnt) (w : World) (h : SPt w v l) (hl : l.length ≤ 1000000) : Calls Tryz.prog 91 #[v] w (Ret w (.bool (nearL l))) := by
  obtain ⟨pa, pc, rfl, k1, k2, k3⟩ := h
  have K3 := Lib.hid k3
  clear k3
  have hm : l.length ≤ 9223372036854775807 := by omega
  go_enter Tryz.func91, Tryz.ntmps91
  go_wp2_with fail
  go_loopw [3] (fun i wr => ∃ k : Nat, k ≤ l.length ∧ i = .int .i64 k ∧ Hid (Below w.heap.size w wr) ∧ Hid (∀ j, j < k → nearP (pti l j) = true)) (fun i _ => l.length - (intOf i).toNat)
  case atStart => exact ⟨0, Nat.zero_le _, rfl, Below.refl _ _, fun j hj => by omega⟩
  case round =>
    obtain ⟨k, hk, rfl, hb, ha⟩ := hrel
    by_cases hlt : k < l.length
    · obtain ⟨pb, po, rfl, hc⟩ := K3.out k hlt
      have HC := Lib.hid (hc.keep hb.out)
      have i1 : (k : Int) < l.length := by omega
      clear hc
      go_upto_region 4 with fail
      refine wp_region_et gmT gmT_ok [⟨pb, po + k * 2, ptCells (pti l k)⟩] (Below wr.heap.size wr) [] [(12, .ix k 0), (14, .ret (.bool (nearP (pti l k))))] [(15, .bool (!nearP (pti l k)))] (by kernel_rfl) (Below.refl _ _)
        (obsC (fun u hu => rangeKeep (pt_range HC.out) hu) obsN) trivial ?_
      conv => whnf
      refine And.intro (under_of ⟨rfl, hlt, rfl, rfl⟩) ?_
      conv => whnf
      refine And.intro (Nat.le_of_ble_eq_true rfl) ?_
      conv => whnf
      refine And.intro (under_of fun u hu => ret_in (rNear_any (pti l k) u) hu) ?_
      conv => whnf
      intro f1
      conv => whnf
      refine And.intro (rfl) ?_
      conv => whnf
      intro w2 h2
      have HB2 := Lib.hid (ext_trans hb.out h2)
      clear h2
      obtain ⟨z, hz⟩ : ∃ z, nearP (pti l k) = z := ⟨_, rfl⟩
      have HZ := Lib.hid hz
      rw [hz]
      clear hz
      cases z
      · have HN : Hid (nearL l = false) := by
          show _ = _
          unfold nearL
          rw [List.all_eq_false]
          exact ⟨pti l k, pti_mem hlt, by rw [HZ.out]; decide⟩
        go_wp2_with fail
        go_ret
        exact ⟨ret_bool HN.out.symm, HB2.out⟩
      · have HA : Hid (∀ j, j < k + 1 → nearP (pti l j) = true) := fun j hj => by
          by_cases e : j = k
          · subst e; exact HZ.out
          · exact ha.out j (by omega)
        go_wp2_with fail
        go_roundw
        case rel => exact ⟨k + 1, by omega, by go_num, HB2, HA⟩
        case measure => simp [intOf]; omega
    · have i1 : ¬ (k : Int) < l.length := by omega
      have HN : Hid (nearL l = true) := by
        show _ = _
        unfold nearL
        rw [List.all_eq_true]
        intro x hx
        obtain ⟨j, hj, rfl⟩ := mem_pti hx
        exact ha.out j (by omega)
      go_wp2_with fail
      go_ret
      exact ⟨ret_bool HN.out.symm, hb.out⟩
set_option maxRecDepth 100000 in
set_option maxHeartbeats 1000000 in
theorem rsimple_any (v : Value) (l : List Pnt) (w : World) (h : SPt w v l) (hl : l.length ≤ 100000) : Calls Tryz.prog 92 #[v] w (Ret w (.bool (simpB l))) := by
  obtain ⟨pa, pc, rfl, k1, k2, k3⟩ := h
  have K3 := Lib.hid k3
  clear k3
  have hm : l.length ≤ 9223372036854775807 := by omega
  go_enter Tryz.func92, Tryz.ntmps92
  go_wp2_with fail
  go_loopw [4] (fun i wr => ∃ k : Nat, k ≤ l.length ∧ i = .int .i64 k ∧ Hid (Below w.heap.size w wr) ∧ Hid (∀ i k', k' < i → i < k → ptEq (pti l i) (pti l k') = false)) (fun i _ => l.length - (intOf i).toNat)
  case atStart => exact ⟨0, Nat.zero_le _, rfl, Below.refl _ _, fun i k' h1 h2 => by omega⟩
  case round =>
    obtain ⟨i, hi, rfl, hb, ha⟩ := hrel
    by_cases hlt : i < l.length
    · have i1 : (i : Int) < l.length := by omega
      go_wp2_with fail
      go_loopw [5] (fun i2 wr2 => ∃ k : Nat, k ≤ i ∧ i2 = .int .i64 k ∧ Hid (Below w.heap.size w wr2) ∧ Hid (∀ k', k' < k → ptEq (pti l i) (pti l k') = false)) (fun i2 _ => i - (intOf i2).toNat)
      case atStart => exact ⟨0, Nat.zero_le _, rfl, hb, fun k' h1 => by omega⟩
      case round =>
        obtain ⟨k, hk, rfl, hb2, ha2⟩ := hrel
        by_cases hlt2 : k < i
        · obtain ⟨pb, po, rfl, hc⟩ := K3.out i hlt
          obtain ⟨pb', po', e', hc'⟩ := K3.out k (by omega)
          cases e'
          have HC := Lib.hid (hc.keep hb2.out)
          have HC' := Lib.hid (hc'.keep hb2.out)
          have i2 : (k : Int) < i := by omega
          clear hc hc'
          go_upto_region 8 with fail
          refine wp_region_ev gmT gmT_ok [⟨pb, po + i * 2, ptCells (pti l i)⟩, ⟨pb, po + k * 2, ptCells (pti l k)⟩] (Below wr.heap.size wr) [] [(25, .ix i 0), (29, .ix k 1), (31, .ret (.bool (ptEq (pti l i) (pti l k))))] [(31, .bool (ptEq (pti l i) (pti l k)))] (by kernel_rfl) mixed (by kernel_rfl) ((Below.refl _ _).drew)
            (obsC (fun u hu => rangeKeep (pt_range HC.out) hu) (obsC (fun u hu => rangeKeep (pt_range HC'.out) hu) obsN)) trivial ?_
          conv => whnf
          refine And.intro (under_of ⟨rfl, hlt, rfl, rfl⟩) ?_
          conv => whnf
          refine And.intro (Nat.le_of_ble_eq_true rfl) ?_
          conv => whnf
          refine And.intro (under_of ⟨rfl, by omega, rfl, rfl⟩) ?_
          conv => whnf
          refine And.intro (Nat.le_of_ble_eq_true rfl) ?_
          conv => whnf
          refine And.intro (under_of fun x y w => eql_pt (pti l i) (pti l k) _ x y w rfl) ?_
          conv => whnf
          intro f1
          conv => whnf
          refine And.intro (rfl) ?_
          conv => whnf
          intro w2 h2
          have HB2 := Lib.hid (ext_trans hb2.out h2)
          clear h2
          obtain ⟨z, hz⟩ : ∃ z, ptEq (pti l i) (pti l k) = z := ⟨_, rfl⟩
          have HZ := Lib.hid hz
          rw [hz]
          clear hz
          cases z
          rotate_left
          · have HN : Hid (simpB l = false) := simpB_false fun h => by have := h.a i k hlt2 hlt; rw [HZ.out] at this; cases this
            go_wp2_with fail
            go_ret
            exact ⟨ret_bool HN.out.symm, HB2.out⟩
          · have HA : Hid (∀ k', k' < k + 1 → ptEq (pti l i) (pti l k') = false) := fun k' h => by
              by_cases e : k' = k
              · subst e; exact HZ.out
              · exact ha2.out k' (by omega)
            go_wp2_with fail
            go_roundw
            case rel => exact ⟨k + 1, by omega, by go_num, HB2, HA⟩
            case measure => simp [intOf]; omega
        · have i2 : ¬ (k : Int) < i := by omega
          have HA : Hid (∀ i' k', k' < i' → i' < i + 1 → ptEq (pti l i') (pti l k') = false) := fun i' k' h1 h2 => by
            by_cases e : i' = i
            · subst e; exact ha2.out k' (by omega)
            · exact ha.out i' k' h1 (by omega)
          go_wp2_with fail
          go_roundw
          case rel => exact ⟨i + 1, by omega, by go_num, hb2, HA⟩
          case measure => simp [intOf]; omega
    · have i1 : ¬ (i : Int) < l.length := by omega
      have HE : Hid (∀ i k, k < i → i < l.length → ptEq (pti l i) (pti l k) = false) := fun i' k' h1 h2 => ha.out i' k' h1 (by omega)
      have HB1 := hb
      go_wp2_with fail
      clear ha hb hi i1 hlt
      go_loopw [6] (fun i wr => ∃ k : Nat, k ≤ l.length ∧ i = .int .i64 k ∧ Hid (Below w.heap.size w wr) ∧ Hid (∀ i, i < k → (onP (pti l i) (nxt l i) (nx2 l i) || onP (nx2 l i) (pti l i) (nxt l i)) = false) ∧ Hid (∀ i k', i < k → i + 2 ≤ k' → k' < l.length → (decide ((k' + 1) % l.length ≠ i) && meetP (pti l i) (nxt l i) (pti l k') (nxt l k')) = false)) (fun i _ => l.length - (intOf i).toNat)
      case atStart => exact ⟨0, Nat.zero_le _, rfl, HB1, fun i h => by omega, fun i k' h => by omega⟩
      case round =>
        obtain ⟨i, hi, rfl, hb, ha, hd⟩ := hrel
        by_cases hlt : i < l.length
        · have hn0 : 0 < l.length := by omega
          have m1 : (i + 1) % l.length < l.length := Nat.mod_lt _ hn0
          have m2 : (i + 2) % l.length < l.length := Nat.mod_lt _ hn0
          obtain ⟨pb, po, rfl, hc⟩ := K3.out i hlt
          obtain ⟨pb', po', e', hc'⟩ := K3.out _ m1
          cases e'
          obtain ⟨pb', po', e', hc''⟩ := K3.out _ m2
          cases e'
          have HC := Lib.hid (hc.keep hb.out)
          have HC1 := Lib.hid (hc'.keep hb.out)
          have HC2 := Lib.hid (hc''.keep hb.out)
          have i1 : (i : Int) < l.length := by omega
          clear hc hc' hc''
          go_upto_region 13 with fail
          refine wp_region_nw gmT gmT_ok [⟨pb, po + i * 2, ptCells (pti l i)⟩, ⟨pb, po + (i + 1) % l.length * 2, ptCells (nxt l i)⟩, ⟨pb, po + (i + 2) % l.length * 2, ptCells (nx2 l i)⟩] [] [(39, .ix i 0), (46, .ix ((i + 1) % l.length) 1), (53, .ix ((i + 2) % l.length) 2)] [] [⟨18, 21, 7, 40, 37, #[.int .i64 0, .int .i64 0], ptA (pti l i)⟩, ⟨19, 22, 8, 47, 37, #[.int .i64 0, .int .i64 0], ptA (nxt l i)⟩, ⟨20, 23, 9, 54, 37, #[.int .i64 0, .int .i64 0], ptA (nx2 l i)⟩]
            (by kernel_rfl) mixed (by kernel_rfl) (by show ([18, 21, 19, 22, 20, 23] : List Nat).Nodup; decide) ?_ (obsC (fun u hu => rangeKeep (pt_range HC.out) hu) (obsC (fun u hu => rangeKeep (pt_range HC1.out) hu) (obsC (fun u hu => rangeKeep (pt_range HC2.out) hu) obsN))) trivial ?_
          · exact List.forall_mem_cons.2 ⟨⟨⟨_, rfl, rfl, rfl⟩, ⟨_, rfl, rfl, rfl, ⟨18, .data⟩, by simp, rfl, rfl⟩, alloc_point, by kernel_rfl, rfl, pt_one _⟩, List.forall_mem_cons.2 ⟨⟨⟨_, rfl, rfl, rfl⟩, ⟨_, rfl, rfl, rfl, ⟨19, .data⟩, by simp, rfl, rfl⟩, alloc_point, by kernel_rfl, rfl, pt_one _⟩, List.forall_mem_cons.2 ⟨⟨⟨_, rfl, rfl, rfl⟩, ⟨_, rfl, rfl, rfl, ⟨20, .data⟩, by simp, rfl, rfl⟩, alloc_point, by kernel_rfl, rfl, pt_one _⟩, fun p hp => by cases hp⟩⟩⟩
          conv => whnf
          refine And.intro (under_of ⟨rfl, hlt, rfl, rfl⟩) ?_
          conv => whnf
          refine And.intro (Nat.le_of_ble_eq_true rfl) ?_
          conv => whnf
          refine And.intro (under_of (by omega)) ?_
          conv => whnf
          refine And.intro (under_of ⟨modix1 (by omega), m1, rfl, rfl⟩) ?_
          conv => whnf
          refine And.intro (Nat.le_of_ble_eq_true rfl) ?_
          conv => whnf
          refine And.intro (under_of (by omega)) ?_
          conv => whnf
          refine And.intro (under_of ⟨modix2 (by omega), m2, rfl, rfl⟩) ?_
          conv => whnf
          refine And.intro (Nat.le_of_ble_eq_true rfl) ?_
          conv => whnf
          refine And.intro ⟨rfl, rfl, rfl, trivial⟩ ?_
          intro f1
          conv => whnf
          intro w2 h2 hnw2
          obtain ⟨b7, e7, g7, o7⟩ := hnw2 _ (.head _)
          obtain ⟨b8, e8, g8, o8⟩ := hnw2 _ (.tail _ (.head _))
          obtain ⟨b9, e9, g9, o9⟩ := hnw2 _ (.tail _ (.tail _ (.head _)))
          dsimp only at e7
          rw [e7]
          dsimp only at e8
          rw [e8]
          dsimp only at e9
          rw [e9]
          clear hnw2 e7 e8 e9
          have HB2 := Lib.hid (ext_trans hb.out h2)
          have O7 := Lib.hid o7
          have O8 := Lib.hid o8
          have O9 := Lib.hid o9
          clear h2 g7 g8 g9 o7 o8 o9
          go_upto_region 14 with fail
          refine wp_region_et gmT gmT_ok [⟨b7, 0, (ptA (pti l i)).toList⟩, ⟨b8, 0, (ptA (nxt l i)).toList⟩, ⟨b9, 0, (ptA (nx2 l i)).toList⟩] (Below w2.heap.size w2) [(7, 0), (8, 1), (9, 2)] [(58, .ret (.bool (onP (pti l i) (nxt l i) (nx2 l i)))), (63, .ret (.bool (onP (nx2 l i) (pti l i) (nxt l i))))] [(64, .bool (onP (pti l i) (nxt l i) (nx2 l i) || onP (nx2 l i) (pti l i) (nxt l i)))] (by kernel_rfl) (Below.refl _ _)
            (obsC (fun u hu => rangeKeep (range_new O7.out) hu) (obsC (fun u hu => rangeKeep (range_new O8.out) hu) (obsC (fun u hu => rangeKeep (range_new O9.out) hu) obsN))) ⟨rfl, rfl, rfl, trivial⟩ ?_
          conv => whnf
          refine And.intro (Nat.le_of_ble_eq_true rfl) ?_
          conv => whnf
          refine And.intro (Nat.le_of_ble_eq_true rfl) ?_
          conv => whnf
          refine And.intro (Nat.le_of_ble_eq_true rfl) ?_
          conv => whnf
          refine And.intro (under_of fun u hu => ret_in (rOn_any _ _ _ u) hu) ?_
          conv => whnf
          refine And.intro (Nat.le_of_ble_eq_true rfl) ?_
          conv => whnf
          refine And.intro (Nat.le_of_ble_eq_true rfl) ?_
          conv => whnf
          refine And.intro (Nat.le_of_ble_eq_true rfl) ?_
          conv => whnf
          refine And.intro (under_of fun u hu => ret_in (rOn_any _ _ _ u) hu) ?_
          conv => whnf
          intro f2
          conv => whnf
          refine And.intro (rfl) ?_
          conv => whnf
          intro w3 h3
          have HB3 := Lib.hid (ext_trans HB2.out h3)
          have O73 := Lib.hid (O7.out.keep h3)
          have O83 := Lib.hid (O8.out.keep h3)
          clear h3 O7 O8 O9
          obtain ⟨z, hz⟩ : ∃ z, (onP (pti l i) (nxt l i) (nx2 l i) || onP (nx2 l i) (pti l i) (nxt l i)) = z := ⟨_, rfl⟩
          have HZ := Lib.hid hz
          rw [hz]
          clear hz
          cases z
          rotate_left
          · have HN : Hid (simpB l = false) := simpB_false fun h => by have := h.b i hlt; rw [HZ.out] at this; cases this
            go_wp2_with fail
            go_ret
            exact ⟨ret_bool HN.out.symm, HB3.out⟩
          have HA : Hid (∀ i', i' < i + 1 → (onP (pti l i') (nxt l i') (nx2 l i') || onP (nx2 l i') (pti l i') (nxt l i')) = false) := fun i' h => by
            by_cases e : i' = i
            · subst e; exact HZ.out
            · exact ha.out i' (by omega)
          have HD := hd
          clear HZ ha hd
          go_wp2_with fail
          go_loopw [10] (fun i2 wr2 => ∃ k : Nat, i + 2 ≤ k ∧ k ≤ l.length + 1 ∧ i2 = .int .i64 k ∧ Hid (Below w3.heap.size w3 wr2) ∧ Hid (∀ k', i + 2 ≤ k' → k' < k → (decide ((k' + 1) % l.length ≠ i) && meetP (pti l i) (nxt l i) (pti l k') (nxt l k')) = false)) (fun i2 _ => l.length + 1 - (intOf i2).toNat)
          case atStart => exact ⟨i + 2, Nat.le_refl _, by omega, by go_num, Below.refl _ _, fun k' h1 h2 => by omega⟩
          case round =>
            obtain ⟨k, hk0, hk, rfl, hb4, ha4⟩ := hrel
            have HBW := Lib.hid (ext_trans HB3.out hb4.out)
            by_cases hlt2 : k < l.length
            · have m3 : (k + 1) % l.length < l.length := Nat.mod_lt _ hn0
              obtain ⟨pb', po', e', hc⟩ := K3.out k hlt2
              cases e'
              obtain ⟨pb', po', e', hc'⟩ := K3.out _ m3
              cases e'
              have HK := Lib.hid (hc.keep HBW.out)
              have HK1 := Lib.hid (hc'.keep HBW.out)
              have O74 := Lib.hid (O73.out.keep hb4.out)
              have O84 := Lib.hid (O83.out.keep hb4.out)
              have i2 : (k : Int) < l.length := by omega
              clear hc hc'
              go_upto_region 19 with fail
              refine wp_region_ev gmT gmT_ok [⟨b7, 0, (ptA (pti l i)).toList⟩, ⟨b8, 0, (ptA (nxt l i)).toList⟩, ⟨pb, po + k * 2, ptCells (pti l k)⟩, ⟨pb, po + (k + 1) % l.length * 2, ptCells (nxt l k)⟩] (Below wr.heap.size wr) [(7, 0), (8, 1)] [(83, .ix k 2), (90, .ix ((k + 1) % l.length) 3), (92, .ret (.bool (meetP (pti l i) (nxt l i) (pti l k) (nxt l k))))] [(93, .bool (decide ((k + 1) % l.length ≠ i) && meetP (pti l i) (nxt l i) (pti l k) (nxt l k)))] (by kernel_rfl) mixed (by kernel_rfl) ((Below.refl _ _).drew)
                (obsC (fun u hu => rangeKeep (range_new O74.out) hu) (obsC (fun u hu => rangeKeep (range_new O84.out) hu) (obsC (fun u hu => rangeKeep (pt_range HK.out) hu) (obsC (fun u hu => rangeKeep (pt_range HK1.out) hu) obsN)))) ⟨rfl, rfl, trivial⟩ ?_
              conv => whnf
              refine And.intro (under_of (by omega)) ?_
              conv => whnf
              refine And.intro (Nat.le_of_ble_eq_true rfl) ?_
              conv => whnf
              refine And.intro (Nat.le_of_ble_eq_true rfl) ?_
              conv => whnf
              refine And.intro (under_of ⟨rfl, hlt2, rfl, rfl⟩) ?_
              conv => whnf
              refine And.intro (Nat.le_of_ble_eq_true rfl) ?_
              conv => whnf
              refine And.intro (under_of (by omega)) ?_
              conv => whnf
              refine And.intro (under_of ⟨modix1 (by omega), m3, rfl, rfl⟩) ?_
              conv => whnf
              refine And.intro (Nat.le_of_ble_eq_true rfl) ?_
              conv => whnf
              refine And.intro (under_of fun u hu => ret_in (rMeet_any _ _ _ _ u) hu) ?_
              conv => whnf
              intro f3
              conv => whnf
              refine And.intro (congrArg Value.bool (congrArg (· && _) (by rw [modix1 (by omega), Bool.eq_iff_iff, bne_iff_ne, decide_eq_true_eq]; omega))) ?_
              conv => whnf
              intro w5 h5
              have HB5 := Lib.hid (ext_trans HBW.out h5)
              have HB45 := Lib.hid (ext_trans hb4.out h5)
              clear h5
              obtain ⟨z, hz⟩ : ∃ z, (decide ((k + 1) % l.length ≠ i) && meetP (pti l i) (nxt l i) (pti l k) (nxt l k)) = z := ⟨_, rfl⟩
              have HZ := Lib.hid hz
              rw [hz]
              clear hz
              cases z
              rotate_left
              · have HN : Hid (simpB l = false) := simpB_false fun h => by have := h.c i k hk0 hlt2; rw [HZ.out] at this; cases this
                go_wp2_with fail
                go_ret
                exact ⟨ret_bool HN.out.symm, HB5.out⟩
              · have HA5 : Hid (∀ k', i + 2 ≤ k' → k' < k + 1 → (decide ((k' + 1) % l.length ≠ i) && meetP (pti l i) (nxt l i) (pti l k') (nxt l k')) = false) := fun k' h1 h2 => by
                  by_cases e : k' = k
                  · subst e; exact HZ.out
                  · exact ha4.out k' h1 (by omega)
                go_wp2_with fail
                go_roundw
                case rel => exact ⟨k + 1, by omega, by omega, by go_num, HB45, HA5⟩
                case measure => simp [intOf]; omega
            · have i2 : ¬ (k : Int) < l.length := by omega
              have HD2 : Hid (∀ i' k', i' < i + 1 → i' + 2 ≤ k' → k' < l.length → (decide ((k' + 1) % l.length ≠ i') && meetP (pti l i') (nxt l i') (pti l k') (nxt l k')) = false) := fun i' k' h1 h2 h3 => by
                by_cases e : i' = i
                · subst e; exact ha4.out k' h2 (by omega)
                · exact HD.out i' k' (by omega) h2 h3
              go_wp2_with fail
              go_roundw
              case rel => exact ⟨i + 1, by omega, by go_num, HBW, HA, HD2⟩
              case measure => simp [intOf]; omega
        · have i1 : ¬ (i : Int) < l.length := by omega
          have HN : Hid (simpB l = true) := simpB_true ⟨HE.out, fun i' h => ha.out i' (by omega), fun i' k' h1 h2 => hd.out i' k' (by omega) h1 h2⟩
          go_wp2_with fail
          go_ret
          exact ⟨ret_bool HN.out.symm, hb.out⟩
set_option maxRecDepth 100000 in
theorem rChk12_any (v : Value) (l : List Pnt) (w : World) (h : SPt w v l) : Calls Tryz.prog 62 #[v] w (Ret w (.int .i64 (pchkL l))) := by
  have HS := Lib.hid h
  have hlm := h.len
  obtain ⟨pa, pc, rfl, k1, k2, k3⟩ := h
  have hm : l.length ≤ 9223372036854775807 := by unfold maxLen at hlm; omega
  clear k3 hlm
  have HC : Hid (pchkL l = if l.length < 3 then 3 else if 32 < l.length then 4 else if nearL l = false then 9 else if simpB l = false then 17 else 0) := rfl
  by_cases h1 : l.length < 3
  · rw [if_pos h1] at HC
    have i1 : (l.length : Int) < 3 := by omega
    go_enter Tryz.func62, Tryz.ntmps62
    go_wp2_with fail
    go_ret
    exact ⟨ret_int HC.out.symm, Below.refl _ _⟩
  rw [if_neg h1] at HC
  have i1 : ¬ (l.length : Int) < 3 := by omega
  by_cases h2 : 32 < l.length
  · rw [if_pos h2] at HC
    have i2 : 32 < (l.length : Int) := by omega
    go_enter Tryz.func62, Tryz.ntmps62
    go_wp2_with fail
    go_ret
    exact ⟨ret_int HC.out.symm, Below.refl _ _⟩
  rw [if_neg h2] at HC
  have i2 : ¬ 32 < (l.length : Int) := by omega
  go_enter Tryz.func62, Tryz.ntmps62
  go_wp2_with fail
  refine (rnear_any _ l w HS.out (by omega)).mono ?_
  rintro e w1 ⟨rfl, hb1⟩
  have HB1 := Lib.hid hb1
  clear hb1
  cases hn : nearL l
  · rw [if_pos hn] at HC
    go_wp2_with fail
    go_ret
    exact ⟨ret_int HC.out.symm, HB1.out⟩
  have HN := Lib.hid hn
  rw [if_neg (by rw [hn]; decide)] at HC
  clear hn
  go_wp2_with fail
  refine (rsimple_any _ l w1 (HS.out.keep HB1.out) (by omega)).mono ?_
  rintro e w2 ⟨rfl, hb2⟩
  have HB2 := Lib.hid (ext_trans HB1.out hb2)
  clear hb2
  cases hn : simpB l
  · rw [if_pos hn] at HC
    go_wp2_with fail
    go_ret
    exact ⟨ret_int HC.out.symm, HB2.out⟩
  rw [if_neg (by rw [hn]; decide)] at HC
  go_wp2_with fail
  go_ret
  exact ⟨ret_int HC.out.symm, HB2.out⟩
end Go.Proofs.YtfmhickjefogdaaGreat
