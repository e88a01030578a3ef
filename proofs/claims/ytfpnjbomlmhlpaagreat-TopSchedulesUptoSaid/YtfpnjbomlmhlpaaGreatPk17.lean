/- A region that draws its order, in which what a call returns is appended to a slice of entries that a variable holds. -/
import Derived.Test.YtfpnjbomlmhlpaaGreatPk16
import Derived.Test.YtfpnjbomlmhlpaaGreatPk12
import Derived.Test.YtfpnjbomlmhlpaaGreatPk10
import Derived.Test.YtfpnjbomlmhlpaaGreatPk13
set_option linter.unusedSimpArgs false
set_option linter.unusedVariables false

/- The reference's parts: Check, Mass come back with numbers (printed by wip/gen_gml.py). -/
namespace Go.Proofs.YtfpnjbomlmhlpaaGreat
open Go.RowKit
theorem at_load {ops : Array Oper} {rest : List Oper} {a : Act} {w : World} {Q : Exit → Act → World → Prop} (n : Nat) (t : TypeId) {x : Operand} {ty : TypeId} {p : String} {af : Array _} {gd : Option _} (h : wpList Tryz.prog ops Q (⟨some n, .load t x, ty, p, af, gd⟩ :: rest) a w) : wpList Tryz.prog ops Q (⟨some n, .load t x, ty, p, af, gd⟩ :: rest) a w := h
theorem ag_part : gmAg 123 = some 18 := by kernel_rfl
theorem range_take {w : World} {b off : Nat} {l : List Value} (k : Nat) (h : w.rangeAt b off l) : w.rangeAt b off (l.take k) := fun j v hv => h j v (by
  rcases Nat.lt_or_ge j k with hj | hj
  · rw [List.getElem?_take_of_lt hj] at hv; exact hv
  · rw [List.getElem?_eq_none (by rw [List.length_take]; omega)] at hv; cases hv)

set_option maxRecDepth 100000 in
set_option maxHeartbeats 600000 in
theorem rChk16_any (x : Prt) (g s : Sv) (gs : List Grd) (cs : List Sct) (w : World) (h : PrtOK w x) (hM : MatOK w g s gs cs) (hgl : ∀ x ∈ gs, x.gauges.length ≤ 1000000) (hcl : cs.length ≤ 100000) (h1 : x.id.length ≤ 1100000) (h2 : x.node.length ≤ 1100000) : Calls Tryz.prog 56 #[.agg (prA x), .agg (matA g s)] w (RetN w) := by
  have HM := Lib.hid hM
  have HGL := Lib.hid hgl
  have HI1 := Lib.hid h1
  have HI2 := Lib.hid h2
  clear hM hgl h1 h2
  obtain ⟨id, rev, kd, nd, gr, th, ov, hv, sc, ln, ms, cx, cy, cz, ax, ay, az, tn, outer, holes, hvs⟩ := x
  have HX : Hid (PrtOK w ⟨id, rev, kd, nd, gr, th, ov, hv, sc, ln, ms, cx, cy, cz, ax, ay, az, tn, outer, holes, hvs⟩) := h
  have HP : Hid (ShpOK w ov hv outer holes hvs) := h.shp
  obtain ⟨oa, oc, rfl, o1, o2, _⟩ := HP.out.o
  obtain ⟨ha, hc, rfl, s1, s2, _⟩ := HP.out.hs
  clear h o1 s1
  unfold maxLen at o2 s2
  show Calls Tryz.prog 56 #[.agg #[.string (bs id), .int .i64 rev, .int .i64 kd, .string (bs nd), .string (bs gr), .int .i64 th, .slice oa outer.length oc, .slice ha hvs.length hc, .string (bs sc), .int .i64 ln, .int .i64 ms, .int .i64 cx, .int .i64 cy, .int .i64 cz, .int .i64 ax, .int .i64 ay, .int .i64 az, .int .i64 tn], .agg #[.slice g.a g.n g.c, .slice s.a s.n s.c]] w _
  obtain ⟨W1, HO1, HQ1, HB1, HW⟩ := two_box w #[.string (bs id), .int .i64 rev, .int .i64 kd, .string (bs nd), .string (bs gr), .int .i64 th, .slice oa outer.length oc, .slice ha hvs.length hc, .string (bs sc), .int .i64 ln, .int .i64 ms, .int .i64 cx, .int .i64 cy, .int .i64 cz, .int .i64 ax, .int .i64 ay, .int .i64 az, .int .i64 tn] #[.slice g.a g.n g.c, .slice s.a s.n s.c] 123 32
  go_enter Tryz.func56, Tryz.ntmps56
  go_upto_region 1 with fail
  rw [HW.out]
  clear HW
  refine wp_region_et gmT gmT_ok [⟨w.heap.size, 0, [.string (bs id), .int .i64 rev, .int .i64 kd, .string (bs nd)]⟩] (Below W1.heap.size W1) [(2, 0)] [(8, .ret (.bool (idB id))), (13, .ret (.bool (idB nd)))] [(15, .bool (!idB id || !idB nd))] (by kernel_rfl) (Below.refl _ _)
    (obsC (fun u hu => rangeKeep (range_take 4 (range_new HO1.out)) hu) obsN) ⟨rfl, trivial⟩ ?_
  conv => whnf
  refine And.intro (under_of fun u hu => ret_in (rId_any id u HI1.out) hu) ?_
  conv => whnf
  refine And.intro (under_of fun u hu => ret_in (rId_any nd u HI2.out) hu) ?_
  conv => whnf
  intro f1
  conv => whnf
  refine And.intro (rfl) ?_
  conv => whnf
  intro w2 h2
  have HB2 := Lib.hid (ext_trans HB1.out h2)
  have HO2 := Lib.hid (HO1.out.keep h2)
  have HQ2 := Lib.hid (HQ1.out.keep h2)
  clear h2 HO1 HQ1
  obtain ⟨z, hz⟩ : ∃ p, (!idB id || !idB nd) = p := ⟨_, rfl⟩
  rw [hz]
  clear hz
  cases z
  rotate_left
  · go_wp2_with fail
    go_ret
    exact ⟨_, rfl, HB2.out⟩
  go_upto_region 3 with fail
  refine wp_region_et gmT gmT_ok [⟨w.heap.size, 0, [.string (bs id), .int .i64 rev]⟩] (Below w2.heap.size w2) [(2, 0)] [] [(23, .bool (decide (rev < 1) || decide (1000 < rev)))] (by kernel_rfl) (Below.refl _ _)
    (obsC (fun u hu => rangeKeep (range_take 2 (range_new HO2.out)) hu) obsN) ⟨rfl, trivial⟩ ?_
  conv => whnf
  intro f2
  conv => whnf
  refine And.intro (rfl) ?_
  conv => whnf
  intro w3 h3
  have HB3 := Lib.hid (ext_trans HB2.out h3)
  have HO3 := Lib.hid (HO2.out.keep h3)
  have HQ3 := Lib.hid (HQ2.out.keep h3)
  clear h3 HO2 HQ2
  obtain ⟨z, hz⟩ : ∃ p, (decide (rev < 1) || decide (1000 < rev)) = p := ⟨_, rfl⟩
  rw [hz]
  clear hz
  cases z
  rotate_left
  · go_wp2_with fail
    go_ret
    exact ⟨_, rfl, HB3.out⟩
  go_upto_region 5 with fail
  refine wp_region_et gmT gmT_ok [⟨w.heap.size, 0, [.string (bs id), .int .i64 rev, .int .i64 kd]⟩] (Below w3.heap.size w3) [(2, 0)] [] [(31, .bool (decide (kd < 1) || decide (4 < kd)))] (by kernel_rfl) (Below.refl _ _)
    (obsC (fun u hu => rangeKeep (range_take 3 (range_new HO3.out)) hu) obsN) ⟨rfl, trivial⟩ ?_
  conv => whnf
  intro f3
  conv => whnf
  refine And.intro (rfl) ?_
  conv => whnf
  intro w4 h4
  have HB4 := Lib.hid (ext_trans HB3.out h4)
  have HO4 := Lib.hid (HO3.out.keep h4)
  have HQ4 := Lib.hid (HQ3.out.keep h4)
  clear h4 HO3 HQ3
  obtain ⟨z, hz⟩ : ∃ p, (decide (kd < 1) || decide (4 < kd)) = p := ⟨_, rfl⟩
  rw [hz]
  clear hz
  cases z
  rotate_left
  · go_wp2_with fail
    go_ret
    exact ⟨_, rfl, HB4.out⟩
  go_upto_region 7 with fail
  go_wp2_with (refine at_load 32 123 ?_; refine wpList_load_mid rfl 123 (.tmp 2) rfl w.heap.size 0 #[.string (bs id), .int .i64 rev, .int .i64 kd, .string (bs nd), .string (bs gr), .int .i64 th, .slice oa outer.length oc, .slice ha hvs.length hc, .string (bs sc), .int .i64 ln, .int .i64 ms, .int .i64 cx, .int .i64 cy, .int .i64 cz, .int .i64 ax, .int .i64 ay, .int .i64 az, .int .i64 tn] rfl ag_part (range_new HO4.out) ?_)
  refine (rspare_any (⟨id, rev, kd, nd, gr, th, .slice oa outer.length oc, .slice ha hvs.length hc, sc, ln, ms, cx, cy, cz, ax, ay, az, tn, outer, holes, hvs⟩ : Prt) w4 (HX.out.keep HB4.out)).mono ?_
  rintro e w5 ⟨u, rfl, hb5⟩
  have HB5 := Lib.hid (ext_trans HB4.out hb5)
  have HO5 := Lib.hid (HO4.out.keep hb5)
  have HQ5 := Lib.hid (HQ4.out.keep hb5)
  clear hb5 HO4 HQ4
  cases u
  rotate_left
  · go_wp2_with fail
    go_ret
    exact ⟨_, rfl, HB5.out⟩
  have d0 := HQ5.out.cell 0
  have d1 := HQ5.out.cell 1
  dsimp at d0 d1
  go_upto_region 9 with fail
  go_wp2_with (refine at_load 34 123 ?_; refine wpList_load_mid rfl 123 (.tmp 2) rfl w.heap.size 0 #[.string (bs id), .int .i64 rev, .int .i64 kd, .string (bs nd), .string (bs gr), .int .i64 th, .slice oa outer.length oc, .slice ha hvs.length hc, .string (bs sc), .int .i64 ln, .int .i64 ms, .int .i64 cx, .int .i64 cy, .int .i64 cz, .int .i64 ax, .int .i64 ay, .int .i64 az, .int .i64 tn] rfl ag_part (range_new HO5.out) ?_)
  refine (rknown_any (⟨id, rev, kd, nd, gr, th, .slice oa outer.length oc, .slice ha hvs.length hc, sc, ln, ms, cx, cy, cz, ax, ay, az, tn, outer, holes, hvs⟩ : Prt) g s gs cs w5 (HX.out.keep HB5.out) (HM.out.keep HB5.out) HGL.out hcl).mono ?_
  rintro e w6 ⟨u, rfl, hb6⟩
  have HB6 := Lib.hid (ext_trans HB5.out hb6)
  have HO6 := Lib.hid (HO5.out.keep hb6)
  have HQ6 := Lib.hid (HQ5.out.keep hb6)
  clear hb6 d0 d1 HO5 HQ5
  cases u
  · go_wp2_with fail
    go_ret
    exact ⟨_, rfl, HB6.out⟩
  have HEND : Hid (∀ (W : World), Below w.heap.size w W → ObjAt W w.heap.size #[.string (bs id), .int .i64 rev, .int .i64 kd, .string (bs nd), .string (bs gr), .int .i64 th, .slice oa outer.length oc, .slice ha hvs.length hc, .string (bs sc), .int .i64 ln, .int .i64 ms, .int .i64 cx, .int .i64 cy, .int .i64 cz, .int .i64 ax, .int .i64 ay, .int .i64 az, .int .i64 tn] 123 → True) := fun _ _ _ => trivial
  clear HEND
  by_cases k1 : kd = 1
  · subst k1
    have c2 := HO6.out.cell 2
    have c6 := HO6.out.cell 6
    have c7 := HO6.out.cell 7
    dsimp at c2 c6 c7
    go_upto_region 12 with fail
    go_wp2_with fail
    refine (rChk13_any _ _ outer holes hvs w6 (HP.out.keep HB6.out)).mono ?_
    rintro e w7 ⟨y, rfl, hb7⟩
    have HB7 := Lib.hid (ext_trans HB6.out hb7)
    have HO7 := Lib.hid (HO6.out.keep hb7)
    clear hb7 c2 c6 c7
    by_cases hy : y = 0
    rotate_left
    · go_wp2_with fail
      go_ret
      exact ⟨_, rfl, HB7.out⟩
    subst hy
    go_upto_region 20 with fail
    refine wp_region_et gmT gmT_ok [⟨w.heap.size, 0, [.string (bs id), .int .i64 rev, .int .i64 1, .string (bs nd), .string (bs gr), .int .i64 th, .slice oa outer.length oc, .slice ha hvs.length hc, .string (bs sc), .int .i64 ln, .int .i64 ms, .int .i64 cx, .int .i64 cy, .int .i64 cz, .int .i64 ax, .int .i64 ay, .int .i64 az, .int .i64 tn]⟩] (Below w7.heap.size w7) [(2, 0)] [(73, .ret (.bool ((nearV ax ay az && decide (0 ≤ tn)) && decide (tn ≤ 23))))] [(74, .bool (!((nearV ax ay az && decide (0 ≤ tn)) && decide (tn ≤ 23))))] (by kernel_rfl) (Below.refl _ _)
      (obsC (fun u hu => rangeKeep (range_new HO7.out) hu) obsN) ⟨rfl, trivial⟩ ?_
    conv => whnf
    refine And.intro (Nat.le_of_ble_eq_true rfl) ?_
    conv => whnf
    refine And.intro (under_of fun u hu => ret_in (rValid_any _ _ _ _ u) hu) ?_
    conv => whnf
    intro fz
    conv => whnf
    refine And.intro (rfl) ?_
    conv => whnf
    intro wz hz
    have HBz := Lib.hid (ext_trans HB7.out hz)
    clear hz
    obtain ⟨z, hz⟩ : ∃ p, ((nearV ax ay az && decide (0 ≤ tn)) && decide (tn ≤ 23)) = p := ⟨_, rfl⟩
    rw [hz]
    clear hz
    cases z <;> (go_wp2_with fail; go_ret; exact ⟨_, rfl, HBz.out⟩)
  by_cases k4 : kd = 4
  · subst k4
    have c2 := HO6.out.cell 2
    dsimp at c2
    go_upto_region 16 with fail
    clear c2
    refine wp_region_et gmT gmT_ok [⟨w.heap.size, 0, [.string (bs id), .int .i64 rev, .int .i64 4, .string (bs nd), .string (bs gr), .int .i64 th, .slice oa outer.length oc, .slice ha hvs.length hc, .string (bs sc), .int .i64 ln, .int .i64 ms, .int .i64 cx, .int .i64 cy, .int .i64 cz]⟩] (Below w6.heap.size w6) [(2, 0)] [(61, .ret (.bool (farB cx cy cz)))] [(62, .bool ((decide (ms < 1) || decide (1099511627776 < ms)) || farB cx cy cz))] (by kernel_rfl) (Below.refl _ _)
      (obsC (fun u hu => rangeKeep (range_take 14 (range_new HO6.out)) hu) obsN) ⟨rfl, trivial⟩ ?_
    conv => whnf
    refine And.intro (Nat.le_of_ble_eq_true rfl) ?_
    conv => whnf
    refine And.intro (under_of fun u hu => ret_in (rfar_any _ _ _ u) hu) ?_
    conv => whnf
    intro f7
    conv => whnf
    refine And.intro (rfl) ?_
    conv => whnf
    intro w7 h7
    have HB7 := Lib.hid (ext_trans HB6.out h7)
    have HO7 := Lib.hid (HO6.out.keep h7)
    clear h7
    obtain ⟨z, hz⟩ : ∃ p, ((decide (ms < 1) || decide (1099511627776 < ms)) || farB cx cy cz) = p := ⟨_, rfl⟩
    rw [hz]
    clear hz
    cases z
    rotate_left
    · go_wp2_with fail
      go_ret
      exact ⟨_, rfl, HB7.out⟩
    go_upto_region 20 with fail
    refine wp_region_et gmT gmT_ok [⟨w.heap.size, 0, [.string (bs id), .int .i64 rev, .int .i64 4, .string (bs nd), .string (bs gr), .int .i64 th, .slice oa outer.length oc, .slice ha hvs.length hc, .string (bs sc), .int .i64 ln, .int .i64 ms, .int .i64 cx, .int .i64 cy, .int .i64 cz, .int .i64 ax, .int .i64 ay, .int .i64 az, .int .i64 tn]⟩] (Below w7.heap.size w7) [(2, 0)] [(73, .ret (.bool ((nearV ax ay az && decide (0 ≤ tn)) && decide (tn ≤ 23))))] [(74, .bool (!((nearV ax ay az && decide (0 ≤ tn)) && decide (tn ≤ 23))))] (by kernel_rfl) (Below.refl _ _)
      (obsC (fun u hu => rangeKeep (range_new HO7.out) hu) obsN) ⟨rfl, trivial⟩ ?_
    conv => whnf
    refine And.intro (Nat.le_of_ble_eq_true rfl) ?_
    conv => whnf
    refine And.intro (under_of fun u hu => ret_in (rValid_any _ _ _ _ u) hu) ?_
    conv => whnf
    intro fz
    conv => whnf
    refine And.intro (rfl) ?_
    conv => whnf
    intro wz hz
    have HBz := Lib.hid (ext_trans HB7.out hz)
    clear hz
    obtain ⟨z, hz⟩ : ∃ p, ((nearV ax ay az && decide (0 ≤ tn)) && decide (tn ≤ 23)) = p := ⟨_, rfl⟩
    rw [hz]
    clear hz
    cases z <;> (go_wp2_with fail; go_ret; exact ⟨_, rfl, HBz.out⟩)
  have c2 := HO6.out.cell 2
  dsimp at c2
  go_upto_region 18 with fail
  clear c2
  refine wp_region_et gmT gmT_ok [⟨w.heap.size, 0, [.string (bs id), .int .i64 rev, .int .i64 kd, .string (bs nd), .string (bs gr), .int .i64 th, .slice oa outer.length oc, .slice ha hvs.length hc, .string (bs sc), .int .i64 ln]⟩] (Below w6.heap.size w6) [(2, 0)] [] [(70, .bool (decide (ln < 1) || decide (32768 < ln)))] (by kernel_rfl) (Below.refl _ _)
    (obsC (fun u hu => rangeKeep (range_take 10 (range_new HO6.out)) hu) obsN) ⟨rfl, trivial⟩ ?_
  conv => whnf
  intro f7
  conv => whnf
  refine And.intro (rfl) ?_
  conv => whnf
  intro w7 h7
  have HB7 := Lib.hid (ext_trans HB6.out h7)
  have HO7 := Lib.hid (HO6.out.keep h7)
  clear h7
  obtain ⟨z, hz⟩ : ∃ p, (decide (ln < 1) || decide (32768 < ln)) = p := ⟨_, rfl⟩
  rw [hz]
  clear hz
  cases z
  rotate_left
  · go_wp2_with fail
    go_ret
    exact ⟨_, rfl, HB7.out⟩
  go_upto_region 20 with fail
  refine wp_region_et gmT gmT_ok [⟨w.heap.size, 0, [.string (bs id), .int .i64 rev, .int .i64 kd, .string (bs nd), .string (bs gr), .int .i64 th, .slice oa outer.length oc, .slice ha hvs.length hc, .string (bs sc), .int .i64 ln, .int .i64 ms, .int .i64 cx, .int .i64 cy, .int .i64 cz, .int .i64 ax, .int .i64 ay, .int .i64 az, .int .i64 tn]⟩] (Below w7.heap.size w7) [(2, 0)] [(73, .ret (.bool ((nearV ax ay az && decide (0 ≤ tn)) && decide (tn ≤ 23))))] [(74, .bool (!((nearV ax ay az && decide (0 ≤ tn)) && decide (tn ≤ 23))))] (by kernel_rfl) (Below.refl _ _)
    (obsC (fun u hu => rangeKeep (range_new HO7.out) hu) obsN) ⟨rfl, trivial⟩ ?_
  conv => whnf
  refine And.intro (Nat.le_of_ble_eq_true rfl) ?_
  conv => whnf
  refine And.intro (under_of fun u hu => ret_in (rValid_any _ _ _ _ u) hu) ?_
  conv => whnf
  intro fz
  conv => whnf
  refine And.intro (rfl) ?_
  conv => whnf
  intro wz hz
  have HBz := Lib.hid (ext_trans HB7.out hz)
  clear hz
  obtain ⟨z, hz⟩ : ∃ p, ((nearV ax ay az && decide (0 ≤ tn)) && decide (tn ≤ 23)) = p := ⟨_, rfl⟩
  rw [hz]
  clear hz
  cases z <;> (go_wp2_with fail; go_ret; exact ⟨_, rfl, HBz.out⟩)
end Go.Proofs.YtfpnjbomlmhlpaaGreat

/- The reference's parts: Mass comes back with two numbers (printed by wip/gen_gmm.py). -/
namespace Go.Proofs.YtfpnjbomlmhlpaaGreat
open Go.RowKit

/-- it comes back with two numbers -/
def RetNN (w : World) (e : Ending) (w' : World) : Prop := ∃ a b : Int, e = .returned (.tuple #[.int .i64 a, .int .i64 b]) ∧ Below w.heap.size w w'
def IsI (v : Value) : Prop := ∃ n : Int, v = .int .i64 n
def mulV (k : Int) : Value → Value
  | .int .i64 n => .int .i64 (IntKind.i64.wrap (n * k))
  | v => v
def quoV (k : Int) : Value → Value
  | .int .i64 n => .int .i64 (IntKind.i64.wrap (n.tdiv k))
  | v => v
theorem kept_I : KeptV fun v _ => IsI v := ⟨fun _ _ _ h _ => h, fun _ _ _ _ _ _ _ h _ _ _ => h⟩
theorem enter_Area13 (args : Array Value) (w : World) : (callFunc 97 args).run Tryz.prog w = .ok (.enter 97 args) w := enters_of Tryz.func97 (by kernel_rfl) rfl args w
theorem run_mulV {o : Oper} {m n : Nat} {t t' : TypeId} (ho : o.op = .binOp .mul t (.tmp m) (.tmp n) t') (k : Int) (a : Act) (x : Value) (u : World) (h1 : a.eval (.tmp m) = x) (h2 : ([n].map Operand.tmp).map a.eval = [.int .i64 k]) (h3 : IsI x) : IsI (mulV k x) ∧ (execOp a.eval o).run Tryz.prog u = .ok (.value (mulV k x)) u := by
  obtain ⟨z, rfl⟩ := h3
  have h4 : a.eval (.tmp n) = .int .i64 k := by simpa using h2
  refine ⟨⟨_, rfl⟩, ?_⟩
  unfold execOp
  simp only [ho, h1, h4, Sem.run_bind, guard_int, Result.andThen_ok]
  rfl
theorem run_quoV {o : Oper} {m : Nat} {t t' : TypeId} (k : Int) (hk : k ≠ 0) (ho : o.op = .binOp .quo t (.tmp m) (.const (.int .i64 k)) t') (a : Act) (x : Value) (u : World) (h1 : a.eval (.tmp m) = x) (h3 : IsI x) : IsI (quoV k x) ∧ (execOp a.eval o).run Tryz.prog u = .ok (.value (quoV k x)) u := by
  obtain ⟨z, rfl⟩ := h3
  refine ⟨⟨_, rfl⟩, ?_⟩
  have e : (binOp .quo t (.int .i64 z) (.int .i64 k)).run Tryz.prog u = .ok (.int .i64 (IntKind.i64.wrap (z.tdiv k))) u := by
    show (Op.intDiv .quo .i64 z k).run Tryz.prog u = _
    unfold Op.intDiv; rw [if_neg hk]; rfl
  have h5 : a.eval (.const (.int .i64 k)) = .int .i64 k := rfl
  unfold execOp
  simp only [ho, h1, h5, Sem.run_bind, guard_int, Result.andThen_ok, e]
  rfl
set_option maxRecDepth 100000 in
set_option maxHeartbeats 600000 in
theorem rMass_any (x : Prt) (g s : Sv) (gs : List Grd) (cs : List Sct) (w : World) (h : PrtOK w x) (hM : MatOK w g s gs cs) (hgl : ∀ x ∈ gs, x.gauges.length ≤ 1000000) (hcl : cs.length ≤ 100000) (h1 : x.id.length ≤ 1100000) (h2 : x.node.length ≤ 1100000) : Calls Tryz.prog 57 #[.agg (prA x), .agg (matA g s)] w (RetNN w) := by
  have HM := Lib.hid hM
  have HGL := Lib.hid hgl
  have HI1 := Lib.hid h1
  have HI2 := Lib.hid h2
  clear hM hgl h1 h2
  obtain ⟨id, rev, kd, nd, gr, th, ov, hv, sc, ln, ms, cx, cy, cz, ax, ay, az, tn, outer, holes, hvs⟩ := x
  have HX : Hid (PrtOK w ⟨id, rev, kd, nd, gr, th, ov, hv, sc, ln, ms, cx, cy, cz, ax, ay, az, tn, outer, holes, hvs⟩) := h
  have HP : Hid (ShpOK w ov hv outer holes hvs) := h.shp
  obtain ⟨oa, oc, rfl, o1, o2, _⟩ := HP.out.o
  obtain ⟨ha, hc, rfl, s1, s2, _⟩ := HP.out.hs
  clear h o1 s1
  unfold maxLen at o2 s2
  show Calls Tryz.prog 57 #[.agg #[.string (bs id), .int .i64 rev, .int .i64 kd, .string (bs nd), .string (bs gr), .int .i64 th, .slice oa outer.length oc, .slice ha hvs.length hc, .string (bs sc), .int .i64 ln, .int .i64 ms, .int .i64 cx, .int .i64 cy, .int .i64 cz, .int .i64 ax, .int .i64 ay, .int .i64 az, .int .i64 tn], .agg #[.slice g.a g.n g.c, .slice s.a s.n s.c]] w _
  obtain ⟨W1, HO1, HQ1, HB1, HW⟩ := two_box w #[.string (bs id), .int .i64 rev, .int .i64 kd, .string (bs nd), .string (bs gr), .int .i64 th, .slice oa outer.length oc, .slice ha hvs.length hc, .string (bs sc), .int .i64 ln, .int .i64 ms, .int .i64 cx, .int .i64 cy, .int .i64 cz, .int .i64 ax, .int .i64 ay, .int .i64 az, .int .i64 tn] #[.slice g.a g.n g.c, .slice s.a s.n s.c] 123 32
  go_enter Tryz.func57, Tryz.ntmps57
  go_upto_region 1 with fail
  rw [HW.out]
  clear HW
  have d0 := HQ1.out.cell 0
  have d1 := HQ1.out.cell 1
  dsimp at d0 d1
  go_wp2_with (refine at_load 11 123 ?_; refine wpList_load_mid rfl 123 (.tmp 2) rfl w.heap.size 0 #[.string (bs id), .int .i64 rev, .int .i64 kd, .string (bs nd), .string (bs gr), .int .i64 th, .slice oa outer.length oc, .slice ha hvs.length hc, .string (bs sc), .int .i64 ln, .int .i64 ms, .int .i64 cx, .int .i64 cy, .int .i64 cz, .int .i64 ax, .int .i64 ay, .int .i64 az, .int .i64 tn] rfl ag_part (range_new HO1.out) ?_)
  refine (rChk16_any (⟨id, rev, kd, nd, gr, th, .slice oa outer.length oc, .slice ha hvs.length hc, sc, ln, ms, cx, cy, cz, ax, ay, az, tn, outer, holes, hvs⟩ : Prt) g s gs cs W1 (HX.out.keep HB1.out) (HM.out.keep HB1.out) HGL.out hcl HI1.out HI2.out).mono ?_
  rintro e w2 ⟨y, rfl, hb2⟩
  have HB2 := Lib.hid (ext_trans HB1.out hb2)
  have HO2 := Lib.hid (HO1.out.keep hb2)
  have HQ2 := Lib.hid (HQ1.out.keep hb2)
  clear hb2 d0 d1 HO1 HQ1
  by_cases hy : y = 0
  rotate_left
  · go_wp2_with fail
    go_ret2
    exact ⟨_, _, rfl, HB2.out⟩
  subst hy
  have c4 := HO2.out.cell 4
  have d0 := HQ2.out.cell 0
  have d1 := HQ2.out.cell 1
  dsimp at c4 d0 d1
  go_upto_region 4 with fail
  go_wp2_with fail
  refine (rGrade_any g s gs cs gr w2 (HM.out.keep HB2.out) HGL.out).mono ?_
  rintro e w3 ⟨⟨xn, xd, xy, xv, xg⟩, b, rfl, hx, hb3⟩
  have hx : SI w3 xv xg := hx
  obtain ⟨va, vc, rfl, v1, v2, v3⟩ := hx
  have HB3 := Lib.hid (ext_trans HB2.out hb3)
  have HO3 := Lib.hid (HO2.out.keep hb3)
  have HQ3 := Lib.hid (HQ2.out.keep hb3)
  clear v1 v2 v3 hb3 c4 d0 d1 HO2 HQ2
  obtain ⟨W4, hW4⟩ : ∃ W, w3.alloc (.cells #[.string (bs xn), .int .i64 xd, .int .i64 xy, .slice va xg.length vc] 154) = W := ⟨_, rfl⟩
  have HG4 : Hid (ObjAt W4 w3.heap.size #[.string (bs xn), .int .i64 xd, .int .i64 xy, .slice va xg.length vc] 154) := by show ObjAt ..; rw [← hW4]; exact ObjAt.new _ _ _
  have HB34 : Hid (Below w3.heap.size w3 W4) := by show Below ..; rw [← hW4]; exact (Below.refl _ _).alloc (Nat.le_refl _) _
  have HW4 := Lib.hid hW4
  clear hW4
  simp only [grA]
  go_upto_region 5 with fail
  rw [HW4.out]
  clear HW4
  have HO4 := Lib.hid (HO3.out.keep HB34.out)
  have HQ4 := Lib.hid (HQ3.out.keep HB34.out)
  have HB4 := Lib.hid (ext_trans HB3.out HB34.out)
  have c8 := HO4.out.cell 8
  have d0 := HQ4.out.cell 0
  have d1 := HQ4.out.cell 1
  dsimp at c8 d0 d1
  go_wp2_with fail
  refine (rSection_any g s cs sc W4 ((HM.out.keep HB4.out).s) hcl).mono ?_
  rintro e w5 ⟨rfl, hb5⟩
  have HB5 := Lib.hid (ext_trans HB4.out hb5)
  have HO5 := Lib.hid (HO4.out.keep hb5)
  have HG5 := Lib.hid (HG4.out.keep hb5)
  clear hb5 c8 d0 d1 HO4 HQ4 HG4 HO3 HQ3
  unfold sectionV
  obtain ⟨⟨yn, ya, yh, yst⟩, hy⟩ : ∃ y, (scFind cs sc).getD default = y := ⟨_, rfl⟩
  obtain ⟨b2, hb2⟩ : ∃ b, (scFind cs sc).isSome = b := ⟨_, rfl⟩
  rw [hy, hb2]
  clear hy hb2
  obtain ⟨W6, hW6⟩ : ∃ W6, w5.alloc (.cells #[.string (bs yn), .int .i64 ya, .int .i64 yh, .int .i64 yst] 96) = W6 := ⟨_, rfl⟩
  have HS6 : Hid (ObjAt W6 w5.heap.size #[.string (bs yn), .int .i64 ya, .int .i64 yh, .int .i64 yst] 96) := by show ObjAt ..; rw [← hW6]; exact ObjAt.new _ _ _
  have HB56 : Hid (Below w5.heap.size w5 W6) := by show Below ..; rw [← hW6]; exact (Below.refl _ _).alloc (Nat.le_refl _) _
  have HW6 := Lib.hid hW6
  clear hW6
  simp only [scA]
  go_upto_region 6 with fail
  rw [HW6.out]
  clear HW6
  have HO6 := Lib.hid (HO5.out.keep HB56.out)
  have HG6 := Lib.hid (HG5.out.keep HB56.out)
  have HB6 := Lib.hid (ext_trans HB5.out HB56.out)
  clear HO5 HG5 HB5 HB4 HB3 HB2
  have c2 := HO6.out.cell 2
  dsimp at c2
  by_cases k1 : kd = 1
  · subst k1
    go_upto_region 8 with fail
    clear c2
    refine wp_region_sp gmT gmT_ok [⟨w.heap.size, 0, [.string (bs id), .int .i64 rev, .int .i64 1, .string (bs nd), .string (bs gr), .int .i64 th, .slice oa outer.length oc, .slice ha hvs.length hc]⟩, ⟨w3.heap.size, 0, [.string (bs xn), .int .i64 xd, .int .i64 xy, .slice va xg.length vc]⟩] [(2, 0), (7, 1)] [] [(5, .int .i64 0)] [(2, .call 97 [36] [.agg #[.slice oa outer.length oc, .slice ha hvs.length hc]] fun v _ => IsI v), (5, .fn 2 [39] [.int .i64 th] IsI (mulV th)), (8, .fn 5 [42] [.int .i64 xd] IsI (mulV xd)), (9, .fn 8 [] [] IsI (quoV 2000000)), (10, .asg 9)]
      (by kernel_rfl) mixed (by kernel_rfl) (by simp) (by simp [SpK.isPut]) ?_ (obsC (fun u hu => rangeKeep (range_take 8 (range_new HO6.out)) hu) (obsC (fun u hu => rangeKeep (range_new HG6.out) hu) obsN)) ⟨rfl, rfl, trivial⟩ ?_
    · refine List.forall_mem_cons.2 ⟨⟨⟨_, _, rfl, rfl, rfl, rfl⟩, enter_Area13, kept_I, fun u hu => (rArea13_any _ _ outer holes hvs u (HP.out.keep (ext_trans HB6.out hu))).mono fun e w' ⟨z, h1, h2⟩ => ⟨_, h1, ⟨z, rfl⟩, h2⟩⟩, List.forall_mem_cons.2 ⟨?_, List.forall_mem_cons.2 ⟨?_, List.forall_mem_cons.2 ⟨?_, List.forall_mem_cons.2 ⟨?_, fun p hp => by cases hp⟩⟩⟩⟩⟩
      · exact ⟨_, .head _, _, 37, rfl, ⟨_, _, rfl, rfl, rfl, ⟨2, .data⟩, by simp, rfl, rfl⟩, fun n hn => by simp at hn; subst hn; simp [Oper.looksAt, Op.operands], fun a x u h1 h2 h3 => run_mulV rfl th a x u h1 h2 h3⟩
      · exact ⟨_, .tail _ (.head _), _, 40, rfl, ⟨_, _, rfl, rfl, rfl, ⟨5, .data⟩, by simp, rfl, rfl⟩, fun n hn => by simp at hn; subst hn; simp [Oper.looksAt, Op.operands], fun a x u h1 h2 h3 => run_mulV rfl xd a x u h1 h2 h3⟩
      · exact ⟨_, .tail _ (.tail _ (.head _)), _, 43, rfl, ⟨_, _, rfl, rfl, rfl, ⟨8, .data⟩, by simp, rfl, rfl⟩, fun n hn => (by cases hn), fun a x u h1 h2 h3 => run_quoV 2000000 (by decide) rfl a x u h1 h3⟩
      · exact ⟨by simp, _, 44, rfl, rfl, ⟨_, _, rfl, rfl, rfl, ⟨9, .data⟩, by simp, rfl, rfl⟩⟩
    conv => whnf
    refine And.intro (Nat.le_of_ble_eq_true rfl) ?_
    conv => whnf
    refine And.intro ⟨⟨rfl, trivial⟩, ⟨rfl, trivial⟩, ⟨rfl, trivial⟩, trivial, trivial⟩ ?_
    intro f1 s1 hs1
    conv => whnf
    refine And.intro rfl ?_
    conv => whnf
    intro w7 h7 hj7
    obtain ⟨v9, a9, b9⟩ := hs1 9 rfl _ rfl
    obtain ⟨v10, a10, b10⟩ := hs1 10 rfl _ rfl
    have e9 := hj7 _ (.tail _ (.tail _ (.tail _ (.head _)))) v9 a9
    have e10 := hj7 _ (.tail _ (.tail _ (.tail _ (.tail _ (.head _))))) v10 a10
    rw [a9] at e10; cases e10
    obtain ⟨⟨n, rfl⟩, _⟩ := e9
    rw [← b10 _ rfl]
    have HB7 := Lib.hid (ext_trans HB6.out h7)
    clear hs1 hj7 a9 a10 b9 b10 h7
    go_wp2_with fail
    go_ret2
    exact ⟨_, _, rfl, HB7.out⟩
  by_cases k4 : kd = 4
  · subst k4
    have c10 := HO6.out.cell 10
    dsimp at c10
    go_wp2_with fail
    go_ret2
    exact ⟨_, _, rfl, HB6.out⟩
  go_upto_region 11 with fail
  clear c2

  refine wp_region_et gmT gmT_ok [⟨w.heap.size, 0, [.string (bs id), .int .i64 rev, .int .i64 kd, .string (bs nd), .string (bs gr), .int .i64 th, .slice oa outer.length oc, .slice ha hvs.length hc, .string (bs sc), .int .i64 ln]⟩, ⟨w3.heap.size, 0, [.string (bs xn), .int .i64 xd, .int .i64 xy, .slice va xg.length vc]⟩, ⟨w5.heap.size, 0, [.string (bs yn), .int .i64 ya, .int .i64 yh, .int .i64 yst]⟩] (Below W6.heap.size W6) [(2, 0), (7, 1), (9, 2)] [] [(4, .int .i64 (IntKind.i64.wrap ((IntKind.i64.wrap (IntKind.i64.wrap (ya * ln) * xd)).tdiv 1000000))), (5, .int .i64 0)] (by kernel_rfl) (Below.refl _ _)
    (obsC (fun u hu => rangeKeep (range_take 10 (range_new HO6.out)) hu) (obsC (fun u hu => rangeKeep (range_new HG6.out) hu) (obsC (fun u hu => rangeKeep (range_new HS6.out) hu) obsN))) ⟨rfl, rfl, rfl, trivial⟩ ?_
  conv => whnf
  refine And.intro (under_of (by decide)) ?_
  conv => whnf
  intro f4
  conv => whnf
  refine And.intro (rfl) ?_
  conv => whnf
  refine And.intro (rfl) ?_
  conv => whnf
  intro w7 h7
  have HB7 := Lib.hid (ext_trans HB6.out h7)
  clear h7
  go_wp2_with fail
  go_ret2
  exact ⟨_, _, rfl, HB7.out⟩
end Go.Proofs.YtfpnjbomlmhlpaaGreat

/- The reference's structure: block, up, SeamAlone (printed by wip/gen_gmn.py). -/
namespace Go.Proofs.YtfpnjbomlmhlpaaGreat
open Go.RowKit

def blockB (ns : List Nod) (id : List UInt8) : Bool := (noFind ns id).isSome && (((noFind ns id).getD default).kind == 1)
set_option maxRecDepth 100000 in
set_option maxHeartbeats 400000 in
theorem rblock_any (D : Des) (ns : List Nod) (id : List UInt8) (w : World) (h : SNo w (.slice D.n.a D.n.n D.n.c) ns) (hl : ns.length ≤ 100000) : Calls Tryz.prog 60 #[.agg (desA D), .string (bs id)] w (Ret w (.bool (blockB ns id))) := by
  have HS := Lib.hid h
  have HV : Hid (blockB ns id = ((noFind ns id).isSome && (((noFind ns id).getD default).kind == 1))) := rfl
  clear h
  obtain ⟨W1, HO1, HB1, HW1, _⟩ := boxD w D
  unfold desA
  go_enter Tryz.func60, Tryz.ntmps60
  go_upto_region 1 with fail
  rw [HW1.out]
  obtain ⟨c0, c1, c2, c3, c4, c5⟩ := desC HO1.out
  go_wp2_with fail
  refine (rNode_any D ns id W1 (HS.out.keep HB1.out) hl).mono ?_
  rintro e w2 ⟨rfl, hb2⟩
  have HB2 := Lib.hid (ext_trans HB1.out hb2)
  clear hb2 c0 c1 c2 c3 c4 c5
  unfold nodeV
  obtain ⟨⟨yi, yk, yp⟩, hy⟩ : ∃ y, (noFind ns id).getD default = y := ⟨_, rfl⟩
  obtain ⟨b, hb⟩ : ∃ b, (noFind ns id).isSome = b := ⟨_, rfl⟩
  rw [hy, hb] at HV ⊢
  clear hy hb
  obtain ⟨W3, hW3⟩ : ∃ W3, w2.alloc (.cells #[.string (bs yi), .int .i64 yk, .string (bs yp)] 107) = W3 := ⟨_, rfl⟩
  have HO3 : Hid (ObjAt W3 w2.heap.size #[.string (bs yi), .int .i64 yk, .string (bs yp)] 107) := by show ObjAt ..; rw [← hW3]; exact ObjAt.new _ _ _
  have HB3 : Hid (Below w.heap.size w W3) := by show Below ..; rw [← hW3]; exact HB2.out.alloc HB2.out.size _
  have HW3 := Lib.hid hW3
  clear hW3
  simp only [noA]
  go_upto_region 2 with fail
  rw [HW3.out]
  refine wp_region_et gmT gmT_ok [⟨w2.heap.size, 0, [.string (bs yi), .int .i64 yk, .string (bs yp)]⟩] (Below W3.heap.size W3) [(5, 0)] [] [(4, .bool (b && (yk == 1)))] (by kernel_rfl) (Below.refl _ _)
    (obsC (fun u hu => rangeKeep (range_new HO3.out) hu) obsN) ⟨rfl, trivial⟩ ?_
  conv => whnf
  intro f1
  conv => whnf
  refine And.intro (rfl) ?_
  conv => whnf
  intro w4 h4
  have HB4 := Lib.hid (ext_trans HB3.out h4)
  go_wp2_with fail
  go_ret
  exact ⟨ret_bool HV.out.symm, HB4.out⟩
/-- strings and a truth value -/
def RetU (w : World) (e : Ending) (w' : World) : Prop := ∃ (v : Value) (l : List (List UInt8)) (b : Bool), e = .returned (.tuple #[v, .bool b]) ∧ SZ w' v (l.map bs) ∧ l.length ≤ 65 ∧ (b = true → l ≠ []) ∧ Below w.heap.size w w'
theorem SZ_nil' (w : World) : SZ w (.slice none 0 0) (([] : List (List UInt8)).map bs) := SZ_nil w
set_option maxRecDepth 100000 in
set_option maxHeartbeats 400000 in
theorem rup_any (D : Des) (ns : List Nod) (id : List UInt8) (w : World) (h : SNo w (.slice D.n.a D.n.n D.n.c) ns) (hl : ns.length ≤ 100000) : Calls Tryz.prog 54 #[.agg (desA D), .string (bs id)] w (RetU w) := by
  have HS := Lib.hid h
  clear h
  obtain ⟨W1, HO1, HB1, HW1, _⟩ := boxD w D
  unfold desA
  go_enter Tryz.func54, Tryz.ntmps54
  go_upto_region 1 with fail
  rw [HW1.out]
  clear HW1
  go_wp2_with fail
  go_loopw [1, 6, 7] (fun d o i wr => ∃ (k : Nat) (t : List UInt8) (l : List (List UInt8)), k ≤ 65 ∧ i = .int .i64 k ∧ d = .string (bs t) ∧ l.length = k ∧ Hid (Below W1.heap.size W1 wr) ∧ Hid (OwnZ wr W1.heap.size o (l.map bs))) (fun _ _ i _ => 65 - (intOf i).toNat)
  case atStart => exact ⟨0, id, [], by omega, rfl, rfl, rfl, Below.refl _ _, OwnZ_nil _ _⟩
  case round =>
    obtain ⟨k, t, l, hk, rfl, rfl, hlk, hb, ho⟩ := hrel
    have HLK := Lib.hid hlk
    have HBW := Lib.hid (ext_trans HB1.out hb.out)
    clear hlk
    by_cases hlt : (k : Int) ≤ 64
    · obtain ⟨c0, c1, c2, c3, c4, c5⟩ := desC (HO1.out.keep hb.out)
      go_upto_region 5 with fail
      go_wp2_with fail
      refine (rNode_any D ns t wr (HS.out.keep HBW.out) hl).mono ?_
      rintro e w2 ⟨rfl, hb2⟩
      have HB2 := Lib.hid (ext_trans hb.out hb2)
      have HOW2 := Lib.hid (OwnZ.below ho.out hb2)
      clear hb2 c0 c1 c2 c3 c4 c5
      unfold nodeV
      obtain ⟨⟨yi, yk, yp⟩, hy⟩ : ∃ y, (noFind ns t).getD default = y := ⟨_, rfl⟩
      obtain ⟨b, hbb⟩ : ∃ b, (noFind ns t).isSome = b := ⟨_, rfl⟩
      rw [hy, hbb]
      clear hy hbb
      obtain ⟨W3, hW3⟩ : ∃ W3, w2.alloc (.cells #[.string (bs yi), .int .i64 yk, .string (bs yp)] 107) = W3 := ⟨_, rfl⟩
      have HO3 : Hid (ObjAt W3 w2.heap.size #[.string (bs yi), .int .i64 yk, .string (bs yp)] 107) := by show ObjAt ..; rw [← hW3]; exact ObjAt.new _ _ _
      have HB3 : Hid (Below W1.heap.size W1 W3) := by show Below ..; rw [← hW3]; exact HB2.out.alloc HB2.out.size _
      have HOW3 : Hid (OwnZ W3 W1.heap.size u6 (l.map bs)) := by show OwnZ ..; rw [← hW3]; exact OwnZ_alloc HOW2.out _
      have HBW3 := Lib.hid (ext_trans HB1.out HB3.out)
      have HW3 := Lib.hid hW3
      clear hW3
      simp only [noA]
      go_upto_region 6 with fail
      rw [HW3.out]
      clear HW3
      cases b
      · go_wp2_with fail
        go_ret2
        exact ⟨_, [], false, rfl, SZ_nil' _, by simp, fun h => (by cases h), HBW3.out⟩
      have c1 := (HO3.out.alloc (.cells #[.string (bs t)] 9)).cell 1
      have hlt' : ∀ g, u6.ownBlock = some g → W1.heap.size ≤ g := fun g hg => (World.ownsRow.lt HOW3.out g hg).1
      have hsw := HB3.out.size
      have HLN : Hid ((l.map bs).length ≤ 2000000) := by show _ ≤ _; rw [List.length_map]; have := HLK.out; omega
      go_wp2_with (at_builtin; refine wpList_app_str rfl (.tmp 22) (.tmp 24) rfl W1.heap.size u6 (l.map bs) rfl (OwnZ_alloc HOW3.out _) W3.heap.size 1 (bs t) rfl (lit_str _ _) HLN.out (by simp; omega) ?_)
      intro va wa hoa hga _
      have hba : Below W1.heap.size W1 wa := (HB3.out.alloc hsw _).grown hga (by simp; omega) hlt'
      have HOA : Hid (OwnZ wa W1.heap.size va ((l ++ [t]).map bs)) := by show OwnZ ..; rw [List.map_append]; exact hoa
      have HO4 : Hid (ObjAt wa w2.heap.size #[.string (bs yi), .int .i64 yk, .string (bs yp)] 107) := (HO3.out.alloc _).grown hga (fun e => by
        have h1 := (World.ownsRow.lt HOW2.out _ e).2
        omega)
      have HBA := Lib.hid hba
      have HBWA := Lib.hid (ext_trans HB1.out hba)
      clear hoa hba hga c1 hlt' hsw
      have c1 := HO4.out.cell 1
      have c2 := HO4.out.cell 2
      dsimp at c1 c2
      by_cases k1 : yk = 1
      · obtain ⟨sa, sc, rfl, _⟩ := OwnZ.sl HOA.out
        have e : ((l ++ [t]).map bs).length = l.length + 1 := by simp
        rw [e] at HOA ⊢
        clear e
        go_wp2_with fail
        go_ret2
        exact ⟨_, l ++ [t], true, rfl, OwnZ.sl HOA.out, by rw [List.length_append, List.length_singleton, HLK.out]; omega, fun _ => by simp, HBWA.out⟩
      · go_wp2_with fail
        go_roundw
        case rel => exact ⟨k + 1, yp, l ++ [t], by omega, by go_num, rfl, by rw [List.length_append, List.length_singleton, HLK.out], HBA, HOA⟩
        case measure => simp [intOf]; omega
    · go_wp2_with fail
      go_ret2
      exact ⟨_, [], false, rfl, SZ_nil' _, by simp, fun h => (by cases h), HBW.out⟩
set_option maxRecDepth 100000 in
set_option maxHeartbeats 400000 in
theorem rSeam_any (x : Sea) (w : World) (h1 : x.id.length ≤ 1100000) (h2 : x.a.length ≤ 1100000) (h3 : x.b.length ≤ 1100000) : Calls Tryz.prog 58 #[.agg (smA x)] w (RetN w) := by
  obtain ⟨si, sa, sb, sk, sl, sc⟩ := x
  have H1 := Lib.hid h1
  have H2 := Lib.hid h2
  have H3 := Lib.hid h3
  clear h1 h2 h3
  show Calls Tryz.prog 58 #[.agg #[.string (bs si), .string (bs sa), .string (bs sb), .int .i64 sk, .int .i64 sl, .int .i64 sc]] w _
  obtain ⟨W1, HO1, HB1, HW⟩ := one_box w #[.string (bs si), .string (bs sa), .string (bs sb), .int .i64 sk, .int .i64 sl, .int .i64 sc] 127
  go_enter Tryz.func58, Tryz.ntmps58
  go_upto_region 1 with fail
  rw [HW.out]
  clear HW
  refine wp_region_et gmT gmT_ok [⟨w.heap.size, 0, [.string (bs si), .string (bs sa), .string (bs sb), .int .i64 sk, .int .i64 sl, .int .i64 sc]⟩] (Below W1.heap.size W1) [(1, 0)] [(6, .ret (.bool (idB si))), (11, .ret (.bool (idB sa))), (17, .ret (.bool (idB sb)))] [(3, .bool ((!idB si || !idB sa) || !idB sb))] (by kernel_rfl) (Below.refl _ _)
    (obsC (fun u hu => rangeKeep (range_new HO1.out) hu) obsN) ⟨rfl, trivial⟩ ?_
  conv => whnf
  refine And.intro (under_of fun u hu => ret_in (rId_any si u H1.out) hu) ?_
  conv => whnf
  refine And.intro (under_of fun u hu => ret_in (rId_any sa u H2.out) hu) ?_
  conv => whnf
  refine And.intro (under_of fun u hu => ret_in (rId_any sb u H3.out) hu) ?_
  conv => whnf
  intro f1
  conv => whnf
  refine And.intro (rfl) ?_
  conv => whnf
  intro w2 h2
  have HB2 := Lib.hid (ext_trans HB1.out h2)
  have HO2 := Lib.hid (HO1.out.keep h2)
  clear h2 HO1
  obtain ⟨z, hz⟩ : ∃ p, ((!idB si || !idB sa) || !idB sb) = p := ⟨_, rfl⟩
  rw [hz]
  clear hz
  cases z
  rotate_left
  · go_wp2_with fail
    go_ret
    exact ⟨_, rfl, HB2.out⟩
  go_upto_region 3 with fail
  refine wp_region_et gmT gmT_ok [⟨w.heap.size, 0, [.string (bs si), .string (bs sa), .string (bs sb), .int .i64 sk, .int .i64 sl, .int .i64 sc]⟩] (Below w2.heap.size w2) [(1, 0)] [] [(20, .bool ((bs sa).toList == (bs sb).toList))] (by kernel_rfl) (Below.refl _ _)
    (obsC (fun u hu => rangeKeep (range_new HO2.out) hu) obsN) ⟨rfl, trivial⟩ ?_
  conv => whnf
  intro f2
  conv => whnf
  refine And.intro (rfl) ?_
  conv => whnf
  intro w3 h3
  have HB3 := Lib.hid (ext_trans HB2.out h3)
  have HO3 := Lib.hid (HO2.out.keep h3)
  clear h3 HO2
  obtain ⟨z, hz⟩ : ∃ p, ((bs sa).toList == (bs sb).toList) = p := ⟨_, rfl⟩
  rw [hz]
  clear hz
  cases z
  rotate_left
  · go_wp2_with fail
    go_ret
    exact ⟨_, rfl, HB3.out⟩
  go_upto_region 5 with fail
  refine wp_region_et gmT gmT_ok [⟨w.heap.size, 0, [.string (bs si), .string (bs sa), .string (bs sb), .int .i64 sk, .int .i64 sl, .int .i64 sc]⟩] (Below w3.heap.size w3) [(1, 0)] [] [(26, .bool ((sk != 1) && (sk != 2)))] (by kernel_rfl) (Below.refl _ _)
    (obsC (fun u hu => rangeKeep (range_new HO3.out) hu) obsN) ⟨rfl, trivial⟩ ?_
  conv => whnf
  intro f3
  conv => whnf
  refine And.intro (rfl) ?_
  conv => whnf
  intro w4 h4
  have HB4 := Lib.hid (ext_trans HB3.out h4)
  have HO4 := Lib.hid (HO3.out.keep h4)
  clear h4 HO3
  obtain ⟨z, hz⟩ : ∃ p, ((sk != 1) && (sk != 2)) = p := ⟨_, rfl⟩
  rw [hz]
  clear hz
  cases z
  rotate_left
  · go_wp2_with fail
    go_ret
    exact ⟨_, rfl, HB4.out⟩
  go_upto_region 7 with fail
  refine wp_region_et gmT gmT_ok [⟨w.heap.size, 0, [.string (bs si), .string (bs sa), .string (bs sb), .int .i64 sk, .int .i64 sl, .int .i64 sc]⟩] (Below w4.heap.size w4) [(1, 0)] [] [(35, .bool (((decide (sl < 1) || decide (32768 < sl)) || decide (sc < 1)) || decide (3 < sc)))] (by kernel_rfl) (Below.refl _ _)
    (obsC (fun u hu => rangeKeep (range_new HO4.out) hu) obsN) ⟨rfl, trivial⟩ ?_
  conv => whnf
  intro f4
  conv => whnf
  refine And.intro (rfl) ?_
  conv => whnf
  intro w5 h5
  have HB5 := Lib.hid (ext_trans HB4.out h5)
  have HO5 := Lib.hid (HO4.out.keep h5)
  clear h5 HO4
  obtain ⟨z, hz⟩ : ∃ p, (((decide (sl < 1) || decide (32768 < sl)) || decide (sc < 1)) || decide (3 < sc)) = p := ⟨_, rfl⟩
  rw [hz]
  clear hz
  cases z
  rotate_left
  · go_wp2_with fail
    go_ret
    exact ⟨_, rfl, HB5.out⟩
  go_wp2_with fail
  go_ret
  exact ⟨_, rfl, HB5.out⟩
end Go.Proofs.YtfpnjbomlmhlpaaGreat

/- The reference's structure: Few, Path (printed by wip/gen_gmo.py). -/
namespace Go.Proofs.YtfpnjbomlmhlpaaGreat
open Go.RowKit

theorem find_or {T : Type} [Inhabited T] (p : T → Bool) (l : List T) : (l.find? p).getD default = default ∨ (l.find? p).getD default ∈ l := by
  cases h : l.find? p with
  | none => exact .inl rfl
  | some x => exact .inr (List.mem_of_find?_eq_some h)
theorem part_slices {w : World} {ps : List Prt} (h : ∀ x ∈ ps, PrtOK w x) (id : List UInt8) : ∃ oa on oc, ((prFind ps id).getD default).ov = .slice oa on oc ∧ ∃ ha hn hc, ((prFind ps id).getD default).hv = .slice ha hn hc := by
  rcases find_or (fun x : Prt => x.id == id) ps with e | e
  · unfold prFind
    rw [e]
    exact ⟨none, 0, 0, rfl, none, 0, 0, rfl⟩
  · obtain ⟨a, c, e1, _⟩ := (h _ e).o
    obtain ⟨a', c', e2, _⟩ := (h _ e).hs
    exact ⟨_, _, _, e1, _, _, _, e2⟩
/-- few of each kind, if it says so -/
def RetF (w : World) (D : Des) (ks : List Pkg) (e : Ending) (w' : World) : Prop := ∃ b : Bool, e = .returned (.bool b) ∧ (b = true → (D.n.n ≤ 40 ∧ D.p.n ≤ 40 ∧ D.s.n ≤ 40 ∧ D.k.n ≤ 40 ∧ D.e.n ≤ 40) ∧ ∀ x ∈ ks, x.aft.length ≤ 40) ∧ Below w.heap.size w w'
set_option maxRecDepth 100000 in
set_option maxHeartbeats 400000 in
theorem rFew_any (D : Des) (ns : List Nod) (es : List Nd) (ps : List Prt) (ss : List Sea) (ks : List Pkg) (w : World) (h : DesX w D ns es ps ss ks) : Calls Tryz.prog 4 #[.agg (desA D), .int .i64 40] w (RetF w D ks) := by
  have HKO := Lib.hid h.ko
  have H3 := Lib.hid (fun i (hi : i < ks.length) => h.k.at hi)
  have hkn := h.k.n
  have hkl := h.k.len
  unfold maxLen at hkl
  obtain ⟨hull, ⟨na, nn, nc⟩, ⟨pa, pn, pc⟩, ⟨sa, sn, sc⟩, ⟨ka, kn, kc⟩, ⟨ea, en, ec⟩⟩ := D
  dsimp only at hkn
  obtain rfl : kn = ks.length := hkn
  clear h
  show Calls Tryz.prog 4 #[.agg #[.string (bs hull), .slice na nn nc, .slice pa pn pc, .slice sa sn sc, .slice ka ks.length kc, .slice ea en ec], .int .i64 40] w _
  obtain ⟨W1, HO1, HB1, HW⟩ := one_box w #[.string (bs hull), .slice na nn nc, .slice pa pn pc, .slice sa sn sc, .slice ka ks.length kc, .slice ea en ec] 28
  go_enter Tryz.func4, Tryz.ntmps4
  go_upto_region 1 with fail
  rw [HW.out]
  clear HW
  refine wp_region_et gmT gmT_ok [⟨w.heap.size, 0, [.string (bs hull), .slice na nn nc, .slice pa pn pc, .slice sa sn sc, .slice ka ks.length kc, .slice ea en ec]⟩] (Below W1.heap.size W1) [(2, 0)] [] [(38, .bool ((((decide (40 < (nn : Int)) || decide (40 < (pn : Int))) || decide (40 < (sn : Int))) || decide (40 < (ks.length : Int))) || decide (40 < (en : Int))))] (by kernel_rfl) (Below.refl _ _)
    (obsC (fun u hu => rangeKeep (range_new HO1.out) hu) obsN) ⟨rfl, trivial⟩ ?_
  conv => whnf
  intro f1
  conv => whnf
  refine And.intro (rfl) ?_
  conv => whnf
  intro w2 h2
  have HB2 := Lib.hid (ext_trans HB1.out h2)
  have HO2 := Lib.hid (HO1.out.keep h2)
  clear h2 HO1 HB1
  obtain ⟨z, hz⟩ : ∃ p, ((((decide (40 < (nn : Int)) || decide (40 < (pn : Int))) || decide (40 < (sn : Int))) || decide (40 < (ks.length : Int))) || decide (40 < (en : Int))) = p := ⟨_, rfl⟩
  have HZ := Lib.hid hz
  rw [hz]
  clear hz
  cases z
  rotate_left
  · go_wp2_with fail
    go_ret
    exact ⟨false, rfl, fun h => (by cases h), HB2.out⟩
  have HF : Hid (nn ≤ 40 ∧ pn ≤ 40 ∧ sn ≤ 40 ∧ ks.length ≤ 40 ∧ en ≤ 40) := by
    show _ ∧ _
    have q := HZ.out
    simp only [Bool.or_eq_false_iff, decide_eq_false_iff_not] at q
    omega
  clear HZ
  go_wp2_with fail
  go_loopw [5] (fun i wr => ∃ k : Nat, k ≤ ks.length ∧ i = .int .i64 k ∧ Hid (Below w2.heap.size w2 wr) ∧ Hid (∀ j, j < k → (pki ks j).aft.length ≤ 40)) (fun i _ => ks.length - (intOf i).toNat)
  case atStart => exact ⟨0, Nat.zero_le _, rfl, Below.refl _ _, fun j h => by omega⟩
  case round =>
    obtain ⟨k, hk, rfl, hb, haf⟩ := hrel
    have HBW := Lib.hid (ext_trans HB2.out hb.out)
    have HOW := Lib.hid (HO2.out.keep hb.out)
    have c4 := HOW.out.cell 4
    dsimp at c4
    by_cases hlt : k < ks.length
    · obtain ⟨b, off, ha, hc⟩ := H3.out k hlt
      obtain rfl : ka = some ⟨b, off, none⟩ := ha
      have hc := hc.keep HBW.out
      have hko := HKO.out _ (pki_mem hlt)
      have i1 : (k : Int) < ks.length := by omega
      obtain ⟨⟨ki, kb, kpv, kh, kav, kps, kaf⟩, hx⟩ : ∃ y, pki ks k = y := ⟨_, rfl⟩
      have HKA : Hid ((pki ks k).aft = kaf) := by show _ = _; rw [hx]
      rw [hx] at hc hko
      obtain ⟨va, vc, e1, _⟩ := hko.p
      obtain ⟨ua, uc, e2, _⟩ := hko.a
      dsimp only at e1 e2
      subst e1 e2
      have HC := Lib.hid hc
      clear hc hko hx
      go_upto_region 6 with fail
      clear c4
      refine wp_region_et gmT gmT_ok [⟨w.heap.size, 0, [.string (bs hull), .slice na nn nc, .slice pa pn pc, .slice sa sn sc, .slice (some ⟨b, off, none⟩) ks.length kc, .slice ea en ec]⟩, ⟨b, off + k * 5, [.string (bs ki), .string (bs kb), .slice va (kps.map bs).length vc, .int .i64 kh, .slice ua (kaf.map bs).length uc]⟩] (Below wr.heap.size wr) [(2, 0)] [(49, .ix k 1), (59, .ix k 1)] [(65, .bool (decide (40 < ((kps.map bs).length : Int)) || decide (40 < ((kaf.map bs).length : Int))))] (by kernel_rfl) (Below.refl _ _)
        (obsC (fun u hu => rangeKeep (range_new HOW.out) hu) (obsC (fun u hu => rangeKeep (pk_range HC.out) hu) obsN)) ⟨rfl, trivial⟩ ?_
      conv => whnf
      refine And.intro (under_of ⟨rfl, hlt, rfl, rfl⟩) ?_
      conv => whnf
      refine And.intro (under_of ⟨rfl, hlt, rfl, rfl⟩) ?_
      conv => whnf
      intro f2
      conv => whnf
      refine And.intro (rfl) ?_
      conv => whnf
      intro w3 h3
      have HB3 := Lib.hid (ext_trans hb.out h3)
      have HBW3 := Lib.hid (ext_trans HBW.out h3)
      clear h3
      obtain ⟨z, hz⟩ : ∃ p, (decide (40 < ((kps.map bs).length : Int)) || decide (40 < ((kaf.map bs).length : Int))) = p := ⟨_, rfl⟩
      have HAN : Hid (z = false → ∀ j, j < k + 1 → (pki ks j).aft.length ≤ 40) := fun e j hj => by
        rw [← hz] at e
        simp only [Bool.or_eq_false_iff, decide_eq_false_iff_not, List.length_map] at e
        by_cases e2 : j = k
        · subst e2; rw [HKA.out]; omega
        · exact haf.out j (by omega)
      rw [hz]
      clear hz haf
      cases z
      · have HAN2 : Hid (∀ j, j < k + 1 → (pki ks j).aft.length ≤ 40) := HAN.out (by trivial)
        clear HAN
        go_wp2_with fail
        go_roundw
        case rel => exact ⟨k + 1, by omega, by go_num, HB3, HAN2⟩
        case measure => simp [intOf]; omega
      · go_wp2_with fail
        go_ret
        exact ⟨false, rfl, fun h => (by cases h), HBW3.out⟩
    · have i1 : ¬ (k : Int) < ks.length := by omega
      go_wp2_with fail
      go_ret
      exact ⟨true, rfl, fun _ => ⟨HF.out, fun x hx => by obtain ⟨j, hj, rfl⟩ := mem_pki hx; exact haf.out j (by omega)⟩, HBW.out⟩
/-- it comes back with strings -/
def RetSs (w : World) (e : Ending) (w' : World) : Prop := ∃ (v : Value) (l : List (List UInt8)), e = .returned v ∧ SZ w' v (l.map bs) ∧ Below w.heap.size w w'
set_option maxRecDepth 100000 in
set_option maxHeartbeats 600000 in
theorem rPath_any (D : Des) (ns : List Nod) (ps : List Prt) (nid : List UInt8) (w : World) (h : SNo w (.slice D.n.a D.n.n D.n.c) ns) (hl : ns.length ≤ 100000) (hp : SPr w (.slice D.p.a D.p.n D.p.c) ps) (hpo : ∀ x ∈ ps, PrtOK w x) (hpl : ps.length ≤ 100000) : Calls Tryz.prog 55 #[.agg (desA D), .string (bs nid)] w (RetSs w) := by
  have HS := Lib.hid h
  have HP := Lib.hid hp
  have HPO := Lib.hid hpo
  clear h hp hpo
  obtain ⟨W1, HO1, HB1, HW1, _⟩ := boxD w D
  unfold desA
  go_enter Tryz.func55, Tryz.ntmps55
  go_upto_region 1 with fail
  rw [HW1.out]
  clear HW1
  obtain ⟨c0, c1, c2, c3, c4, c5⟩ := desC HO1.out
  go_wp2_with fail
  refine (rNode_any D ns nid W1 (HS.out.keep HB1.out) hl).mono ?_
  rintro e w2 ⟨rfl, hb2⟩
  have HB2 := Lib.hid (ext_trans HB1.out hb2)
  have HD2 := Lib.hid (HO1.out.keep hb2)
  clear hb2 c0 c1 c2 c3 c4 c5 HO1
  unfold nodeV
  obtain ⟨⟨yi, yk, yp⟩, hy⟩ : ∃ y, (noFind ns nid).getD default = y := ⟨_, rfl⟩
  obtain ⟨b2, hbb⟩ : ∃ b, (noFind ns nid).isSome = b := ⟨_, rfl⟩
  rw [hy, hbb]
  clear hy hbb
  obtain ⟨W2b, hW2b⟩ : ∃ W, w2.alloc (.cells #[.string (bs yi), .int .i64 yk, .string (bs yp)] 107) = W := ⟨_, rfl⟩
  have HO2b : Hid (ObjAt W2b w2.heap.size #[.string (bs yi), .int .i64 yk, .string (bs yp)] 107) := by show ObjAt ..; rw [← hW2b]; exact ObjAt.new _ _ _
  have HN2 : Hid (Below w2.heap.size w2 W2b) := by show Below ..; rw [← hW2b]; exact (Below.refl _ _).alloc (Nat.le_refl _) _
  have HW2b := Lib.hid hW2b
  clear hW2b
  simp only [noA]
  go_upto_region 3 with fail
  rw [HW2b.out]
  clear HW2b
  have HB3 := Lib.hid (ext_trans HB2.out HN2.out)
  have HD3 := Lib.hid (HD2.out.keep HN2.out)
  have HTAIL : Hid (∀ (t : List UInt8) (W : World), Below w.heap.size w W → Calls Tryz.prog 54 #[.agg (desA D), .string (bs t)] W (RetU W)) := fun t W hW => rup_any D ns t W (HS.out.keep hW) hl
  clear HD2 HO2b
  cases b2
  · obtain ⟨c0, c1, c2, c3, c4, c5⟩ := desC HD3.out
    go_wp2_with fail
    refine (rPart_any D ps nid W2b (HP.out.keep HB3.out) (fun x hx => (HPO.out x hx).keep HB3.out) hpl).mono ?_
    rintro e w4 ⟨rfl, hb4⟩
    have HB4 := Lib.hid (ext_trans HB3.out hb4)
    have HD4 := Lib.hid (HD3.out.keep hb4)
    clear hb4 c0 c1 c2 c3 c4 c5 HD3
    unfold partV
    obtain ⟨y, hy⟩ : ∃ y, (prFind ps nid).getD default = y := ⟨_, rfl⟩
    obtain ⟨poa, pon, poc, peo, pha, phn, phc, peh⟩ : ∃ oa on oc, y.ov = .slice oa on oc ∧ ∃ ha hn hc, y.hv = .slice ha hn hc := by
      rw [← hy]
      exact part_slices HPO.out nid
    obtain ⟨b4, hbb⟩ : ∃ b, (prFind ps nid).isSome = b := ⟨_, rfl⟩
    rw [hy, hbb]
    obtain ⟨pi, prev, pkd, pnd, pgr, pth, pov, phv, psc, pln, pms, pcx, pcy, pcz, pax, pay, paz, ptn, pouter, pholes, phvs⟩ := y
    dsimp only at peo peh
    subst peo peh
    clear hy hbb
    obtain ⟨W4b, hW4b⟩ : ∃ W, w4.alloc (.cells #[.string (bs pi), .int .i64 prev, .int .i64 pkd, .string (bs pnd), .string (bs pgr), .int .i64 pth, .slice poa pon poc, .slice pha phn phc, .string (bs psc), .int .i64 pln, .int .i64 pms, .int .i64 pcx, .int .i64 pcy, .int .i64 pcz, .int .i64 pax, .int .i64 pay, .int .i64 paz, .int .i64 ptn] 123) = W := ⟨_, rfl⟩
    have HO4b : Hid (ObjAt W4b w4.heap.size #[.string (bs pi), .int .i64 prev, .int .i64 pkd, .string (bs pnd), .string (bs pgr), .int .i64 pth, .slice poa pon poc, .slice pha phn phc, .string (bs psc), .int .i64 pln, .int .i64 pms, .int .i64 pcx, .int .i64 pcy, .int .i64 pcz, .int .i64 pax, .int .i64 pay, .int .i64 paz, .int .i64 ptn] 123) := by show ObjAt ..; rw [← hW4b]; exact ObjAt.new _ _ _
    have HN4 : Hid (Below w4.heap.size w4 W4b) := by show Below ..; rw [← hW4b]; exact (Below.refl _ _).alloc (Nat.le_refl _) _
    have HW4b := Lib.hid hW4b
    clear hW4b
    simp only [prA]
    go_upto_region 5 with fail
    rw [HW4b.out]
    clear HW4b
    have HB5 := Lib.hid (ext_trans HB4.out HN4.out)
    have HD5 := Lib.hid (HD4.out.keep HN4.out)
    have d3 := HO4b.out.cell 3
    dsimp at d3
    cases b4
    · go_wp2_with fail
      go_ret
      exact ⟨_, [], rfl, SZ_nil' _, HB5.out⟩
    obtain ⟨c0, c1, c2, c3, c4, c5⟩ := desC HD5.out
    go_wp2_with fail
    refine (HTAIL.out pnd W4b HB5.out).mono ?_
    rintro e w6 ⟨v, l, b, rfl, hz, hlen, _, hb6⟩
    have HB6 := Lib.hid (ext_trans HB5.out hb6)
    have HZ6 := Lib.hid hz
    obtain ⟨la, lc, rfl, l1, l2, l3⟩ := hz
    rw [List.length_map] at l1 l3
    have L3 := Lib.hid l3
    clear hb6 c0 c1 c2 c3 c4 c5 l3
    rw [List.length_map]
    go_wp2_with fail
    go_loopw [12, 13] (fun o i wr => ∃ (k : Nat) (m : List (List UInt8)), k ≤ l.length ∧ i = .int .i64 ((k : Int) - 1) ∧ m.length = l.length - k ∧ Hid (Below w6.heap.size w6 wr) ∧ Hid (OwnZ wr w6.heap.size o (m.map bs))) (fun _ i _ => (intOf i + 1).toNat)
    case atStart => exact ⟨l.length, [], Nat.le_refl _, by go_num, by simp, Below.refl _ _, OwnZ_nil _ _⟩
    case round =>
      obtain ⟨k, m, hk, rfl, hm, hb, ho⟩ := hrel
      have HML := Lib.hid hm
      have HBW := Lib.hid (ext_trans HB6.out hb.out)
      clear hm
      cases k with
      | zero =>
        have HZM := Lib.hid (OwnZ.sl ho.out)
        have i0 : ¬ (0 : Int) ≤ ((0 : Nat) : Int) - 1 := by omega
        go_wp2_with fail
        go_ret
        exact ⟨_, m, rfl, HZM.out, HBW.out⟩
      | succ j =>
        have ej : ((j + 1 : Nat) : Int) - 1 = (j : Int) := by omega
        rw [ej]
        clear ej
        have hjl : j < l.length := by omega
        have i0 : (0 : Int) ≤ (j : Int) := by omega
        have i1 : (j : Int) < l.length := by omega
        obtain ⟨xb, xo, rfl, hc⟩ := L3.out j hjl
        have c0 := cell_keep hb.out hc
        try dsimp only at c0
        rw [zi_bs hjl] at c0
        have hlt' : ∀ g, u12.ownBlock = some g → w6.heap.size ≤ g := fun g hg => (World.ownsRow.lt ho.out g hg).1
        have hsw := hb.out.size
        have HLN : Hid ((m.map bs).length ≤ 2000000) := by show _ ≤ _; rw [List.length_map]; have := HML.out; omega
        clear hc
        go_wp2_with (at_builtin; refine wpList_app_str rfl (.tmp 46) (.tmp 51) rfl w6.heap.size u12 (m.map bs) rfl (OwnZ_alloc ho.out _) wr.heap.size 1 (bs l[j]) rfl (lit_str _ _) HLN.out (by simp; omega) ?_)
        intro va wa hoa hga _
        have hba : Below w6.heap.size w6 wa := (hb.out.alloc hsw _).grown hga (by simp; omega) hlt'
        have HOA : Hid (OwnZ wa w6.heap.size va ((m ++ [l[j]]).map bs)) := by show OwnZ ..; rw [List.map_append]; exact hoa
        have HBA := Lib.hid hba
        clear hoa hba hga hlt' hsw c0
        go_wp2_with fail
        go_roundw
        case rel => exact ⟨j, m ++ [l[j]], by omega, by go_num, by rw [List.length_append, List.length_singleton, HML.out]; omega, HBA, HOA⟩
        case measure => simp [intOf]
  obtain ⟨c0, c1, c2, c3, c4, c5⟩ := desC HD3.out
  go_upto_region 8 with fail
  go_wp2_with fail
  refine (HTAIL.out nid W2b HB3.out).mono ?_
  rintro e w6 ⟨v, l, b, rfl, hz, hlen, _, hb6⟩
  have HB6 := Lib.hid (ext_trans HB3.out hb6)
  have HZ6 := Lib.hid hz
  obtain ⟨la, lc, rfl, l1, l2, l3⟩ := hz
  rw [List.length_map] at l1 l3
  have L3 := Lib.hid l3
  clear hb6 c0 c1 c2 c3 c4 c5 l3
  rw [List.length_map]
  go_wp2_with fail
  go_loopw [12, 13] (fun o i wr => ∃ (k : Nat) (m : List (List UInt8)), k ≤ l.length ∧ i = .int .i64 ((k : Int) - 1) ∧ m.length = l.length - k ∧ Hid (Below w6.heap.size w6 wr) ∧ Hid (OwnZ wr w6.heap.size o (m.map bs))) (fun _ i _ => (intOf i + 1).toNat)
  case atStart => exact ⟨l.length, [], Nat.le_refl _, by go_num, by simp, Below.refl _ _, OwnZ_nil _ _⟩
  case round =>
    obtain ⟨k, m, hk, rfl, hm, hb, ho⟩ := hrel
    have HML := Lib.hid hm
    have HBW := Lib.hid (ext_trans HB6.out hb.out)
    clear hm
    cases k with
    | zero =>
      have HZM := Lib.hid (OwnZ.sl ho.out)
      have i0 : ¬ (0 : Int) ≤ ((0 : Nat) : Int) - 1 := by omega
      go_wp2_with fail
      go_ret
      exact ⟨_, m, rfl, HZM.out, HBW.out⟩
    | succ j =>
      have ej : ((j + 1 : Nat) : Int) - 1 = (j : Int) := by omega
      rw [ej]
      clear ej
      have hjl : j < l.length := by omega
      have i0 : (0 : Int) ≤ (j : Int) := by omega
      have i1 : (j : Int) < l.length := by omega
      obtain ⟨xb, xo, rfl, hc⟩ := L3.out j hjl
      have c0 := cell_keep hb.out hc
      try dsimp only at c0
      rw [zi_bs hjl] at c0
      have hlt' : ∀ g, u12.ownBlock = some g → w6.heap.size ≤ g := fun g hg => (World.ownsRow.lt ho.out g hg).1
      have hsw := hb.out.size
      have HLN : Hid ((m.map bs).length ≤ 2000000) := by show _ ≤ _; rw [List.length_map]; have := HML.out; omega
      clear hc
      go_wp2_with (at_builtin; refine wpList_app_str rfl (.tmp 46) (.tmp 51) rfl w6.heap.size u12 (m.map bs) rfl (OwnZ_alloc ho.out _) wr.heap.size 1 (bs l[j]) rfl (lit_str _ _) HLN.out (by simp; omega) ?_)
      intro va wa hoa hga _
      have hba : Below w6.heap.size w6 wa := (hb.out.alloc hsw _).grown hga (by simp; omega) hlt'
      have HOA : Hid (OwnZ wa w6.heap.size va ((m ++ [l[j]]).map bs)) := by show OwnZ ..; rw [List.map_append]; exact hoa
      have HBA := Lib.hid hba
      clear hoa hba hga hlt' hsw c0
      go_wp2_with fail
      go_roundw
      case rel => exact ⟨j, m ++ [l[j]], by omega, by go_num, by rw [List.length_append, List.length_singleton, HML.out]; omega, HBA, HOA⟩
      case measure => simp [intOf]
end Go.Proofs.YtfpnjbomlmhlpaaGreat

/- A region that draws its order, in which what a call returns is appended to a slice of entries that a variable holds. -/
namespace Go.Proofs.YtfpnjbomlmhlpaaGreat
open Go.RowKit

/-- what one waits for, over some steps -/
def upB (ops : Array Oper) : Nat → List Nat → List Nat
  | 0, l => l
  | n + 1, l => upB ops n (l ++ (l.flatMap fun i => match ops[i]? with | some o => (o.after.toList.filter fun e => Region.binds .any e && !l.contains e.on).map (·.on) | none => []).eraseDups)
theorem upB_spec {ops : Array Oper} {L : Nat → Bool} (hL : ClosedL ops L) : ∀ (n : Nat) (l : List Nat), (∀ i ∈ l, L i = true) → ∀ i ∈ upB ops n l, L i = true
  | 0, _, h => h
  | n + 1, l, h => by
    refine upB_spec hL n _ fun i hi => ?_
    rcases List.mem_append.1 hi with hi | hi
    · exact h i hi
    · rw [List.mem_eraseDups] at hi
      obtain ⟨j, hj, hm⟩ := List.mem_flatMap.1 hi
      split at hm
      · rename_i o ho
        obtain ⟨e, he, rfl⟩ := List.mem_map.1 hm
        obtain ⟨h1, h2⟩ := List.mem_filter.1 he
        rw [Bool.and_eq_true] at h2
        exact hL j o ho (h j hj) e (by simpa using h1) h2.1
      · cases hm
/-- all that are not special are ahead of K -/
def aheadB (sp : List Nat) (ops : List Oper) (K : Nat) : Bool := (List.range ops.length).all fun i => sp.contains i || (upB ops.toArray 6 [K]).contains i
theorem ahead_spec {sp : List Nat} {ops : List Oper} {K : Nat} (h : aheadB sp ops K = true) {i : Nat} (hi : i < ops.length) (hs : sp.contains i = false) {L : Nat → Bool} (hL : ClosedL ops.toArray L) (hl : L i = false) : L K = false := by
  cases hk : L K with
  | false => rfl
  | true =>
    have h1 := List.all_eq_true.1 h i (List.mem_range.2 hi)
    rw [hs, Bool.false_or] at h1
    have h2 := upB_spec hL 6 [K] (fun j hj => by rw [List.mem_singleton.1 hj]; exact hk) i (List.contains_iff_mem.1 h1)
    rw [hl] at h2; cases h2
theorem build_one_En (x : Ern) (w : World) : (Instr.buildSlice 40 1 #[(0, .agg (enA x))]).run Tryz.prog w = .ok (.slice (some ⟨w.heap.size, 0, none⟩) 1 1) (w.alloc (.cells (enA x) 72)) := by
  unfold enA; go_simp
/-- the call, its slice of one, the append, the store -/
structure JGr (A B C D n0 b6 : Nat) (x : Ern) (q : List Ern) (v0 : Value) (s : Nat → Option Value) (u : World) : Prop where
  ab : s A = none → s B = none
  bc : s B = none → s C = none
  cd : s C = none → s D = none
  a : ∀ v, s A = some v → v = .agg (enA x)
  b : ∀ v, s B = some v → ∃ g, v = .slice (some ⟨g, 0, none⟩) 1 1 ∧ (s C = none → EnAt u g 0 x)
  c0 : s C = none → OwnEn u n0 v0 q
  n : n0 ≤ u.heap.size
  c : ∀ v, s C = some v → OwnEn u n0 v (q ++ [x])
  d0 : s D = none → ObjAt u b6 #[v0] 40
  d : ∀ z, s D = some z → ∃ v, s C = some v ∧ ObjAt u b6 #[v] 40
theorem JGr.below {A B C D n0 b6 : Nat} {x : Ern} {q : List Ern} {v0 : Value} {s : Nat → Option Value} {u u' : World} (h : JGr A B C D n0 b6 x q v0 s u) (hb : Below u.heap.size u u') : JGr A B C D n0 b6 x q v0 s u' :=
  ⟨h.ab, h.bc, h.cd, h.a, fun v hv => by obtain ⟨g, e, k⟩ := h.b v hv; exact ⟨g, e, fun hc => (k hc).keep hb⟩, fun hc => owns_below (h.c0 hc) hb, Nat.le_trans h.n hb.size, fun v hv => owns_below (h.c v hv) hb, fun hd => (h.d0 hd).keep hb, fun z hz => by obtain ⟨v, e, o⟩ := h.d z hz; exact ⟨v, e, o.keep hb⟩⟩
section
variable {a0 : Act} {ps : List (Nat × Nat)} {T : QTab} {E : List Ob} {hs : List (Nat × Hint)}
def evGr (a0 : Act) (E : List Ob) (C0 : World → Prop) (ns : List Nat) (vs : List Value) (n0 b6 nA nB nC n6 nL : Nat) (x : Ern) (q : List Ern) (v0 : Value) (outs : List (Nat × Value)) (Q : Act → World → Prop) (ops : List Oper) (S : List Ent) : Prop :=
  (argsAt E S ns vs ∧ slotAt a0 E ops S nL v0 ∧ slotAt a0 E ops S n6 (.pointer (some ⟨b6, 0, none⟩))) ∧ ∀ (f : Nat → Value), match a0 with
    | ⟨⟨l⟩, d⟩ => finS E outs f S l fun l' => setsN f [nA, nB, nC] l' fun l'' => ∀ w' v, C0 w' → OwnEn w' n0 v (q ++ [x]) → n0 ≤ w'.heap.size → ObjAt w' b6 #[v] 40 → Q ⟨l''.toArray, d⟩ w'
theorem wp_region_gr {id : Nat} {Q : Exit → Act → World → Prop} {w : World} {ops : List Oper} (T : QTab) (hT : T.Ok) (E : List Ob) (ps : List (Nat × Nat)) (hs : List (Nat × Hint)) (outs : List (Nat × Value))
    (A B C D nA nB nC n6 nL : Nat) (F : FuncId) (ns : List Nat) (vs : List Value) (x : Ern) (q : List Ern) (v0 : Value) (n0 b6 : Nat) (C0 : World → Prop)
    (hz : (ops.all fun o => match o.dst with | some n => decide (n < a0.tmps.size) | none => true) = true) (hm : Tryz.prog.follows .mixedOrders = true)
    (hst : (ordB ops.toArray && nodB (dstsL ops) && chkB ops.toArray (quietL [A, B, C, D] 0 ops) && depB [A, B, C, D] ops.toArray) = true)
    (hsp : spD [A, B, C, D] 0 ops = [nA, nB, nC]) (hah : aheadB [A, B, C, D] ops D = true) (hne : A ≠ B ∧ A ≠ C ∧ A ≠ D ∧ B ≠ C ∧ B ≠ D ∧ C ≠ D)
    (hA : ∃ o c, ops[A]? = some o ∧ o.op = .call c ∧ c.callee = .value (.func F) ∧ c.args.toList = ns.map Operand.tmp ∧ o.dst = some nA)
    (hB : ∃ o, ops[B]? = some o ∧ o.op = .buildSlice 40 1 #[(0, .tmp nA)] ∧ o.dst = some nB ∧ ∃ e ∈ o.after, e.on = A ∧ Region.binds .any e = true)
    (hC : ∃ o, ops[C]? = some o ∧ o.op = .call { callee := .builtin .append, args := #[.tmp nL, .tmp nB], argTypes := #[40, 40] } ∧ o.dst = some nC ∧ ∃ e ∈ o.after, e.on = B ∧ Region.binds .any e = true)
    (hD : ∃ o, ops[D]? = some o ∧ o.op = .store 40 (.tmp n6) (.tmp nC) ∧ o.dst = none ∧ ∃ e ∈ o.after, e.on = C ∧ Region.binds .any e = true)
    (hen : ∀ args w, (callFunc F args).run Tryz.prog w = .ok (.enter F args) w)
    (hcall : ∀ u, C0 u → OwnEn u n0 v0 q → ObjAt u b6 #[v0] 40 → Calls Tryz.prog F vs.toArray u (Ret u (.agg (enA x))))
    (h0 : C0 w.drew) (hown : OwnEn w n0 v0 q) (hn0 : n0 ≤ w.heap.size) (hob : ObjAt w b6 #[v0] 40) (hq : q.length ≤ 900000)
    (hCB : ∀ u u', C0 u → Below u.heap.size u u' → C0 u') (hCg : ∀ u u', C0 u → n0 ≤ u.heap.size → OwnEn u n0 v0 q → u.grownBy u' v0.ownBlock → C0 u') (hCs : ∀ u v, C0 u → C0 (u.setCell ⟨b6, 0, none⟩ v))
    (hE : ObsIn (fun u => C0 u ∧ ObjAt u b6 #[v0] 40) E) (P : psOk a0 E ps)
    (h : evL a0 ps T E (fun u => C0 u ∧ ObjAt u b6 #[v0] 40) (fun u u' => Below u.heap.size u u') hs ops (evGr a0 E C0 ns vs n0 b6 nA nB nC n6 nL x q v0 outs (Q .normal) ops) (quietL [A, B, C, D] 0 ops) []) : (Code.region id ops.toArray true).wp Tryz.prog Q a0 w := by
  obtain ⟨oA, cA, hA1, hA2, hA3, hA4, hA5⟩ := hA
  obtain ⟨oB, hB1, hB2, hB3, eB, hB4, hB5, hB6⟩ := hB
  obtain ⟨oC, hC1, hC2, hC3, eC, hC4, hC5, hC6⟩ := hC
  obtain ⟨oD, hD1, hD2, hD3, eD, hD4, hD5, hD6⟩ := hD
  obtain ⟨nAB, nAC, nAD, nBC, nBD, nCD⟩ := hne
  have hst' := hst
  simp only [Bool.and_eq_true] at hst'
  obtain ⟨⟨⟨s1, s2⟩, s3⟩, s4⟩ := hst'
  have hsub : ∀ o ∈ quietL [A, B, C, D] 0 ops, o ∈ ops := fun o ho => by obtain ⟨k, hk, _⟩ := mem_quietL ho; exact List.mem_of_getElem? hk
  obtain ⟨S, H, af, I, ⟨⟨g1, g2, g3⟩, h2⟩, f1, f2, f3⟩ := evL_fin P hT hE hz _ [] [] a0 hsub s3 InvQ.start h
  refine mix_coreD [A, B, C, D] E C0 (fun u u' => Below u.heap.size u u') outs (JGr A B C D n0 b6 x q v0) hz hm hst (fun u => C0 u ∧ ObjAt u b6 #[v0] 40) (fun i hi hs L s u hL hl hn hc hj => ⟨hc, hj.d0 (hn D (ahead_spec hah hi hs hL hl))⟩)
    h0 ⟨fun _ => rfl, fun _ => rfl, fun _ => rfl, fun v hv => (by cases hv), fun v hv => (by cases hv), fun _ => hown, hn0, fun v hv => (by cases hv), fun _ => hob, fun v hv => (by cases hv)⟩ hCB (fun u _ => Below.refl _ _) (fun s u u' _ hj hb => hj.below hb) I ⟨⟨?_, ?_, ?_, ?_, trivial⟩, fun f s hsv => ?_⟩ f1 f2 f3
  · intro o a u s ho hCu hJ hn hq' _ hdep K hK
    rw [hA1] at ho; cases ho
    have hx : cA.args.toList.map a.eval = vs := by
      rw [hA4]
      refine argsAt_map g1 fun n hn' => hq' n ?_
      unfold Oper.looksAt
      refine List.mem_append_left _ (List.mem_filterMap.2 ⟨.tmp n, ?_, rfl⟩)
      rw [hA2]
      unfold Op.operands
      have : Operand.tmp n ∈ cA.args.toList := by rw [hA4]; exact List.mem_map.2 ⟨n, hn', rfl⟩
      simp only [Call.operands, hA3]; simp at this; simp [this]
    have hsB := hJ.ab hn
    have hsC := hJ.bc hsB
    have hsD := hJ.cd hsC
    refine wp_of_enter (enters_call hA2 hA3 hx hen u) ((hcall u hCu (hJ.c0 hsC) (hJ.d0 hsD)).mono fun e u' ⟨he, hb⟩ => ⟨_, he, ?_⟩)
    have hJ' := hJ.below hb
    refine hK _ _ (hCB _ _ hCu hb) ⟨fun h => (by rw [updS_same] at h; cases h), fun _ => ?_, fun _ => ?_, fun v hv => ?_, fun v hv => ?_, fun _ => hJ'.c0 hsC, hJ'.n, fun v hv => ?_, fun _ => hJ'.d0 hsD, fun v hv => ?_⟩
    · rw [updS_other (Ne.symm nAC)]; exact hsC
    · rw [updS_other (Ne.symm nAD)]; exact hsD
    · rw [updS_same] at hv; cases hv; rfl
    · rw [updS_other (Ne.symm nAB), hsB] at hv; cases hv
    · rw [updS_other (Ne.symm nAC), hsC] at hv; cases hv
    · rw [updS_other (Ne.symm nAD), hsD] at hv; cases hv
  · intro o a u s ho hCu hJ hn _ _ hdep K hK
    rw [hB1] at ho; cases ho
    obtain ⟨v, v1, v2⟩ := hdep eB hB4 hB6 (by rw [hB5]; simp)
    rw [hB5] at v1 v2
    have hx : a.eval (.tmp nA) = .agg (enA x) := (v2 oA nA hA1 hA5).trans (hJ.a v v1)
    have hsC := hJ.bc hn
    have hsD := hJ.cd hsC
    have hb : Below u.heap.size u (u.alloc (.cells (enA x) 72)) := (Below.refl _ _).alloc (Nat.le_refl _) _
    have hJ' := hJ.below hb
    refine wp_of_run (v := .slice (some ⟨u.heap.size, 0, none⟩) 1 1) (w' := u.alloc (.cells (enA x) 72)) ?_ ?_
    · unfold execOp; simp only [hB2, List.map_toArray, List.map_cons, List.map_nil, hx, Sem.run_bind, build_one_En]; rfl
    refine hK _ _ (hCB _ _ hCu hb) ⟨fun h => ?_, fun h => (by rw [updS_same] at h; cases h), fun _ => ?_, fun v' hv => ?_, fun v' hv => ?_, fun _ => hJ'.c0 hsC, hJ'.n, fun v' hv => ?_, fun _ => hJ'.d0 hsD, fun v' hv => ?_⟩
    · rw [updS_other nAB, v1] at h; cases h
    · rw [updS_other (Ne.symm nBD)]; exact hsD
    · rw [updS_other nAB] at hv; exact hJ.a v' hv
    · rw [updS_same] at hv; cases hv
      exact ⟨_, rfl, fun _ => enC (ObjAt.new u (enA x) 72)⟩
    · rw [updS_other (Ne.symm nBC), hsC] at hv; cases hv
    · rw [updS_other (Ne.symm nBD), hsD] at hv; cases hv
  · intro o a u s ho hCu hJ hn hq' hold hdep K hK
    rw [hC1] at ho; cases ho
    obtain ⟨v, v1, v2⟩ := hdep eC hC4 hC6 (by rw [hC5]; simp)
    rw [hC5] at v1 v2
    obtain ⟨g, e1, e2⟩ := hJ.b v v1
    have hx : a.eval (.tmp nB) = .slice (some ⟨g, 0, none⟩) 1 1 := (v2 oB nB hB1 hB3).trans e1
    have hsD := hJ.cd hn
    have hL : a.eval (.tmp nL) = v0 := by
      unfold slotAt at g2
      split at g2
      · rename_i m s' hl'
        rw [← g2]; exact hq' nL (by unfold Oper.looksAt; rw [hC2]; simp [Op.operands, Call.operands]) _ hl' rfl
      · cases g2
      · rw [hold nL (by simpa using g2.1)]; exact g2.2
    have hown := hJ.c0 hn
    refine wp_app_En (.tmp nL) (.tmp nB) hC2 n0 v0 q [x] hL hown ⟨g, 0, none⟩ 1 1 hx (sEn_one (e2 hn)) (by simp; omega) hJ.n fun v' u' a1 a2 a3 => ?_
    have hne6 : v0.ownBlock ≠ some b6 := (hJ.d0 hsD).ne hown (by decide)
    refine hK _ _ (hCg _ _ hCu hJ.n hown a2) ⟨fun h => ?_, fun h => ?_, fun h => (by rw [updS_same] at h; cases h), fun v' hv => ?_, fun v' hv => ?_, fun h => (by rw [updS_same] at h; cases h), Nat.le_trans hJ.n a2.size, fun v'' hv => ?_, fun _ => (hJ.d0 hsD).grown a2 hne6, fun v'' hv => ?_⟩
    · rw [updS_other nAC] at h; rw [updS_other nBC]; exact hJ.ab h
    · rw [updS_other nBC, v1] at h; cases h
    · rw [updS_other nAC] at hv; exact hJ.a v' hv
    · rw [updS_other nBC] at hv
      obtain ⟨g', q1, _⟩ := hJ.b v' hv
      exact ⟨g', q1, fun h => (by rw [updS_same] at h; cases h)⟩
    · rw [updS_same] at hv; cases hv; exact a1
    · rw [updS_other (Ne.symm nCD), hsD] at hv; cases hv
  · intro o a u s ho hCu hJ hn hq' hold hdep K hK
    rw [hD1] at ho; cases ho
    obtain ⟨v, v1, v2⟩ := hdep eD hD4 hD6 (by rw [hD5]; simp)
    rw [hD5] at v1 v2
    have hx : a.eval (.tmp nC) = v := v2 oC nC hC1 hC3
    have h6 : a.eval (.tmp n6) = .pointer (some ⟨b6, 0, none⟩) := by
      unfold slotAt at g3
      split at g3
      · rename_i m s' hl'
        rw [← g3]; exact hq' n6 (by unfold Oper.looksAt; rw [hD2]; simp [Op.operands]) _ hl' rfl
      · cases g3
      · rw [hold n6 (by simpa using g3.1)]; exact g3.2
    have hob := hJ.d0 hn
    have hov := hJ.c v v1
    have hsl : v.oneCell' = true ∧ v.cells = #[v] := by
      obtain ⟨va, vc, rfl, _⟩ := OwnEn.s hov
      exact ⟨rfl, rfl⟩
    refine wp_of_skip (w' := u.setCell ⟨b6, 0, none⟩ v) ?_ ?_
    · unfold execOp
      simp only [hD2, Sem.run_bind, h6, hx, run_storeAt_one (c := v0) (by rw [hob.cell]; rfl) (hob.frozen 0) (by kernel_rfl : (Tryz.prog.info? 40).map (·.size) = some 1) hsl.1 hsl.2]; rfl
    refine hK _ _ (hCs _ _ hCu) ⟨fun h => ?_, fun h => ?_, fun h => ?_, fun v' hv => ?_, fun v' hv => ?_, fun h => ?_, by have := hJ.n; simp [World.setCell]; exact this, fun v'' hv => ?_, fun h => (by rw [updS_same] at h; cases h), fun v'' hv => ?_⟩
    · rw [updS_other nAD] at h; rw [updS_other nBD]; exact hJ.ab h
    · rw [updS_other nBD] at h; rw [updS_other nCD]; exact hJ.bc h
    · rw [updS_other nCD, v1] at h; cases h
    · rw [updS_other nAD] at hv; exact hJ.a v' hv
    · rw [updS_other nBD] at hv
      obtain ⟨g', q1, _⟩ := hJ.b v' hv
      exact ⟨g', q1, fun h => (by rw [updS_other nCD, v1] at h; cases h)⟩
    · rw [updS_other nCD, v1] at h; cases h
    · rw [updS_other nCD, v1] at hv; cases hv
      exact hob.rowSet hov (by decide) _ _
    · exact ⟨v, by rw [updS_other nCD]; exact v1, hob.set 0 v⟩
  · obtain ⟨vC, c1, c2⟩ := hsv C (by simp) oC hC1
    obtain ⟨vD, d1, _⟩ := hsv D (by simp) oD hD1
    obtain ⟨⟨l⟩, d⟩ := a0
    dsimp only at h2 ⊢
    rw [hsp]
    refine finS_mono (fun l' hl' => ?_) (h2 f)
    rw [setsN_eq] at hl' ⊢
    intro w' hC' hJ
    obtain ⟨v, e1, e2⟩ := hJ.d vD d1
    exact hl' w' v hC' (hJ.c v e1) hJ.n e2
end
end Go.Proofs.YtfpnjbomlmhlpaaGreat
