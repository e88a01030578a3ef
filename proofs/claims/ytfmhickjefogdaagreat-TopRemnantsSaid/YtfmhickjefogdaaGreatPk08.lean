/- Move of the reference's regions (printed by wip/gen_rmh.py). -/
import Derived.Test.YtfmhickjefogdaaGreatPk07
import Derived.OneCell
set_option linter.unusedSimpArgs false
set_option linter.unusedVariables false

/- near, close of the reference's regions: they come back (printed by wip/gen_rmf.py). -/
namespace Go.Proofs.YtfmhickjefogdaaGreat
open Go.RowKit

/-- nearer than that -/
def nearF (a b c : Pnt) (g : Int) : Bool := if IntKind.i64.wrap (IntKind.i64.wrap (IntKind.i64.wrap (b.x - a.x) * IntKind.i64.wrap (c.x - a.x)) + IntKind.i64.wrap (IntKind.i64.wrap (b.y - a.y) * IntKind.i64.wrap (c.y - a.y))) ≤ 0 then decide (IntKind.i64.wrap (IntKind.i64.wrap (IntKind.i64.wrap (c.x - a.x) * IntKind.i64.wrap (c.x - a.x)) + IntKind.i64.wrap (IntKind.i64.wrap (c.y - a.y) * IntKind.i64.wrap (c.y - a.y))) < IntKind.i64.wrap (g * g)) else if IntKind.i64.wrap (IntKind.i64.wrap (IntKind.i64.wrap (b.x - a.x) * IntKind.i64.wrap (b.x - a.x)) + IntKind.i64.wrap (IntKind.i64.wrap (b.y - a.y) * IntKind.i64.wrap (b.y - a.y))) ≤ IntKind.i64.wrap (IntKind.i64.wrap (IntKind.i64.wrap (b.x - a.x) * IntKind.i64.wrap (c.x - a.x)) + IntKind.i64.wrap (IntKind.i64.wrap (b.y - a.y) * IntKind.i64.wrap (c.y - a.y))) then decide (IntKind.i64.wrap (IntKind.i64.wrap (IntKind.i64.wrap (c.x - b.x) * IntKind.i64.wrap (c.x - b.x)) + IntKind.i64.wrap (IntKind.i64.wrap (c.y - b.y) * IntKind.i64.wrap (c.y - b.y))) < IntKind.i64.wrap (g * g)) else if IntKind.i64.wrap (IntKind.i64.wrap (IntKind.i64.wrap (b.x - a.x) * IntKind.i64.wrap (c.y - a.y)) - IntKind.i64.wrap (IntKind.i64.wrap (b.y - a.y) * IntKind.i64.wrap (c.x - a.x))) < 0 then (decide (IntKind.i64.wrap (-IntKind.i64.wrap (IntKind.i64.wrap (IntKind.i64.wrap (b.x - a.x) * IntKind.i64.wrap (c.y - a.y)) - IntKind.i64.wrap (IntKind.i64.wrap (b.y - a.y) * IntKind.i64.wrap (c.x - a.x)))) < 2147483648) && decide (IntKind.i64.wrap (IntKind.i64.wrap (-IntKind.i64.wrap (IntKind.i64.wrap (IntKind.i64.wrap (b.x - a.x) * IntKind.i64.wrap (c.y - a.y)) - IntKind.i64.wrap (IntKind.i64.wrap (b.y - a.y) * IntKind.i64.wrap (c.x - a.x)))) * IntKind.i64.wrap (-IntKind.i64.wrap (IntKind.i64.wrap (IntKind.i64.wrap (b.x - a.x) * IntKind.i64.wrap (c.y - a.y)) - IntKind.i64.wrap (IntKind.i64.wrap (b.y - a.y) * IntKind.i64.wrap (c.x - a.x))))) < IntKind.i64.wrap (IntKind.i64.wrap (g * g) * IntKind.i64.wrap (IntKind.i64.wrap (IntKind.i64.wrap (b.x - a.x) * IntKind.i64.wrap (b.x - a.x)) + IntKind.i64.wrap (IntKind.i64.wrap (b.y - a.y) * IntKind.i64.wrap (b.y - a.y)))))) else (decide (IntKind.i64.wrap (IntKind.i64.wrap (IntKind.i64.wrap (b.x - a.x) * IntKind.i64.wrap (c.y - a.y)) - IntKind.i64.wrap (IntKind.i64.wrap (b.y - a.y) * IntKind.i64.wrap (c.x - a.x))) < 2147483648) && decide (IntKind.i64.wrap (IntKind.i64.wrap (IntKind.i64.wrap (IntKind.i64.wrap (b.x - a.x) * IntKind.i64.wrap (c.y - a.y)) - IntKind.i64.wrap (IntKind.i64.wrap (b.y - a.y) * IntKind.i64.wrap (c.x - a.x))) * IntKind.i64.wrap (IntKind.i64.wrap (IntKind.i64.wrap (b.x - a.x) * IntKind.i64.wrap (c.y - a.y)) - IntKind.i64.wrap (IntKind.i64.wrap (b.y - a.y) * IntKind.i64.wrap (c.x - a.x)))) < IntKind.i64.wrap (IntKind.i64.wrap (g * g) * IntKind.i64.wrap (IntKind.i64.wrap (IntKind.i64.wrap (b.x - a.x) * IntKind.i64.wrap (b.x - a.x)) + IntKind.i64.wrap (IntKind.i64.wrap (b.y - a.y) * IntKind.i64.wrap (b.y - a.y))))))
set_option maxRecDepth 100000 in
set_option maxHeartbeats 1000000 in
theorem rnear13_any (a b c : Pnt) (g : Int) (w : World) : Calls Tryz.prog 98 #[ptV a, ptV b, ptV c, .int .i64 g] w (Ret w (.bool (nearF a b c g))) := by
  have HF : Hid (nearF a b c g = (if IntKind.i64.wrap (IntKind.i64.wrap (IntKind.i64.wrap (b.x - a.x) * IntKind.i64.wrap (c.x - a.x)) + IntKind.i64.wrap (IntKind.i64.wrap (b.y - a.y) * IntKind.i64.wrap (c.y - a.y))) ≤ 0 then decide (IntKind.i64.wrap (IntKind.i64.wrap (IntKind.i64.wrap (c.x - a.x) * IntKind.i64.wrap (c.x - a.x)) + IntKind.i64.wrap (IntKind.i64.wrap (c.y - a.y) * IntKind.i64.wrap (c.y - a.y))) < IntKind.i64.wrap (g * g)) else if IntKind.i64.wrap (IntKind.i64.wrap (IntKind.i64.wrap (b.x - a.x) * IntKind.i64.wrap (b.x - a.x)) + IntKind.i64.wrap (IntKind.i64.wrap (b.y - a.y) * IntKind.i64.wrap (b.y - a.y))) ≤ IntKind.i64.wrap (IntKind.i64.wrap (IntKind.i64.wrap (b.x - a.x) * IntKind.i64.wrap (c.x - a.x)) + IntKind.i64.wrap (IntKind.i64.wrap (b.y - a.y) * IntKind.i64.wrap (c.y - a.y))) then decide (IntKind.i64.wrap (IntKind.i64.wrap (IntKind.i64.wrap (c.x - b.x) * IntKind.i64.wrap (c.x - b.x)) + IntKind.i64.wrap (IntKind.i64.wrap (c.y - b.y) * IntKind.i64.wrap (c.y - b.y))) < IntKind.i64.wrap (g * g)) else if IntKind.i64.wrap (IntKind.i64.wrap (IntKind.i64.wrap (b.x - a.x) * IntKind.i64.wrap (c.y - a.y)) - IntKind.i64.wrap (IntKind.i64.wrap (b.y - a.y) * IntKind.i64.wrap (c.x - a.x))) < 0 then (decide (IntKind.i64.wrap (-IntKind.i64.wrap (IntKind.i64.wrap (IntKind.i64.wrap (b.x - a.x) * IntKind.i64.wrap (c.y - a.y)) - IntKind.i64.wrap (IntKind.i64.wrap (b.y - a.y) * IntKind.i64.wrap (c.x - a.x)))) < 2147483648) && decide (IntKind.i64.wrap (IntKind.i64.wrap (-IntKind.i64.wrap (IntKind.i64.wrap (IntKind.i64.wrap (b.x - a.x) * IntKind.i64.wrap (c.y - a.y)) - IntKind.i64.wrap (IntKind.i64.wrap (b.y - a.y) * IntKind.i64.wrap (c.x - a.x)))) * IntKind.i64.wrap (-IntKind.i64.wrap (IntKind.i64.wrap (IntKind.i64.wrap (b.x - a.x) * IntKind.i64.wrap (c.y - a.y)) - IntKind.i64.wrap (IntKind.i64.wrap (b.y - a.y) * IntKind.i64.wrap (c.x - a.x))))) < IntKind.i64.wrap (IntKind.i64.wrap (g * g) * IntKind.i64.wrap (IntKind.i64.wrap (IntKind.i64.wrap (b.x - a.x) * IntKind.i64.wrap (b.x - a.x)) + IntKind.i64.wrap (IntKind.i64.wrap (b.y - a.y) * IntKind.i64.wrap (b.y - a.y)))))) else (decide (IntKind.i64.wrap (IntKind.i64.wrap (IntKind.i64.wrap (b.x - a.x) * IntKind.i64.wrap (c.y - a.y)) - IntKind.i64.wrap (IntKind.i64.wrap (b.y - a.y) * IntKind.i64.wrap (c.x - a.x))) < 2147483648) && decide (IntKind.i64.wrap (IntKind.i64.wrap (IntKind.i64.wrap (IntKind.i64.wrap (b.x - a.x) * IntKind.i64.wrap (c.y - a.y)) - IntKind.i64.wrap (IntKind.i64.wrap (b.y - a.y) * IntKind.i64.wrap (c.x - a.x))) * IntKind.i64.wrap (IntKind.i64.wrap (IntKind.i64.wrap (b.x - a.x) * IntKind.i64.wrap (c.y - a.y)) - IntKind.i64.wrap (IntKind.i64.wrap (b.y - a.y) * IntKind.i64.wrap (c.x - a.x)))) < IntKind.i64.wrap (IntKind.i64.wrap (g * g) * IntKind.i64.wrap (IntKind.i64.wrap (IntKind.i64.wrap (b.x - a.x) * IntKind.i64.wrap (b.x - a.x)) + IntKind.i64.wrap (IntKind.i64.wrap (b.y - a.y) * IntKind.i64.wrap (b.y - a.y)))))))) := rfl
  obtain ⟨W1, HOa, HOb, HOc, HB, HW⟩ := boxP3 w a b c
  unfold ptV
  go_enter Tryz.func98, Tryz.ntmps98
  go_upto_region 1 with fail
  rw [HW.out]
  clear HW
  refine wp_region_ev gmT gmT_ok [⟨w.heap.size, 0, (ptA a).toList⟩, ⟨w.heap.size + 1, 0, (ptA b).toList⟩, ⟨w.heap.size + 1 + 1, 0, (ptA c).toList⟩] (Below W1.heap.size W1) [(4, 0), (5, 1), (6, 2)] [] [(9, .int .i64 (IntKind.i64.wrap (b.x - a.x))), (10, .int .i64 (IntKind.i64.wrap (b.y - a.y))), (11, .int .i64 (IntKind.i64.wrap (c.x - a.x))), (12, .int .i64 (IntKind.i64.wrap (c.y - a.y)))] (by kernel_rfl) mixed (by kernel_rfl) ((Below.refl _ _).drew)
    (obsC (fun u hu => rangeKeep (range_new HOa.out) hu) (obsC (fun u hu => rangeKeep (range_new HOb.out) hu) (obsC (fun u hu => rangeKeep (range_new HOc.out) hu) obsN))) ⟨rfl, rfl, rfl, trivial⟩ ?_
  conv => whnf
  intro f1
  conv => whnf
  refine And.intro (rfl) ?_
  conv => whnf
  refine And.intro (rfl) ?_
  conv => whnf
  refine And.intro (rfl) ?_
  conv => whnf
  refine And.intro (rfl) ?_
  conv => whnf
  intro w2 h2
  have HB2 := Lib.hid (ext_trans HB.out h2)
  have HOa2 := Lib.hid (HOa.out.keep h2)
  have HOb2 := Lib.hid (HOb.out.keep h2)
  have HOc2 := Lib.hid (HOc.out.keep h2)
  clear h2
  generalize IntKind.i64.wrap (b.x - a.x) = dx at *
  generalize IntKind.i64.wrap (b.y - a.y) = dy at *
  generalize IntKind.i64.wrap (c.x - a.x) = ex at *
  generalize IntKind.i64.wrap (c.y - a.y) = ey at *
  go_upto_region 2 with fail
  refine wp_region_et gmT gmT_ok [] (Below w2.heap.size w2) [] [] [(13, .int .i64 (IntKind.i64.wrap (IntKind.i64.wrap (dx * dx) + IntKind.i64.wrap (dy * dy))))] (by kernel_rfl) (Below.refl _ _)
    obsN trivial ?_
  conv => whnf
  intro f2
  conv => whnf
  refine And.intro (rfl) ?_
  conv => whnf
  intro w3 h3
  have HB3 := Lib.hid (ext_trans HB2.out h3)
  have HOa3 := Lib.hid (HOa2.out.keep h3)
  have HOb3 := Lib.hid (HOb2.out.keep h3)
  have HOc3 := Lib.hid (HOc2.out.keep h3)
  clear h3 HOa2 HOb2 HOc2
  generalize IntKind.i64.wrap (IntKind.i64.wrap (dx * dx) + IntKind.i64.wrap (dy * dy)) = long at *
  go_upto_region 3 with fail
  refine wp_region_et gmT gmT_ok [] (Below w3.heap.size w3) [] [] [(14, .int .i64 (IntKind.i64.wrap (IntKind.i64.wrap (dx * ex) + IntKind.i64.wrap (dy * ey))))] (by kernel_rfl) (Below.refl _ _)
    obsN trivial ?_
  conv => whnf
  intro f3
  conv => whnf
  refine And.intro (rfl) ?_
  conv => whnf
  intro w4 h4
  have HB4 := Lib.hid (ext_trans HB3.out h4)
  have HOa4 := Lib.hid (HOa3.out.keep h4)
  have HOb4 := Lib.hid (HOb3.out.keep h4)
  have HOc4 := Lib.hid (HOc3.out.keep h4)
  clear h4 HOa3 HOb3 HOc3
  generalize IntKind.i64.wrap (IntKind.i64.wrap (dx * ex) + IntKind.i64.wrap (dy * ey)) = along at *
  by_cases h1 : along ≤ 0
  · go_upto_region 5 with fail
    refine wp_region_et gmT gmT_ok [] (Below w4.heap.size w4) [] [] [(8, .bool (decide (IntKind.i64.wrap (IntKind.i64.wrap (ex * ex) + IntKind.i64.wrap (ey * ey)) < IntKind.i64.wrap (g * g))))] (by kernel_rfl) (Below.refl _ _)
      obsN trivial ?_
    conv => whnf
    intro f4
    conv => whnf
    refine And.intro (rfl) ?_
    conv => whnf
    intro w5 h5
    have HB5 := Lib.hid (ext_trans HB4.out h5)
    generalize decide (IntKind.i64.wrap (IntKind.i64.wrap (ex * ex) + IntKind.i64.wrap (ey * ey)) < IntKind.i64.wrap (g * g)) = z at *
    rw [if_pos h1] at HF
    go_wp2_with fail
    go_ret
    exact ⟨ret_bool HF.out.symm, HB5.out⟩
  by_cases h2 : long ≤ along
  · go_upto_region 7 with fail
    refine wp_region_ev gmT gmT_ok [⟨w.heap.size, 0, (ptA a).toList⟩, ⟨w.heap.size + 1, 0, (ptA b).toList⟩, ⟨w.heap.size + 1 + 1, 0, (ptA c).toList⟩] (Below w4.heap.size w4) [(4, 0), (5, 1), (6, 2)] [] [(15, .int .i64 (IntKind.i64.wrap (c.x - b.x))), (16, .int .i64 (IntKind.i64.wrap (c.y - b.y)))] (by kernel_rfl) mixed (by kernel_rfl) ((Below.refl _ _).drew)
      (obsC (fun u hu => rangeKeep (range_new HOa4.out) hu) (obsC (fun u hu => rangeKeep (range_new HOb4.out) hu) (obsC (fun u hu => rangeKeep (range_new HOc4.out) hu) obsN))) ⟨rfl, rfl, rfl, trivial⟩ ?_
    conv => whnf
    intro f4
    conv => whnf
    refine And.intro (rfl) ?_
    conv => whnf
    refine And.intro (rfl) ?_
    conv => whnf
    intro w5 h5
    have HB5 := Lib.hid (ext_trans HB4.out h5)
    clear h5
    generalize IntKind.i64.wrap (c.x - b.x) = fx at *
    generalize IntKind.i64.wrap (c.y - b.y) = fy at *
    go_upto_region 8 with fail
    refine wp_region_et gmT gmT_ok [] (Below w5.heap.size w5) [] [] [(8, .bool (decide (IntKind.i64.wrap (IntKind.i64.wrap (fx * fx) + IntKind.i64.wrap (fy * fy)) < IntKind.i64.wrap (g * g))))] (by kernel_rfl) (Below.refl _ _)
      obsN trivial ?_
    conv => whnf
    intro f5
    conv => whnf
    refine And.intro (rfl) ?_
    conv => whnf
    intro w6 h6
    have HB6 := Lib.hid (ext_trans HB5.out h6)
    generalize decide (IntKind.i64.wrap (IntKind.i64.wrap (fx * fx) + IntKind.i64.wrap (fy * fy)) < IntKind.i64.wrap (g * g)) = z at *
    rw [if_neg h1, if_pos h2] at HF
    go_wp2_with fail
    go_ret
    exact ⟨ret_bool HF.out.symm, HB6.out⟩
  go_upto_region 9 with fail
  refine wp_region_et gmT gmT_ok [] (Below w4.heap.size w4) [] [] [(17, .int .i64 (IntKind.i64.wrap (IntKind.i64.wrap (dx * ey) - IntKind.i64.wrap (dy * ex))))] (by kernel_rfl) (Below.refl _ _)
    obsN trivial ?_
  conv => whnf
  intro f4
  conv => whnf
  refine And.intro (rfl) ?_
  conv => whnf
  intro w5 h5
  have HB5 := Lib.hid (ext_trans HB4.out h5)
  clear h5
  generalize IntKind.i64.wrap (IntKind.i64.wrap (dx * ey) - IntKind.i64.wrap (dy * ex)) = n at *
  by_cases h3 : n < 0
  · obtain ⟨m, hm⟩ : ∃ m, IntKind.i64.wrap (-n) = m := ⟨_, rfl⟩
    rw [hm] at HF
    have HB6 := HB5
    go_upto_region 12 with fail
    refine wp_region_et gmT gmT_ok [] (Below w5.heap.size w5) [] [] [(8, .bool (decide (m < 2147483648) && decide (IntKind.i64.wrap (m * m) < IntKind.i64.wrap (IntKind.i64.wrap (g * g) * long))))] (by kernel_rfl) (Below.refl _ _)
      obsN trivial ?_
    conv => whnf
    intro f6
    conv => whnf
    refine And.intro (rfl) ?_
    conv => whnf
    intro w7 h7
    have HB7 := Lib.hid (ext_trans HB6.out h7)
    generalize (decide (m < 2147483648) && decide (IntKind.i64.wrap (m * m) < IntKind.i64.wrap (IntKind.i64.wrap (g * g) * long))) = z at *
    rw [if_neg h1, if_neg h2, if_pos h3] at HF
    go_wp2_with fail
    go_ret
    exact ⟨ret_bool HF.out.symm, HB7.out⟩
  · go_upto_region 12 with fail
    refine wp_region_et gmT gmT_ok [] (Below w5.heap.size w5) [] [] [(8, .bool (decide (n < 2147483648) && decide (IntKind.i64.wrap (n * n) < IntKind.i64.wrap (IntKind.i64.wrap (g * g) * long))))] (by kernel_rfl) (Below.refl _ _)
      obsN trivial ?_
    conv => whnf
    intro f6
    conv => whnf
    refine And.intro (rfl) ?_
    conv => whnf
    intro w7 h7
    have HB7 := Lib.hid (ext_trans HB5.out h7)
    generalize (decide (n < 2147483648) && decide (IntKind.i64.wrap (n * n) < IntKind.i64.wrap (IntKind.i64.wrap (g * g) * long))) = z at *
    rw [if_neg h1, if_neg h2, if_neg h3] at HF
    go_wp2_with fail
    go_ret
    exact ⟨ret_bool HF.out.symm, HB7.out⟩
end Go.Proofs.YtfmhickjefogdaaGreat

/- close of the reference's regions (printed by wip/gen_rmf2.py). -/
namespace Go.Proofs.YtfmhickjefogdaaGreat
open Go.RowKit

def closeB (l m : List Pnt) (g : Int) : Bool := (List.range l.length).any fun i => (List.range m.length).any fun k => nearF (pti m k) (nxt m k) (pti l i) g
theorem closeB_true {l m : List Pnt} {g : Int} {i k : Nat} (hi : i < l.length) (hk : k < m.length) (h : nearF (pti m k) (nxt m k) (pti l i) g = true) : closeB l m g = true := by
  unfold closeB
  rw [List.any_eq_true]
  exact ⟨i, List.mem_range.2 hi, by rw [List.any_eq_true]; exact ⟨k, List.mem_range.2 hk, h⟩⟩
theorem closeB_false {l m : List Pnt} {g : Int} (h : ∀ i k, i < l.length → k < m.length → nearF (pti m k) (nxt m k) (pti l i) g = false) : closeB l m g = false := by
  unfold closeB
  rw [List.any_eq_false]
  intro i hi
  rw [Bool.not_eq_true, List.any_eq_false]
  intro k hk
  rw [Bool.not_eq_true]
  exact h i k (List.mem_range.1 hi) (List.mem_range.1 hk)
set_option maxRecDepth 100000 in
set_option maxHeartbeats 1000000 in
theorem rclose_any (v u : Value) (l m : List Pnt) (g : Int) (w : World) (h : SPt w v l) (h' : SPt w u m) (hl : l.length ≤ 100000) (hl' : m.length ≤ 100000) : Calls Tryz.prog 72 #[v, u, .int .i64 g] w (Ret w (.bool (closeB l m g))) := by
  obtain ⟨pa, pc, rfl, k1, k2, k3⟩ := h
  obtain ⟨qa, qc, rfl, j1, j2, j3⟩ := h'
  have K3 := Lib.hid k3
  have J3 := Lib.hid j3
  clear k3 j3
  go_enter Tryz.func72, Tryz.ntmps72
  go_wp2_with fail
  go_loopw [7] (fun i wr => ∃ k : Nat, k ≤ l.length ∧ i = .int .i64 k ∧ Hid (Below w.heap.size w wr) ∧ Hid (∀ i n, i < k → n < m.length → nearF (pti m n) (nxt m n) (pti l i) g = false)) (fun i _ => l.length - (intOf i).toNat)
  case atStart => exact ⟨0, Nat.zero_le _, rfl, Below.refl _ _, fun i n h1 h2 => by omega⟩
  case round =>
    obtain ⟨i, hi, rfl, hb, ha⟩ := hrel
    by_cases hlt : i < l.length
    · have i1 : (i : Int) < l.length := by omega
      go_wp2_with fail
      go_loopw [8] (fun i2 wr2 => ∃ k : Nat, k ≤ m.length ∧ i2 = .int .i64 k ∧ Hid (Below w.heap.size w wr2) ∧ Hid (∀ n, n < k → nearF (pti m n) (nxt m n) (pti l i) g = false)) (fun i2 _ => m.length - (intOf i2).toNat)
      case atStart => exact ⟨0, Nat.zero_le _, rfl, hb, fun n h => by omega⟩
      case round =>
        obtain ⟨k, hk, rfl, hb2, ha2⟩ := hrel
        by_cases hlt2 : k < m.length
        · have m2 : (k + 1) % m.length < m.length := Nat.mod_lt _ (by omega)
          obtain ⟨pb, po, rfl, hc⟩ := K3.out i hlt
          obtain ⟨qb, qo, rfl, hd⟩ := J3.out k hlt2
          obtain ⟨qb', qo', e', hd'⟩ := J3.out _ m2
          cases e'
          have HC1 := Lib.hid (hc.keep hb2.out)
          have HD1 := Lib.hid (hd.keep hb2.out)
          have HD2 := Lib.hid (hd'.keep hb2.out)
          have i2 : (k : Int) < m.length := by omega
          clear hc hd hd'
          go_upto_region 7 with fail
          refine wp_region_ev gmT gmT_ok [⟨qb, qo + k * 2, ptCells (pti m k)⟩, ⟨qb, qo + (k + 1) % m.length * 2, ptCells (nxt m k)⟩, ⟨pb, po + i * 2, ptCells (pti l i)⟩] (Below wr.heap.size wr) [] [(23, .ix k 0), (31, .ix ((k + 1) % m.length) 1), (35, .ix i 2), (38, .ret (.bool (nearF (pti m k) (nxt m k) (pti l i) g)))] [(38, .bool (nearF (pti m k) (nxt m k) (pti l i) g))] (by kernel_rfl) mixed (by kernel_rfl) ((Below.refl _ _).drew)
            (obsC (fun u hu => rangeKeep (pt_range HD1.out) hu) (obsC (fun u hu => rangeKeep (pt_range HD2.out) hu) (obsC (fun u hu => rangeKeep (pt_range HC1.out) hu) obsN))) trivial ?_
          conv => whnf
          refine And.intro (under_of ⟨rfl, hlt2, rfl, rfl⟩) ?_
          conv => whnf
          refine And.intro (Nat.le_of_ble_eq_true rfl) ?_
          conv => whnf
          refine And.intro (under_of (by omega)) ?_
          conv => whnf
          refine And.intro (under_of ⟨modix1 (by omega), m2, rfl, rfl⟩) ?_
          conv => whnf
          refine And.intro (Nat.le_of_ble_eq_true rfl) ?_
          conv => whnf
          refine And.intro (under_of ⟨rfl, hlt, rfl, rfl⟩) ?_
          conv => whnf
          refine And.intro (Nat.le_of_ble_eq_true rfl) ?_
          conv => whnf
          refine And.intro (under_of fun u hu => ret_in (rnear13_any _ _ _ _ u) hu) ?_
          conv => whnf
          intro f1
          conv => whnf
          refine And.intro (rfl) ?_
          conv => whnf
          intro w7 h7
          have HB7 := Lib.hid (ext_trans hb2.out h7)
          clear h7
          obtain ⟨z, hz⟩ : ∃ z, nearF (pti m k) (nxt m k) (pti l i) g = z := ⟨_, rfl⟩
          have HZ := Lib.hid hz
          rw [hz]
          clear hz
          cases z
          · have HA : Hid (∀ n, n < k + 1 → nearF (pti m n) (nxt m n) (pti l i) g = false) := fun n h => by
              by_cases e : n = k
              · subst e; exact HZ.out
              · exact ha2.out n (by omega)
            go_wp2_with fail
            go_roundw
            case rel => exact ⟨k + 1, by omega, by go_num, HB7, HA⟩
            case measure => simp [intOf]; omega
          · have HN := Lib.hid (closeB_true hlt hlt2 HZ.out)
            go_wp2_with fail
            go_ret
            exact ⟨ret_bool HN.out.symm, HB7.out⟩
        · have i2 : ¬ (k : Int) < m.length := by omega
          have HA : Hid (∀ i' n, i' < i + 1 → n < m.length → nearF (pti m n) (nxt m n) (pti l i') g = false) := fun i' n h1 h2 => by
            by_cases e : i' = i
            · subst e; exact ha2.out n (by omega)
            · exact ha.out i' n (by omega) h2
          go_wp2_with fail
          go_roundw
          case rel => exact ⟨i + 1, by omega, by go_num, hb2, HA⟩
          case measure => simp [intOf]; omega
    · have i1 : ¬ (i : Int) < l.length := by omega
      have HN := Lib.hid (closeB_false fun i' n h1 h2 => ha.out i' n (by omega) h2)
      go_wp2_with fail
      go_ret
      exact ⟨ret_bool HN.out.symm, hb.out⟩
end Go.Proofs.YtfmhickjefogdaaGreat

/- Where of the reference's regions, for shapes that are right (printed by wip/gen_rmg.py). -/
namespace Go.Proofs.YtfmhickjefogdaaGreat
open Go.RowKit

noncomputable def whereTo (o : List Pnt) (hl : List (List Pnt)) (q : Pnt) : Nat → Int
  | 0 => whereL o q
  | k + 1 => min (whereTo o hl q k) (-whereL (hl.getD k []) q)
noncomputable def whereS (o : List Pnt) (hl : List (List Pnt)) (q : Pnt) : Int := whereTo o hl q hl.length
theorem whereL_small (l : List Pnt) (q : Pnt) : -1 ≤ whereL l q ∧ whereL l q ≤ 1 := by
  unfold whereL
  split
  · decide
  · split
    · decide
    · split <;> decide
theorem whereTo_neg {o : List Pnt} {hl : List (List Pnt)} {q : Pnt} : ∀ k, k ≤ hl.length → whereTo o hl q k < 0 → whereL o q = -1 ∨ ∃ h ∈ hl, whereL h q = 1
  | 0, _, h => by
    have : whereL o q < 0 := h
    have := whereL_small o q
    exact Or.inl (by omega)
  | k + 1, hk, h => by
    have h : min (whereTo o hl q k) (-whereL (hl.getD k []) q) < 0 := h
    by_cases c : whereTo o hl q k < 0
    · exact whereTo_neg k (by omega) c
    · have := whereL_small (hl.getD k []) q
      exact Or.inr ⟨hl.getD k [], getD_mem (by omega), by omega⟩
theorem whereS_neg {o : List Pnt} {hl : List (List Pnt)} {q : Pnt} (h : whereS o hl q < 0) : whereL o q = -1 ∨ ∃ h ∈ hl, whereL h q = 1 := whereTo_neg _ (Nat.le_refl _) h
theorem boxSP (w : World) (oa : Option Addr) (on oc : Nat) (ha : Option Addr) (hn hc : Nat) (q : Pnt) : ∃ W1, Hid (ObjAt W1 w.heap.size #[.slice oa on oc, .slice ha hn hc] 47) ∧ Hid (ObjAt W1 (w.heap.size + 1) (ptA q) 37) ∧ Hid (Below w.heap.size w W1) ∧ Hid ((w.alloc (.cells #[.slice oa on oc, .slice ha hn hc] 47)).alloc (.cells #[.int .i64 q.x, .int .i64 q.y] 37) = W1) :=
  ⟨_, (ObjAt.new w #[.slice oa on oc, .slice ha hn hc] 47).alloc _, (by have h := ObjAt.new (w.alloc (.cells #[.slice oa on oc, .slice ha hn hc] 47)) (ptA q) 37; rw [size_alloc] at h; exact h), ((Below.refl _ _).alloc (Nat.le_refl _) _).alloc (by simp) _, rfl⟩
set_option maxRecDepth 100000 in
set_option maxHeartbeats 1000000 in
theorem rWhereS_any (ov hv : Value) (outer : List Pnt) (holes : List (List Pnt)) (hvs : List Value) (q : Pnt) (w : World) (h : ShpOK w ov hv outer holes hvs) (hr : Rgn outer holes) : Calls Tryz.prog 71 #[.agg #[ov, hv], ptV q] w (Ret w (.int .i64 (whereS outer holes q))) := by
  have HP := Lib.hid h
  have HNL := Lib.hid h.n
  have HR := Lib.hid hr
  have hn8 : hvs.length ≤ 8 := by rw [h.n]; exact hr.n
  obtain ⟨oa, oc, rfl, _⟩ := h.o
  obtain ⟨ha, hc, rfl, _, _, s3⟩ := h.hs
  have S3 := Lib.hid s3
  clear h s3 hr
  obtain ⟨W1, HS1, HQ1, HB1, HW1⟩ := boxSP w oa outer.length oc ha hvs.length hc q
  unfold ptV
  go_enter Tryz.func71, Tryz.ntmps71
  go_upto_region 1 with fail
  rw [HW1.out]
  have c0 := HS1.out.cell 0
  have c1 := HS1.out.cell 1
  dsimp at c0 c1
  go_wp2_with fail
  refine (rChkR_any _ _ outer holes hvs W1 (HP.out.keep HB1.out)).mono ?_
  rintro e w2 ⟨z, rfl, hb2, hz⟩
  have hz := hz.2 HR.out
  subst hz
  have HB2 := Lib.hid (ext_trans HB1.out hb2)
  have HS2 := Lib.hid (HS1.out.keep hb2)
  have HQ2 := Lib.hid (HQ1.out.keep hb2)
  clear hb2 c0 c1
  go_upto_region 3 with fail
  refine wp_region_et gmT gmT_ok [⟨w.heap.size, 0, [.slice oa outer.length oc, .slice ha hvs.length hc]⟩, ⟨w.heap.size + 1, 0, (ptA q).toList⟩] (Below w2.heap.size w2) [(2, 0), (3, 1)] [(13, .ret (.int .i64 (whereL outer q)))] [(5, .int .i64 (whereL outer q))] (by kernel_rfl) (Below.refl _ _)
    (obsC (fun u hu => rangeKeep (range_new HS2.out) hu) (obsC (fun u hu => rangeKeep (range_new HQ2.out) hu) obsN)) ⟨rfl, rfl, trivial⟩ ?_
  conv => whnf
  refine And.intro (Nat.le_of_ble_eq_true rfl) ?_
  conv => whnf
  refine And.intro (under_of fun u hu => ret_in (rWhere_any _ outer q u (HP.out.o.keep (ext_trans HB2.out hu))) hu) ?_
  conv => whnf
  intro f1
  conv => whnf
  refine And.intro (rfl) ?_
  conv => whnf
  intro w3 h3
  have HB3 := Lib.hid (ext_trans HB2.out h3)
  have HS3 := Lib.hid (HS2.out.keep h3)
  have HQ3 := Lib.hid (HQ2.out.keep h3)
  clear h3
  go_wp2_with fail
  go_loopw [5, 6] (fun n i wr => ∃ k : Nat, k ≤ hvs.length ∧ i = .int .i64 k ∧ n = .int .i64 (whereTo outer holes q k) ∧ Hid (Below w3.heap.size w3 wr)) (fun _ i _ => hvs.length - (intOf i).toNat)
  case atStart => exact ⟨0, Nat.zero_le _, rfl, rfl, Below.refl _ _⟩
  case round =>
    obtain ⟨k, hk, rfl, rfl, hb⟩ := hrel
    have HBW := Lib.hid (ext_trans HB3.out hb.out)
    have HSW := Lib.hid (HS3.out.keep hb.out)
    have HQW := Lib.hid (HQ3.out.keep hb.out)
    have c1 := HSW.out.cell 1
    dsimp at c1
    by_cases hlt : k < hvs.length
    · have i1 : (k : Int) < hvs.length := by omega
      obtain ⟨xb, xo, rfl, hcx⟩ := S3.out k hlt
      obtain ⟨pa, pc, ep, k1, k2, k3⟩ := HP.out.h k (by have := HNL.out; omega)
      rw [ep] at hcx
      have HX : Hid (SPt wr (.slice pa (holes.getD k []).length pc) (holes.getD k [])) := SPt.keep ⟨pa, pc, rfl, k1, k2, k3⟩ HBW.out
      have HCX := Lib.hid (cell_keep HBW.out hcx)
      clear hcx ep k1 k2 k3
      go_upto_region 5 with fail
      clear c1
      refine wp_region_et gmT gmT_ok [⟨w.heap.size, 0, [.slice oa outer.length oc, .slice (some ⟨xb, xo, none⟩) hvs.length hc]⟩] (Below wr.heap.size wr) [(2, 0)] [] [(18, .bool true)] (by kernel_rfl) (Below.refl _ _)
        (obsC (fun u hu => rangeKeep (range_new HSW.out) hu) obsN) ⟨rfl, trivial⟩ ?_
      conv => whnf
      intro f4
      conv => whnf
      refine And.intro (congrArg Value.bool (decide_eq_true i1)) ?_
      conv => whnf
      intro w4 h4
      have HB4 := Lib.hid (ext_trans hb.out h4)
      have HS4 := Lib.hid (HSW.out.keep h4)
      have HQ4 := Lib.hid (HQW.out.keep h4)
      have HCX4 := Lib.hid (cell_keep h4 HCX.out)
      have HX4 := Lib.hid (HX.out.keep h4)
      clear h4
      go_upto_region 7 with fail
      refine wp_region_ev gmT gmT_ok [⟨w.heap.size, 0, [.slice oa outer.length oc, .slice (some ⟨xb, xo, none⟩) hvs.length hc]⟩, ⟨w.heap.size + 1, 0, (ptA q).toList⟩, ⟨xb, xo + k, [.slice pa (holes.getD k []).length pc]⟩] (Below w4.heap.size w4) [(2, 0), (3, 1)] [(25, .ix k 2), (28, .ret (.int .i64 (whereL (holes.getD k []) q)))] [(5, .int .i64 (whereTo outer holes q (k + 1)))] (by kernel_rfl) mixed (by kernel_rfl) ((Below.refl _ _).drew)
        (obsC (fun u hu => rangeKeep (range_new HS4.out) hu) (obsC (fun u hu => rangeKeep (range_new HQ4.out) hu) (obsC (fun u hu => rangeKeep (intR HCX4.out) hu) obsN))) ⟨rfl, rfl, trivial⟩ ?_
      conv => whnf
      refine And.intro (under_of ⟨rfl, hlt, rfl, by show xo + k = xo + k * 1; omega⟩) ?_
      conv => whnf
      refine And.intro (Nat.le_of_ble_eq_true rfl) ?_
      conv => whnf
      refine And.intro (under_of fun u hu => ret_in (rWhere_any _ _ q u (HX4.out.keep hu)) hu) ?_
      conv => whnf
      intro f2
      conv => whnf
      refine And.intro (by rw [IntWalk.i64_in (-whereL (holes.getD k []) q) (by have := whereL_small (holes.getD k []) q; omega)]; rfl) ?_
      conv => whnf
      intro w5 h5
      have HB5 := Lib.hid (ext_trans HB4.out h5)
      clear h5
      go_wp2_with fail
      go_roundw
      case rel => exact ⟨k + 1, by omega, by go_num, rfl, HB5⟩
      case measure => simp [intOf]; omega
    · have i1 : ¬ (k : Int) < hvs.length := by omega
      have e : k = holes.length := by have := HNL.out; omega
      have HV : Hid (whereTo outer holes q k = whereS outer holes q) := by show _ = _; rw [e]; rfl
      clear e
      go_upto_region 5 with fail
      clear c1
      refine wp_region_et gmT gmT_ok [⟨w.heap.size, 0, [.slice oa outer.length oc, .slice ha hvs.length hc]⟩] (Below wr.heap.size wr) [(2, 0)] [] [(18, .bool false)] (by kernel_rfl) (Below.refl _ _)
        (obsC (fun u hu => rangeKeep (range_new HSW.out) hu) obsN) ⟨rfl, trivial⟩ ?_
      conv => whnf
      intro f4
      conv => whnf
      refine And.intro (congrArg Value.bool (decide_eq_false i1)) ?_
      conv => whnf
      intro w4 h4
      have HBW := Lib.hid (ext_trans HBW.out h4)
      clear h4
      go_wp2_with fail
      go_ret
      exact ⟨ret_int HV.out, HBW.out⟩
end Go.Proofs.YtfmhickjefogdaaGreat

/- A region that draws its order, in which the value of a call is appended to a slice that a cell of an object holds. -/
namespace Go.Proofs.YtfmhickjefogdaaGreat
open Go.RowKit

/-- the call, the slice of one, the append, the store -/
structure JLc (A B C D n0 b6 k : Nat) (te tO : TypeId) (cs : Value → Array Value) (arr : Array Value) (V : Value → World → Prop) (P0 : World → Prop) (P1 : Value → World → Prop) (s : Nat → Option Value) (u : World) : Prop where
  ab : s A = none → s B = none
  bc : s B = none → s C = none
  cd : s C = none → s D = none
  a : ∀ v, s A = some v → s C = none → V v u
  b : ∀ v, s B = some v → ∃ x g, s A = some x ∧ v = .slice (some ⟨g, 0, none⟩) 1 1 ∧ (s C = none → ObjAt u g (cs x) te)
  c0 : s C = none → P0 u
  n : n0 ≤ u.heap.size
  c : ∀ v, s C = some v → P1 v u
  d0 : s D = none → ObjAt u b6 arr tO
  d : ∀ z, s D = some z → ∃ v, s C = some v ∧ ObjAt u b6 (arr.setIfInBounds k v) tO
section
variable {a0 : Act} {ps : List (Nat × Nat)} {T : QTab} {E : List Ob} {hs : List (Nat × Hint)}
def evLc (a0 : Act) (E : List Ob) (C0 : World → Prop) (n0 b6 k nA nB nC n6 nL : Nat) (tO : TypeId) (ns : List Nat) (vs : List Value) (arr : Array Value) (P1 : Value → World → Prop) (v0 : Value) (outs : List (Nat × Value)) (Q : Act → World → Prop) (ops : List Oper) (S : List Ent) : Prop :=
  (argsAt E S ns vs ∧ slotAt a0 E ops S nL v0 ∧ slotAt a0 E ops S n6 (.pointer (some ⟨b6, k, none⟩))) ∧ ∀ (f : Nat → Value), match a0 with
    | ⟨⟨l⟩, d⟩ => finS E outs f S l fun l' => setsN f [nA, nB, nC] l' fun l'' => ∀ w' v, C0 w' → P1 v w' → n0 ≤ w'.heap.size → ObjAt w' b6 (arr.setIfInBounds k v) tO → Q ⟨l''.toArray, d⟩ w'
theorem wp_region_lc {id : Nat} {Q : Exit → Act → World → Prop} {w : World} {ops : List Oper} (T : QTab) (hT : T.Ok) (E : List Ob) (ps : List (Nat × Nat)) (hs : List (Nat × Hint)) (outs : List (Nat × Value))
    (A B C D nA nB nC n6 nL : Nat) (tS te tO : TypeId) (ns : List Nat) (vs : List Value) (cs : Value → Array Value) (arr : Array Value) (V : Value → World → Prop) (v0 : Value) (n0 b6 k : Nat) (C0 P0 : World → Prop) (P1 : Value → World → Prop)
    (hz : (ops.all fun o => match o.dst with | some n => decide (n < a0.tmps.size) | none => true) = true) (hm : Tryz.prog.follows .mixedOrders = true)
    (hst : (ordB ops.toArray && nodB (dstsL ops) && chkB ops.toArray (quietL [A, B, C, D] 0 ops) && depB [A, B, C, D] ops.toArray) = true)
    (hsp : spD [A, B, C, D] 0 ops = [nA, nB, nC]) (hah : aheadA [A, B, C, D] ops D = true) (hne : B ≠ C ∧ B ≠ D ∧ C ≠ D) (hneA : A ≠ B ∧ A ≠ C ∧ A ≠ D)
    (hA : ∃ o, ops[A]? = some o ∧ o.dst = some nA ∧ (∀ n ∈ ns, n ∈ o.looksAt ops.toArray) ∧ ∀ (a : Act) (u : World) (K : Act → World → Prop), (ns.map Operand.tmp).map a.eval = vs → C0 u → (∀ x u', V x u' → Below u.heap.size u u' → K (a.put o.dst x) u') → o.wp Tryz.prog a u K Q)
    (hB : ∃ o, ops[B]? = some o ∧ o.op = .buildSlice tS 1 #[(0, .tmp nA)] ∧ o.dst = some nB ∧ ∃ e ∈ o.after, e.on = A ∧ Region.binds .any e = true)
    (hC : ∃ o, ops[C]? = some o ∧ o.op = .call { callee := .builtin .append, args := #[.tmp nL, .tmp nB], argTypes := #[tS, tS] } ∧ o.dst = some nC ∧ ∃ e ∈ o.after, e.on = B ∧ Region.binds .any e = true)
    (hD : ∃ o, ops[D]? = some o ∧ o.op = .store tS (.tmp n6) (.tmp nC) ∧ o.dst = none ∧ ∃ e ∈ o.after, e.on = C ∧ Region.binds .any e = true)
    (hV : ∀ x u u', V x u → Below u.heap.size u u' → V x u')
    (hbuild : ∀ x u, V x u → (Instr.buildSlice tS 1 #[(0, x)]).run Tryz.prog u = .ok (.slice (some ⟨u.heap.size, 0, none⟩) 1 1) (u.alloc (.cells (cs x) te)))
    (happ : ∀ (x : Value) (o : Oper) (a : Act) (u : World) (g : Nat) (K : Act → World → Prop), o.op = .call { callee := .builtin .append, args := #[.tmp nL, .tmp nB], argTypes := #[tS, tS] } → a.eval (.tmp nL) = v0 → a.eval (.tmp nB) = .slice (some ⟨g, 0, none⟩) 1 1 → V x u → ObjAt u g (cs x) te → P0 u → n0 ≤ u.heap.size →
      (∀ v' u', P1 v' u' → u.grownBy u' v0.ownBlock → K (a.put o.dst v') u') → o.wp Tryz.prog a u K Q)
    (hi : (Tryz.prog.info? tS).map (·.size) = some 1) (hone : ∀ v u, P1 v u → v.oneCell' = true ∧ v.cells = #[v]) (hget : arr[k]? = some v0)
    (hP0 : ∀ u u', P0 u → Below u.heap.size u u' → P0 u') (hP1 : ∀ v u u', P1 v u → Below u.heap.size u u' → P1 v u') (hP1S : ∀ v u, P1 v u → ObjAt u b6 arr tO → P1 v (u.setCell ⟨b6, k, none⟩ v))
    (hno : ∀ u, P0 u → ObjAt u b6 arr tO → v0.ownBlock ≠ some b6)
    (h0 : C0 w.drew) (hown : P0 w) (hn0 : n0 ≤ w.heap.size) (hob : ObjAt w b6 arr tO)
    (hCB : ∀ u u', C0 u → Below u.heap.size u u' → C0 u') (hCg : ∀ u u', C0 u → n0 ≤ u.heap.size → P0 u → u.grownBy u' v0.ownBlock → C0 u') (hCs : ∀ u v, C0 u → C0 (u.setCell ⟨b6, k, none⟩ v))
    (hE : ObsIn (fun u => C0 u ∧ ObjAt u b6 arr tO) E) (P : psOk a0 E ps)
    (h : evL a0 ps T E (fun u => C0 u ∧ ObjAt u b6 arr tO) (fun u u' => Below u.heap.size u u') hs ops (evLc a0 E C0 n0 b6 k nA nB nC n6 nL tO ns vs arr P1 v0 outs (Q .normal) ops) (quietL [A, B, C, D] 0 ops) []) : (Code.region id ops.toArray true).wp Tryz.prog Q a0 w := by
  obtain ⟨oA, hA1, hA3, hA4, hA5⟩ := hA
  obtain ⟨oB, hB1, hB2, hB3, eB, hB4, hB5, hB6⟩ := hB
  obtain ⟨oC, hC1, hC2, hC3, eC, hC4, hC5, hC6⟩ := hC
  obtain ⟨oD, hD1, hD2, hD3, eD, hD4, hD5, hD6⟩ := hD
  obtain ⟨nBC, nBD, nCD⟩ := hne
  obtain ⟨nAB, nAC, nAD⟩ := hneA
  have hst' := hst
  simp only [Bool.and_eq_true] at hst'
  obtain ⟨⟨⟨s1, s2⟩, s3⟩, s4⟩ := hst'
  have hsub : ∀ o ∈ quietL [A, B, C, D] 0 ops, o ∈ ops := fun o ho => by obtain ⟨k, hk, _⟩ := mem_quietL ho; exact List.mem_of_getElem? hk
  obtain ⟨S, H, af, I, ⟨⟨g1, g2, g3⟩, h2⟩, f1, f2, f3⟩ := evL_fin P hT hE hz _ [] [] a0 hsub s3 InvQ.start h
  refine mix_coreD [A, B, C, D] E C0 (fun u u' => Below u.heap.size u u') outs (JLc A B C D n0 b6 k te tO cs arr V P0 P1) hz hm hst (fun u => C0 u ∧ ObjAt u b6 arr tO) (fun i hi hs L s u hL hl hn hc hj => ⟨hc, hj.d0 (hn D (aheadA_spec hah hi hs hL hl))⟩)
    h0 ⟨fun _ => rfl, fun _ => rfl, fun _ => rfl, fun v hv => (by cases hv), fun v hv => (by cases hv), fun _ => hP0 _ _ hown ((Below.refl _ _).drew), hn0, fun v hv => (by cases hv), fun _ => hob, fun v hv => (by cases hv)⟩ hCB (fun u _ => Below.refl _ _)
    (fun s u u' _ hj hb => ⟨hj.ab, hj.bc, hj.cd, fun v hv hc => hV _ _ _ (hj.a v hv hc) hb, fun v hv => by obtain ⟨x, g, e0, e, q⟩ := hj.b v hv; exact ⟨x, g, e0, e, fun hc => (q hc).keep hb⟩, fun hc => hP0 _ _ (hj.c0 hc) hb, Nat.le_trans hj.n hb.size, fun v hv => hP1 _ _ _ (hj.c v hv) hb, fun hd => (hj.d0 hd).keep hb, fun z hz => by obtain ⟨v, e, o⟩ := hj.d z hz; exact ⟨v, e, o.keep hb⟩⟩) I ⟨⟨?_, ?_, ?_, ?_, trivial⟩, fun f s hsv => ?_⟩ f1 f2 f3
  · intro o a u s ho hCu hJ hn hq' hold hdep K hK
    rw [hA1] at ho; cases ho
    have hx := argsAt_map (a := a) g1 fun n hn' => hq' n (hA4 n hn')
    have hsB := hJ.ab hn
    have hsC := hJ.bc hsB
    have hsD := hJ.cd hsC
    refine hA5 a u K hx hCu fun x u' hv hb => ?_
    refine hK _ _ (hCB _ _ hCu hb) ⟨fun h => (by rw [updS_same] at h; cases h), fun _ => ?_, fun _ => ?_, fun v' hv' _ => ?_, fun v' hv' => ?_, fun _ => hP0 _ _ (hJ.c0 hsC) hb, Nat.le_trans hJ.n hb.size, fun v' hv' => ?_, fun _ => (hJ.d0 hsD).keep hb, fun v' hv' => ?_⟩
    · rw [updS_other (Ne.symm nAC)]; exact hsC
    · rw [updS_other (Ne.symm nAD)]; exact hsD
    · rw [updS_same] at hv'; cases hv'; exact hv
    · rw [updS_other (Ne.symm nAB), hsB] at hv'; cases hv'
    · rw [updS_other (Ne.symm nAC), hsC] at hv'; cases hv'
    · rw [updS_other (Ne.symm nAD), hsD] at hv'; cases hv'
  · intro o a u s ho hCu hJ hn hq' hold hdep K hK
    rw [hB1] at ho; cases ho
    obtain ⟨x, v1, v2⟩ := hdep eB hB4 hB6 (by rw [hB5]; simp)
    rw [hB5] at v1 v2
    have hx : a.eval (.tmp nA) = x := v2 oA nA hA1 hA3
    have hsC := hJ.bc hn
    have hsD := hJ.cd hsC
    have hv := hJ.a x v1 hsC
    have hb : Below u.heap.size u (u.alloc (.cells (cs x) te)) := (Below.refl _ _).alloc (Nat.le_refl _) _
    refine wp_of_run (v := .slice (some ⟨u.heap.size, 0, none⟩) 1 1) (w' := u.alloc (.cells (cs x) te)) ?_ ?_
    · unfold execOp; simp only [hB2, List.map_toArray, List.map_cons, List.map_nil, hx, Sem.run_bind, hbuild x u hv]; rfl
    refine hK _ _ (hCB _ _ hCu hb) ⟨fun h => ?_, fun h => (by rw [updS_same] at h; cases h), fun _ => ?_, fun v' hv' _ => ?_, fun v' hv => ?_, fun _ => hP0 _ _ (hJ.c0 hsC) hb, Nat.le_trans hJ.n hb.size, fun v' hv => ?_, fun _ => (hJ.d0 hsD).keep hb, fun v' hv => ?_⟩
    · rw [updS_other nAB, v1] at h; cases h
    · rw [updS_other (Ne.symm nBD)]; exact hsD
    · rw [updS_other nAB, v1] at hv'; cases hv'; exact hV _ _ _ hv hb
    · rw [updS_same] at hv; cases hv
      exact ⟨x, _, by rw [updS_other nAB]; exact v1, rfl, fun _ => ObjAt.new u (cs x) te⟩
    · rw [updS_other (Ne.symm nBC), hsC] at hv; cases hv
    · rw [updS_other (Ne.symm nBD), hsD] at hv; cases hv
  · intro o a u s ho hCu hJ hn hq' hold hdep K hK
    rw [hC1] at ho; cases ho
    obtain ⟨v, v1, v2⟩ := hdep eC hC4 hC6 (by rw [hC5]; simp)
    rw [hC5] at v1 v2
    obtain ⟨x, g, e0, e1, e2⟩ := hJ.b v v1
    have hx : a.eval (.tmp nB) = .slice (some ⟨g, 0, none⟩) 1 1 := (v2 oB nB hB1 hB3).trans e1
    have hsD := hJ.cd hn
    have hL : a.eval (.tmp nL) = v0 := by
      unfold slotAt at g2
      split at g2
      · rename_i m s' hl'
        rw [← g2]; exact hq' nL (by unfold Oper.looksAt; rw [hC2]; simp [Op.operands, Call.operands]) _ hl' rfl
      · cases g2
      · rw [hold nL (by simpa using g2.1)]; exact g2.2
    have hown := hJ.c0 hn
    refine happ x oC a u g K hC2 hL hx (hJ.a x e0 hn) (e2 hn) hown hJ.n fun v' u' a1 a2 => ?_
    have hne6 := hno u hown (hJ.d0 hsD)
    refine hK _ _ (hCg _ _ hCu hJ.n hown a2) ⟨fun h => ?_, fun h => ?_, fun h => (by rw [updS_same] at h; cases h), fun v' hv h => (by rw [updS_same] at h; cases h), fun v' hv => ?_, fun h => (by rw [updS_same] at h; cases h), Nat.le_trans hJ.n a2.size, fun v'' hv => ?_, fun _ => (hJ.d0 hsD).grown a2 hne6, fun v'' hv => ?_⟩
    · rw [updS_other nAC] at h; rw [updS_other nBC]; exact hJ.ab h
    · rw [updS_other nBC, v1] at h; cases h
    · rw [updS_other nBC] at hv
      obtain ⟨x', g', q0, q1, _⟩ := hJ.b v' hv
      exact ⟨x', g', by rw [updS_other nAC]; exact q0, q1, fun h => (by rw [updS_same] at h; cases h)⟩
    · rw [updS_same] at hv; cases hv; exact a1
    · rw [updS_other (Ne.symm nCD), hsD] at hv; cases hv
  · intro o a u s ho hCu hJ hn hq' hold hdep K hK
    rw [hD1] at ho; cases ho
    obtain ⟨v, v1, v2⟩ := hdep eD hD4 hD6 (by rw [hD5]; simp)
    rw [hD5] at v1 v2
    have hx : a.eval (.tmp nC) = v := v2 oC nC hC1 hC3
    have h6 : a.eval (.tmp n6) = .pointer (some ⟨b6, k, none⟩) := by
      unfold slotAt at g3
      split at g3
      · rename_i m s' hl'
        rw [← g3]; exact hq' n6 (by unfold Oper.looksAt; rw [hD2]; simp [Op.operands]) _ hl' rfl
      · cases g3
      · rw [hold n6 (by simpa using g3.1)]; exact g3.2
    have hob := hJ.d0 hn
    have hov := hJ.c v v1
    have hsl := hone v u hov
    refine wp_of_skip (w' := u.setCell ⟨b6, k, none⟩ v) ?_ ?_
    · unfold execOp
      simp only [hD2, Sem.run_bind, h6, hx, run_storeAt_one (c := v0) (by rw [hob.cell]; exact hget) (hob.frozen k) hi hsl.1 hsl.2]; rfl
    refine hK _ _ (hCs _ _ hCu) ⟨fun h => ?_, fun h => ?_, fun h => ?_, fun v' hv h => ?_, fun v' hv => ?_, fun h => ?_, by have := hJ.n; simp [World.setCell]; exact this, fun v'' hv => ?_, fun h => (by rw [updS_same] at h; cases h), fun v'' hv => ?_⟩
    · rw [updS_other nAD] at h; rw [updS_other nBD]; exact hJ.ab h
    · rw [updS_other nBD] at h; rw [updS_other nCD]; exact hJ.bc h
    · rw [updS_other nCD, v1] at h; cases h
    · rw [updS_other nCD, v1] at h; cases h
    · rw [updS_other nBD] at hv
      obtain ⟨x', g', q0, q1, _⟩ := hJ.b v' hv
      exact ⟨x', g', by rw [updS_other nAD]; exact q0, q1, fun h => (by rw [updS_other nCD, v1] at h; cases h)⟩
    · rw [updS_other nCD, v1] at h; cases h
    · rw [updS_other nCD, v1] at hv; cases hv
      exact hP1S v u hov hob
    · exact ⟨v, by rw [updS_other nCD]; exact v1, hob.set k v⟩
  · obtain ⟨vC, c1, c2⟩ := hsv C (by simp) oC hC1
    obtain ⟨vD, d1, _⟩ := hsv D (by simp) oD hD1
    obtain ⟨⟨l⟩, d⟩ := a0
    dsimp only at h2 ⊢
    rw [hsp]
    refine finS_mono (fun l' hl' => ?_) (h2 f)
    rw [setsN_eq] at hl' ⊢
    intro w' hC' hJ
    obtain ⟨v, e1, e2⟩ := hJ.d vD d1
    exact hl' w' v hC' (hJ.c v e1) hJ.n e2
end
end Go.Proofs.YtfmhickjefogdaaGreat

/- Shapes of one's own: the slices of a shape in blocks of their own. -/
namespace Go.Proofs.YtfmhickjefogdaaGreat
open Go.RowKit

/-- contours of one's own -/
structure OwnHs (w : World) (B : Nat) (v : Value) (vs : List Value) (ml : List (List Pnt)) : Prop where
  n : vs.length = ml.length
  own : w.ownsRow B 44 1 v vs.length vs
  at_ : ∀ i, i < ml.length → OwnPt w B (vs.getD i default) (ml.getD i [])
/-- a shape of one's own -/
structure OwnShp (w : World) (B : Nat) (ov hv : Value) (o : List Pnt) (hl : List (List Pnt)) (hvs : List Value) : Prop where
  o : OwnPt w B ov o
  h : OwnHs w B hv hvs hl
section
variable {w w' : World} {B B' : Nat} {v ov hv : Value} {vs hvs : List Value} {ml hl : List (List Pnt)} {o : List Pnt}
theorem OwnHs_nil (w : World) (B : Nat) : OwnHs w B (.slice none 0 0) [] [] := ⟨rfl, World.ownsRow_nil _ _ _ _, fun i hi => by simp at hi⟩
theorem OwnHs.below (h : OwnHs w B v vs ml) (hb : Below w.heap.size w w') : OwnHs w' B v vs ml := ⟨h.n, owns_below h.own hb, fun i hi => (h.at_ i hi).below hb⟩
theorem OwnHs.mono (h : OwnHs w B v vs ml) (hb : B' ≤ B) : OwnHs w B' v vs ml := ⟨h.n, owns_mono h.own hb, fun i hi => (h.at_ i hi).mono hb⟩
theorem OwnHs.cell (h : OwnHs w B v vs ml) {b : Nat} (hb : b < B) (k : Nat) (x : Value) : OwnHs (w.setCell ⟨b, k, none⟩ x) B v vs ml := ⟨h.n, ownsRow_setCell_below h.own hb x, fun i hi => ownsRow_setCell_below (h.at_ i hi) hb x⟩
theorem OwnHs.grown (h : OwnHs w B v vs ml) {u : Value} {B2 s n : Nat} {e : TypeId} {xs : List Value} (hu : w.ownsRow B2 e s u n xs) (h1 : 44 ≠ e) (h2 : 37 ≠ e) (hg : w.grownBy w' u.ownBlock) : OwnHs w' B v vs ml :=
  ⟨h.n, h.own.kept hg (owns_ne h.own hu h1), fun i hi => World.ownsRow.kept (h.at_ i hi) hg (owns_ne (h.at_ i hi) hu h2)⟩
theorem OwnHs.sl (h : OwnHs w B v vs ml) : Sl w v vs.length fun i => vs.getD i default := by
  obtain ⟨a, c, e, h1, h2, h3⟩ := Sl_of_owns h.own
  refine ⟨a, c, e, h1, h2, fun i hi => ?_⟩
  obtain ⟨b, off, g1, g2⟩ := h3 i hi
  refine ⟨b, off, g1, ?_⟩
  rw [g2]
  simp [hi]
theorem OwnPt.grown {l : List Pnt} (h : OwnPt w B v l) {u : Value} {B2 s n : Nat} {e : TypeId} {xs : List Value} (hu : w.ownsRow B2 e s u n xs) (h2 : 37 ≠ e) (hg : w.grownBy w' u.ownBlock) : OwnPt w' B v l := World.ownsRow.kept h hg (owns_ne h hu h2)
theorem OwnPt.cell {l : List Pnt} (h : OwnPt w B v l) {b : Nat} (hb : b < B) (k : Nat) (x : Value) : OwnPt (w.setCell ⟨b, k, none⟩ x) B v l := ownsRow_setCell_below h hb x
theorem OwnShp.below (h : OwnShp w B ov hv o hl hvs) (hb : Below w.heap.size w w') : OwnShp w' B ov hv o hl hvs := ⟨h.o.below hb, h.h.below hb⟩
theorem OwnShp.mono (h : OwnShp w B ov hv o hl hvs) (hb : B' ≤ B) : OwnShp w B' ov hv o hl hvs := ⟨h.o.mono hb, h.h.mono hb⟩
theorem OwnShp.cell (h : OwnShp w B ov hv o hl hvs) {b : Nat} (hb : b < B) (k : Nat) (x : Value) : OwnShp (w.setCell ⟨b, k, none⟩ x) B ov hv o hl hvs := ⟨h.o.cell hb k x, h.h.cell hb k x⟩
theorem OwnShp.grown (h : OwnShp w B ov hv o hl hvs) {u : Value} {B2 s n : Nat} {e : TypeId} {xs : List Value} (hu : w.ownsRow B2 e s u n xs) (h1 : 44 ≠ e) (h2 : 37 ≠ e) (hg : w.grownBy w' u.ownBlock) : OwnShp w' B ov hv o hl hvs := ⟨h.o.grown hu h2 hg, h.h.grown hu h1 h2 hg⟩
theorem OwnShp.shp (h : OwnShp w B ov hv o hl hvs) : ShpOK w ov hv o hl hvs := ⟨h.o.s, h.h.n, h.h.sl, fun i hi => (h.h.at_ i hi).s⟩
theorem setRow_gb (w : World) (g : Nat) (cs : Array Value) : w.grownBy (w.setRow g cs) (some g) := ⟨rfl, rfl, rfl, by simp, fun k _ hne => setRow_other w g k cs (fun e => hne (by rw [e]))⟩
theorem owns_row {B s n g : Nat} {e e' : TypeId} {xs : List Value} {ys : Array Value} (h : w.ownsRow B e s v n xs) (ho : ObjAt w g ys e') (he : e ≠ e') (cs : Array Value) : (w.setRow g cs).ownsRow B e s v n xs := h.kept (setRow_gb w g cs) (.inr (ho.ne h he))
theorem OwnHs.row (h : OwnHs w B v vs ml) {g : Nat} {e' : TypeId} {ys : Array Value} (ho : ObjAt w g ys e') (h1 : 44 ≠ e') (h2 : 37 ≠ e') (cs : Array Value) : OwnHs (w.setRow g cs) B v vs ml := ⟨h.n, owns_row h.own ho h1 cs, fun i hi => owns_row (h.at_ i hi) ho h2 cs⟩
theorem OwnShp.row (h : OwnShp w B ov hv o hl hvs) {g : Nat} {e' : TypeId} {ys : Array Value} (ho : ObjAt w g ys e') (h1 : 44 ≠ e') (h2 : 37 ≠ e') (cs : Array Value) : OwnShp (w.setRow g cs) B ov hv o hl hvs := ⟨owns_row h.o ho h2 cs, h.h.row ho h1 h2 cs⟩
/-- one more contour -/
theorem OwnHs.app (h : OwnHs w B v vs ml) {x : Value} {m : List Pnt} {v' : Value} (hx : OwnPt w B x m) (hg : w.grownBy w' v.ownBlock) (ho : w'.ownsRow B 44 1 v' (vs ++ [x]).length (vs ++ [x])) : OwnHs w' B v' (vs ++ [x]) (ml ++ [m]) := by
  refine ⟨by simp [h.n], ho, fun i hi => ?_⟩
  by_cases e : i < ml.length
  · have h1 := World.ownsRow.kept (h.at_ i e) hg (owns_ne (h.at_ i e) h.own (by decide))
    rw [show (vs ++ [x]).getD i default = vs.getD i default from by simp [List.getElem?_append_left (show i < vs.length by rw [h.n]; exact e)], show (ml ++ [m]).getD i [] = ml.getD i [] from by simp [List.getElem?_append_left e]]
    exact h1
  · have e2 : i = ml.length := by simp at hi; omega
    have h1 := World.ownsRow.kept hx hg (owns_ne hx h.own (by decide))
    rw [e2, show (vs ++ [x]).getD ml.length default = x from by rw [← h.n]; simp, show (ml ++ [m]).getD ml.length [] = m from by simp]
    exact h1
end
theorem wp_app_pp {o : Oper} {a : Act} {K : Act → World → Prop} {Q : Exit → Act → World → Prop} {w : World} (s x : Operand)
    (ho : o.op = .call { callee := .builtin .append, args := #[s, x], argTypes := #[45, 45] })
    (B : Nat) (v u : Value) (vs us : List Value) (hs : a.eval s = v) (hx : a.eval x = u) (hown : w.ownsRow B 44 1 v vs.length vs) (hsrc : Sl w u us.length fun i => us.getD i default) (h1 : ∀ y ∈ us, y.oneCell' = true) (hlen : vs.length + us.length ≤ 1000000) (hb : B ≤ w.heap.size)
    (h : ∀ v' w', w'.ownsRow B 44 1 v' (vs ++ us).length (vs ++ us) → w.grownBy w' v.ownBlock → K (a.put o.dst v') w') : o.wp Tryz.prog a w K Q := by
  obtain ⟨v', w', hr, h2, h3⟩ := run_app_pp o.type hown hsrc h1 hlen hb
  unfold Oper.wp execOp
  simp only [ho, resolve, invoke, builtin, Sem.run_bind, Sem.run_pure, Result.andThen_ok, List.map_toArray, List.map_cons, List.map_nil, hs, hx, hr]
  exact h v' w' h2 h3
theorem build_one_pp (x : Value) (hx : ∃ a n c, x = .slice a n c) (w : World) : (Instr.buildSlice 45 1 #[(0, x)]).run Tryz.prog w = .ok (.slice (some ⟨w.heap.size, 0, none⟩) 1 1) (w.alloc (.cells #[x] 44)) := by
  obtain ⟨a, n, c, rfl⟩ := hx
  go_simp
theorem own_one {w : World} {B s n : Nat} {e : TypeId} {v : Value} {xs : List Value} (h : w.ownsRow B e s v n xs) : v.oneCell' = true ∧ v.cells = #[v] := by
  rcases h.2 with ⟨rfl, _⟩ | ⟨g, cap, cur, rfl, _⟩
  · exact ⟨rfl, rfl⟩
  · exact ⟨rfl, rfl⟩
theorem info_Shape : (Tryz.prog.info? 47).map (·.size) = some 2 := by kernel_rfl
theorem load_Shape {w : World} {g : Nat} {u v : Value} {e : TypeId} (h : ObjAt w g #[u, v] e) : (loadVar 47 ⟨g, 0, none⟩).run Tryz.prog w = .ok (.agg #[u, v]) w := run_loadVar_row (P := Tryz.prog) w g e 47 #[u, v] (0, 0) _ h Tryz.underlying47 rfl info_Shape
theorem sl2_one (a : Option Addr) (n c : Nat) (b : Option Addr) (m d : Nat) : (#[.slice a n c, .slice b m d] : Array Value).all (·.oneCell') = true := by simp [Value.oneCell']
theorem size_setCell (w : World) (a : Addr) (v : Value) : (w.setCell a v).heap.size = w.heap.size := by simp [World.setCell]
theorem sl_one {w : World} {g : Nat} {x : Value} {e : TypeId} (h : ObjAt w g #[x] e) : Sl w (.slice (some ⟨g, 0, none⟩) 1 1) [x].length fun i => [x].getD i default := by
  refine ⟨some ⟨g, 0, none⟩, 1, rfl, Nat.le_refl _, by unfold maxLen; omega, fun i hi => ⟨g, 0, rfl, ?_⟩⟩
  have e : i = 0 := by simp at hi; omega
  subst e
  exact h.cell 0
theorem OwnPt.form {w : World} {B : Nat} {v : Value} {l : List Pnt} (h : OwnPt w B v l) : ∃ a n c, v = .slice a n c := by
  obtain ⟨a, c, rfl, _⟩ := h.s
  exact ⟨_, _, _, rfl⟩
end Go.Proofs.YtfmhickjefogdaaGreat

/- Move of the reference's regions (printed by wip/gen_rmh.py). -/
namespace Go.Proofs.YtfmhickjefogdaaGreat
open Go.RowKit

/-- a shape of one's own -/
def RetShp (w : World) (o : List Pnt) (hl : List (List Pnt)) (e : Ending) (w' : World) : Prop := ∃ ov hv hvs, e = .returned (.agg #[ov, hv]) ∧ OwnShp w' w.heap.size ov hv o hl hvs ∧ Below w.heap.size w w'
theorem boxMv (w : World) (oa : Option Addr) (on oc : Nat) (ha : Option Addr) (hn hc : Nat) (x : Spo) : ∃ W1, Hid (ObjAt W1 w.heap.size #[.slice oa on oc, .slice ha hn hc] 47) ∧ Hid (ObjAt W1 (w.heap.size + 1) (soA x) 55) ∧ Hid (ObjAt W1 (w.heap.size + 1 + 1) #[.slice none 0 0, .slice none 0 0] 47) ∧ Hid (Below w.heap.size w W1) ∧ Hid (((w.alloc (.cells #[.slice oa on oc, .slice ha hn hc] 47)).alloc (.cells (soA x) 55)).alloc (.cells #[.slice none 0 0, .slice none 0 0] 47) = W1) ∧ Hid (W1.heap.size = w.heap.size + 1 + 1 + 1) :=
  ⟨_, ((ObjAt.new w #[.slice oa on oc, .slice ha hn hc] 47).alloc _).alloc _, (by have h := ObjAt.new (w.alloc (.cells #[.slice oa on oc, .slice ha hn hc] 47)) (soA x) 55; rw [size_alloc] at h; exact h.alloc _), (by have h := ObjAt.new ((w.alloc (.cells #[.slice oa on oc, .slice ha hn hc] 47)).alloc (.cells (soA x) 55)) #[.slice none 0 0, .slice none 0 0] 47; rw [size_alloc, size_alloc] at h; exact h), (((Below.refl _ _).alloc (Nat.le_refl _) _).alloc (by simp) _).alloc (by simp; omega) _, rfl, by show _ = _; simp⟩
/-- the contours of a right shape: not far -/
structure Con (c : List Pnt) : Prop where
  nr : ∀ i, i < c.length → Nr (pti c i)
  ln : c.length ≤ 1000
theorem ShpOK.con {w : World} {ov hv : Value} {outer : List Pnt} {holes : List (List Pnt)} {hvs : List Value} (h : ShpOK w ov hv outer holes hvs) : ∀ i, i < (ov :: hvs).length → SPt w ((ov :: hvs).getD i undef) ((outer :: holes).getD i []) := fun i hi => by
  cases i with
  | zero => exact h.o
  | succ i =>
    have hi : i + 1 < hvs.length + 1 := hi
    have := h.h i (by have := h.n; omega)
    simp only [List.getD_cons_succ]
    rw [show hvs.getD i undef = hvs.getD i default from by simp [show i < hvs.length by omega]]
    exact this
theorem con_all {outer : List Pnt} {holes : List (List Pnt)} (ho : Con outer) (hh : ∀ i, i < holes.length → Con (holes.getD i [])) : ∀ i, i < (outer :: holes).length → Con ((outer :: holes).getD i []) := fun i hi => by
  cases i with
  | zero => exact ho
  | succ i => exact hh i (by have hi : i + 1 < holes.length + 1 := hi; omega)
theorem far_nr2 (q : Pnt) (u : World) (h : Nr q) : Calls Tryz.prog 68 #[ptV q] u (Ret u (.bool false)) := by
  have := rfar_any q u
  rw [far_nr h] at this
  exact this
theorem far_guard {x : Spo} (h : RightS x) : Value.bool (decide (x.turn < 0) || decide (3 < x.turn) || false) = Value.bool false := by
  have := h.t0; have := h.t3
  rw [decide_eq_false (by omega), decide_eq_false (by omega)]; rfl
theorem right_nr {x : Spo} (h : RightS x) : Nr ⟨x.x, x.y⟩ := ⟨h.x0, h.x1, h.y0, h.y1⟩
theorem far_small (x : Spo) (u : World) (h : RightS x) : Calls Tryz.prog 68 #[.agg #[.int .i64 x.x, .int .i64 x.y]] u (Ret u (.bool false)) := by
  have := rfar_any ⟨x.x, x.y⟩ u
  rw [far_nr (right_nr h)] at this
  exact this
set_option maxRecDepth 100000 in
set_option maxHeartbeats 1000000 in
theorem rMove_any (ov hv : Value) (outer : List Pnt) (holes : List (List Pnt)) (hvs : List Value) (x : Spo) (w : World) (h : ShpOK w ov hv outer holes hvs) (ho : Con outer) (hh : ∀ i, i < holes.length → Con (holes.getD i [])) (hl : holes.length ≤ 8) (hx : RightS x) : Calls Tryz.prog 35 #[.agg #[ov, hv], .agg (soA x)] w (RetShp w (mvL x outer) (holes.map (mvL x))) := by
  have HP := Lib.hid h
  have HNL := Lib.hid h.n
  have HO := Lib.hid ho
  have HH := Lib.hid hh
  have HL := Lib.hid hl
  have HX := Lib.hid hx
  obtain ⟨oa, oc, rfl, _⟩ := h.o
  obtain ⟨ha, hc, rfl, _, _, s3⟩ := h.hs
  have S3 := Lib.hid s3
  clear h s3 ho hh hl hx
  obtain ⟨W1, HS1, HX1, HR1, HB1, HW1, HZ1⟩ := boxMv w oa outer.length oc ha hvs.length hc x
  go_enter Tryz.func35, Tryz.ntmps35
  go_upto_region 1 with fail
  rw [HW1.out]
  have c0 := HS1.out.cell 0
  have c1 := HS1.out.cell 1
  dsimp at c0 c1
  go_wp2_with fail
  refine (rcontours_any _ _ outer holes hvs W1 (HP.out.keep HB1.out) (by have := HNL.out; have := HL.out; omega)).mono ?_
  rintro e w2 ⟨vl, rfl, hl2, hb2⟩
  obtain ⟨la, lc, rfl, _, _, l3⟩ := hl2
  have L3 := Lib.hid l3
  have HB2 := Lib.hid (ext_trans HB1.out hb2)
  have HS2 := Lib.hid (HS1.out.keep hb2)
  have HX2 := Lib.hid (HX1.out.keep hb2)
  have HR2 := Lib.hid (HR1.out.keep hb2)
  have HC2 := Lib.hid (ShpOK.con (HP.out.keep HB2.out))
  have HCN := Lib.hid (con_all HO.out HH.out)
  have HZ2 : Hid (W1.heap.size ≤ w2.heap.size) := hb2.size
  clear l3 hb2 c0 c1
  go_upto_region 2 with fail
  refine wp_region_et gmT gmT_ok [⟨w.heap.size + 1, 0, (soA x).toList⟩] (Below w2.heap.size w2) [(3, 0)] [(24, .ret (.bool false))] [(6, .bool false)] (by kernel_rfl) (Below.refl _ _)
    (obsC (fun u hu => rangeKeep (range_new HX2.out) hu) obsN) ⟨rfl, trivial⟩ ?_
  conv => whnf
  refine And.intro (Nat.le_of_ble_eq_true rfl) ?_
  conv => whnf
  refine And.intro (under_of fun u hu => ret_in (far_small _ u HX.out) hu) ?_
  conv => whnf
  intro f1
  conv => whnf
  refine And.intro (far_guard HX.out) ?_
  conv => whnf
  intro w3 h3
  have HB3 := Lib.hid (ext_trans HB2.out h3)
  have HS3 := Lib.hid (HS2.out.keep h3)
  have HX3 := Lib.hid (HX2.out.keep h3)
  have HR3 := Lib.hid (HR2.out.keep h3)
  have HZ3 : Hid (W1.heap.size ≤ w3.heap.size) := Nat.le_trans HZ2.out h3.size
  have L33 : Hid (Below w2.heap.size w2 w3) := h3
  clear h3
  go_wp2_with fail

  go_loopw [6, 7] (fun b i wr => ∃ k : Nat, k ≤ hvs.length + 1 ∧ i = .int .i64 k ∧ b = .bool false ∧ Hid (Below w3.heap.size w3 wr)) (fun _ i _ => hvs.length + 1 - (intOf i).toNat)
  case atStart => exact ⟨0, Nat.zero_le _, rfl, rfl, Below.refl _ _⟩
  case round =>
    obtain ⟨k, hk, rfl, rfl, hb⟩ := hrel
    have hh8 : hvs.length ≤ 8 := by have := HNL.out; have := HL.out; omega
    by_cases hlt : k < hvs.length + 1
    · have i1 : (k : Int) < hvs.length + 1 := by omega
      obtain ⟨lb, lo, rfl, hcl⟩ := L3.out k hlt
      obtain ⟨pa, pc, ep, _, _, k3⟩ := HC2.out k hlt
      rw [ep] at hcl
      obtain ⟨C, hC⟩ : ∃ C, (outer :: holes).getD k [] = C := ⟨_, rfl⟩
      rw [hC] at k3 hcl
      have HCL := Lib.hid (cell_keep L33.out hcl)
      have K3 := Lib.hid k3
      have HN := Lib.hid (HCN.out k (by have := HNL.out; simp at hlt ⊢; omega))
      rw [hC] at HN
      clear hcl ep k3 hC
      go_wp2_with fail
      go_loopw [6, 8] (fun b i wr2 => ∃ j : Nat, j ≤ C.length ∧ i = .int .i64 j ∧ b = .bool false ∧ Hid (Below w3.heap.size w3 wr2)) (fun _ i _ => C.length - (intOf i).toNat)
      case atStart => exact ⟨0, Nat.zero_le _, rfl, rfl, hb⟩
      case round =>
        obtain ⟨j, hj, rfl, rfl, hb2⟩ := hrel
        have hc8 := HN.out.ln
        have c5 := cell_keep hb2.out HCL.out
        by_cases hlt2 : j < C.length
        · have i2 : (j : Int) < C.length := by omega
          obtain ⟨pb, po, rfl, hcp⟩ := K3.out j hlt2
          have HCP := Lib.hid ((hcp.keep L33.out).keep hb2.out)
          have HCX := Lib.hid c5
          have HNJ := Lib.hid (HN.out.nr j hlt2)
          clear hcp
          go_upto_region 9 with fail
          clear c5
          refine wp_region_et gmT gmT_ok [⟨lb, lo + k, [.slice (some ⟨pb, po, none⟩) C.length pc]⟩, ⟨pb, po + j * 2, ptCells (pti C j)⟩] (Below wr.heap.size wr) [] [(45, .ix k 0), (48, .ix j 1), (50, .ret (.bool false))] [(6, .bool false)] (by kernel_rfl) (Below.refl _ _)
            (obsC (fun u hu => rangeKeep (intR HCX.out) hu) (obsC (fun u hu => rangeKeep (pt_range HCP.out) hu) obsN)) trivial ?_
          conv => whnf
          refine And.intro (under_of ⟨rfl, hlt, rfl, by show lo + k = lo + k * 1; omega⟩) ?_
          conv => whnf
          refine And.intro (under_of ⟨rfl, hlt2, rfl, rfl⟩) ?_
          conv => whnf
          refine And.intro (Nat.le_of_ble_eq_true rfl) ?_
          conv => whnf
          refine And.intro (under_of fun u hu => ret_in (far_nr2 _ u HNJ.out) hu) ?_
          conv => whnf
          intro f9
          conv => whnf
          refine And.intro (rfl) ?_
          conv => whnf
          intro w9 h9
          have HB9 := Lib.hid (ext_trans hb2.out h9)
          clear h9
          go_wp2_with fail
          go_roundw
          case rel => exact ⟨j + 1, by omega, by go_num, rfl, HB9⟩
          case measure => simp [intOf]; omega
        · have i2 : ¬ (j : Int) < C.length := by omega
          go_wp2_with fail
          go_roundw
          case rel => exact ⟨k + 1, by omega, by go_num, rfl, hb2⟩
          case measure => simp [intOf]; omega
    · have i1 : ¬ (k : Int) < hvs.length + 1 := by omega
      have HB4 := Lib.hid (ext_trans HB3.out hb.out)
      have HS4 := Lib.hid (HS3.out.keep hb.out)
      have HX4 := Lib.hid (HX3.out.keep hb.out)
      have HR4 := Lib.hid (HR3.out.keep hb.out)
      have HZ4 : Hid (W1.heap.size ≤ wr.heap.size) := Nat.le_trans HZ3.out hb.out.size
      have c0 := HS4.out.cell 0
      have x0 := HX4.out.cell 0
      have x1 := HX4.out.cell 1
      have x2 := HX4.out.cell 2
      have x3 := HX4.out.cell 3
      have x4 := HX4.out.cell 4
      simp only [soA] at x0 x1 x2 x3 x4
      dsimp at c0 x0 x1 x2 x3 x4
      go_wp2_with fail
      refine (rcontour_any _ outer x wr (SPt.keep (HC2.out 0 (by simp)) (L33.out.trans (hb.out.mono L33.out.size))) HO.out.nr HX.out HO.out.ln).mono ?_
      rintro e w5 ⟨vo, rfl, hvo, hb5⟩
      obtain ⟨va, vc, rfl, _, _, _⟩ := OwnPt.s hvo
      have HVO := Lib.hid (OwnPt.mono hvo hb.out.size |>.mono L33.out.size |>.mono HB2.out.size)
      have HB5 := Lib.hid (ext_trans HB4.out hb5)
      have HS5 := Lib.hid (HS4.out.keep hb5)
      have HX5 := Lib.hid (HX4.out.keep hb5)
      have HR5 := Lib.hid (HR4.out.keep hb5)
      have HZ5 : Hid (W1.heap.size ≤ w5.heap.size) := Nat.le_trans HZ4.out hb5.size
      have HSV : Hid (∀ k, k < holes.length → SPt w5 (hvs.getD k default) (holes.getD k [])) := (HP.out.keep HB5.out).h
      clear hvo hb5 c0 x0 x1 x2 x3 x4
      obtain ⟨W6, HN6, HB6, HW6⟩ := boxS w5 va (mvL x outer).length vc none 0 0
      go_wp2_with fail
      rw [HW6.out]
      have HB6' := Lib.hid (ext_trans HB5.out HB6.out)
      have HS6 := Lib.hid (HS5.out.keep HB6.out)
      have HX6 := Lib.hid (HX5.out.keep HB6.out)
      have HR6 := Lib.hid (HR5.out.keep HB6.out)
      have HVO6 := Lib.hid (HVO.out.below HB6.out)
      have HZ6 : Hid (W6.heap.size = w5.heap.size + 1) := by show _ = _; rw [← HW6.out]; simp
      clear hk hb HB3 HS3 HX3 HR3
      go_loopw [10] (fun i wr => ∃ (k : Nat) (hs : List Value) (a : Option Addr) (c : Nat), k ≤ hvs.length ∧ i = .int .i64 k ∧ Hid (Below w5.heap.size w5 wr) ∧ Hid (W6.heap.size ≤ wr.heap.size) ∧
        Hid (ObjAt wr w5.heap.size #[.slice va (mvL x outer).length vc, .slice a hs.length c] 47) ∧ Hid (OwnHs wr W6.heap.size (.slice a hs.length c) hs ((holes.map (mvL x)).take k)) ∧ Hid (hs.length = k)) (fun i _ => hvs.length - (intOf i).toNat)
      case atStart => exact ⟨0, [], none, 0, Nat.zero_le _, rfl, HB6, Nat.le_refl _, HN6, OwnHs_nil _ _, rfl⟩
      case round =>
        obtain ⟨j, hs, a, c, hj, rfl, hb, hsz, hN, hH, hl⟩ := hrel
        have HSW := Lib.hid (HS5.out.keep hb.out)
        have HXW := Lib.hid (HX5.out.keep hb.out)
        have c1 := HSW.out.cell 1
        dsimp at c1
        by_cases hlt : j < hvs.length
        · have i2 : (j : Int) < hvs.length := by omega
          obtain ⟨xb, xo, rfl, hcx⟩ := S3.out j hlt
          obtain ⟨pa, pc, ep, _, _, _⟩ := HSV.out j (by have := HNL.out; omega)
          rw [ep] at hcx
          have HCX := Lib.hid (cell_keep HB5.out hcx)
          have HSJ : Hid (SPt w5 (.slice pa (holes.getD j []).length pc) (holes.getD j [])) := by show SPt ..; rw [← ep]; exact HSV.out j (by have := HNL.out; omega)
          have HCJ := Lib.hid (HH.out j (by have := HNL.out; omega))
          have HTK : Hid ((holes.map (mvL x)).take (j + 1) = (holes.map (mvL x)).take j ++ [mvL x (holes.getD j [])]) := by
            have h1 : j < holes.length := by have := HNL.out; omega
            show _ = _
            rw [List.take_add_one]
            simp [h1]
          clear hcx ep
          go_upto_region 16 with fail
          refine wp_region_lc gmT gmT_ok [⟨w5.heap.size, 0, [.slice va (mvL x outer).length vc, .slice a hs.length c]⟩, ⟨w.heap.size, 0, [.slice oa outer.length oc, .slice (some ⟨xb, xo, none⟩) hvs.length hc]⟩, ⟨xb, xo + j, [.slice pa (holes.getD j []).length pc]⟩, ⟨w.heap.size + 1, 0, (soA x).toList⟩]
            [(9, 0), (2, 1), (3, 3)] [(71, .ix j 2)] [] 8 9 10 12 74 75 76 77 67 45 44 47 [72, 73] [.slice pa (holes.getD j []).length pc, .agg (soA x)] (fun v => #[v]) #[.slice va (mvL x outer).length vc, .slice a hs.length c]
            (fun v u => OwnPt u W6.heap.size v (mvL x (holes.getD j []))) (.slice a hs.length c) W6.heap.size w5.heap.size 1 (fun u => Below w5.heap.size w5 u ∧ W6.heap.size ≤ u.heap.size) (fun u => OwnHs u W6.heap.size (.slice a hs.length c) hs ((holes.map (mvL x)).take j))
            (fun v u => ∃ xv, OwnHs u W6.heap.size v (hs ++ [xv]) ((holes.map (mvL x)).take (j + 1)))
            (by kernel_rfl) mixed (by kernel_rfl) (by kernel_rfl) (by kernel_rfl) (by decide) (by decide)
            ⟨_, rfl, rfl, by decide, fun a u K h1 h2 hK => wp_of_enter (enters_call rfl rfl h1 (fun args w => enters_of Tryz.func69 (by kernel_rfl) rfl args w) u) ((rcontour_any _ _ x u (SPt.keep HSJ.out h2.1) HCJ.out.nr HX.out HCJ.out.ln).mono fun e u' ⟨v, he, hv, hb⟩ => ⟨v, he, hK v u' (OwnPt.mono hv h2.2) hb⟩)⟩
            ⟨_, rfl, rfl, rfl, ⟨8, .data⟩, by simp, rfl, rfl⟩ ⟨_, rfl, rfl, rfl, ⟨9, .data⟩, by simp, rfl, rfl⟩ ⟨_, rfl, rfl, rfl, ⟨10, .data⟩, by simp, rfl, rfl⟩
            (fun v u u' h hb => OwnPt.below h hb) (fun x u h => build_one_pp x (OwnPt.form h) u)
            (fun xv o a2 u g K ho h1 h2 hv h3 h4 h5 hK => wp_app_pp (.tmp 67) (.tmp 75) ho W6.heap.size (.slice a hs.length c) _ hs [xv] h1 h2 h4.own (sl_one h3) (fun y hy => by obtain rfl := List.mem_singleton.1 hy; obtain ⟨_, _, _, rfl⟩ := OwnPt.form hv; rfl) (by have := hl.out; simp; omega) h5 fun v' u' a1 a3 => hK v' u' ⟨xv, by rw [HTK.out]; exact h4.app hv a3 a1⟩ a3)
            (by kernel_rfl) (fun v u h => by obtain ⟨xv, h⟩ := h; exact own_one h.own) rfl
            (fun u u' h hb => h.below hb) (fun v u u' h hb => by obtain ⟨xv, h⟩ := h; exact ⟨xv, h.below hb⟩) (fun v u h _ => by obtain ⟨xv, h⟩ := h; exact ⟨xv, h.cell (by have := HZ6.out; omega) _ _⟩)
            (fun u h ho e => by have := (h.own.lt _ e).1; have := HZ6.out; omega)
            ⟨hb.out.drew, hsz.out⟩ hH.out hsz.out hN.out
            (fun u u' h hb => ⟨h.1.trans (hb.mono h.1.size), Nat.le_trans h.2 hb.size⟩) (fun u u' h hn2 ho2 hg => ⟨h.1.grown hg h.1.size (fun r hr => by have := (ho2.own.lt r hr).1; have := HZ6.out; omega), Nat.le_trans h.2 hg.size⟩) (fun u v h => ⟨h.1.setCell (p := ⟨w5.heap.size, 1, none⟩) (Nat.le_refl _) v, by rw [size_setCell]; exact h.2⟩)
            (obsC (fun u hu => range_new hu.2) (obsC (fun u hu => range_new (HS5.out.keep hu.1.1)) (obsC (fun u hu => intR (cell_keep hu.1.1 HCX.out)) (obsC (fun u hu => range_new (HX5.out.keep hu.1.1)) obsN)))) ⟨rfl, rfl, rfl, trivial⟩ ?_
          conv => whnf
          refine And.intro (under_of ⟨rfl, hlt, rfl, by show xo + j = xo + j * 1; omega⟩) ?_
          conv => whnf
          refine And.intro (Nat.le_of_ble_eq_true rfl) ?_
          conv => whnf
          refine And.intro ⟨⟨rfl, rfl, trivial⟩, rfl, rfl⟩ ?_
          intro f6
          conv => whnf
          intro w6 v6 hc6 ho6 hn6 hx6
          obtain ⟨xv, hh6⟩ := ho6
          obtain ⟨a6, c6, rfl, _⟩ := hh6.sl
          have HB7 := Lib.hid hc6.1
          have HN7 := Lib.hid hn6
          have HX7 : Hid (ObjAt w6 w5.heap.size #[.slice va (mvL x outer).length vc, .slice a6 (hs ++ [xv]).length c6] 47) := hx6
          have HH7 := Lib.hid hh6
          have HL7 : Hid ((hs ++ [xv]).length = j + 1) := by show _ = _; rw [List.length_append, hl.out]; rfl
          clear hc6 hh6 hn6 hx6 hb hN hH hl hsz c1
          go_wp2_with fail
          go_roundw
          case rel => exact ⟨j + 1, hs ++ [xv], a6, c6, by omega, by go_num, HB7, HN7, HX7, HH7, HL7⟩
          case measure => simp [intOf]; omega
        · have i2 : ¬ (j : Int) < hvs.length := by omega
          have e : j = holes.length := by have := HNL.out; omega
          have HH8 : Hid (OwnHs wr W6.heap.size (.slice a hs.length c) hs (holes.map (mvL x))) := by show OwnHs ..; have := hH.out; rw [e, List.take_of_length_le (by simp)] at this; exact this
          have HV8 := Lib.hid (OwnPt.below HVO.out hb.out)
          have HR8 := Lib.hid (HR5.out.keep hb.out)
          have n0 := hN.out.cell 0
          have n1 := hN.out.cell 1
          dsimp at n0 n1
          go_wp2_with (refine wpList_store_row (o := ⟨none, .store _ _ _, _, _, _, _⟩) rfl 47 (.tmp 4) (.tmp 78) rfl (w.heap.size + 1 + 1) #[.slice va (mvL x outer).length vc, .slice a hs.length c] rfl rfl 47 _ HR8.out info_Shape rfl (sl2_one _ _ _ _ _ _) ?_)
          have HLD := Lib.hid (load_Shape (setRow_heap _ _ _ #[.slice va (mvL x outer).length vc, .slice a hs.length c] _ _ HR8.out))
          have HBR := Lib.hid (below_setRow (HB5.out.trans (hb.out.mono HB5.out.size)) (show w.heap.size ≤ w.heap.size + 1 + 1 by omega) #[.slice va (mvL x outer).length vc, .slice a hs.length c])
          have HOW : Hid (OwnShp (wr.setRow (w.heap.size + 1 + 1) #[.slice va (mvL x outer).length vc, .slice a hs.length c]) w.heap.size (.slice va (mvL x outer).length vc) (.slice a hs.length c) (mvL x outer) (holes.map (mvL x)) hs) :=
            OwnShp.row ⟨HV8.out, HH8.out.mono (by have := HZ6.out; have := HB5.out.size; omega)⟩ HR8.out (by decide) (by decide) _
          refine bodyPost_ret (results_cell Tryz.results35 rfl HLD.out) rfl ?_
          exact ⟨_, _, _, rfl, HOW.out, HBR.out⟩

end Go.Proofs.YtfmhickjefogdaaGreat
