/- Laws of single operations, at whatever frame. -/
import Derived.Test.YtehbnckdllbmgaaGreatDoorInv
set_option linter.unusedSimpArgs false
set_option linter.unusedVariables false
namespace Go.Proofs.YtehbnckdllbmgaaGreatDoor
open Go.RowKit
theorem agg_rows (w : World) : (isAgg 22).run Tryz.prog w = .ok false w := by
  unfold isAgg; rw [Sem.run_bind, run_underlying Tryz.underlying22 w]; rfl
theorem agg_ints (w : World) : (isAgg 24).run Tryz.prog w = .ok false w := by
  unfold isAgg; rw [Sem.run_bind, run_underlying Tryz.underlying24 w]; rfl
theorem agg_int (w : World) : (isAgg 3).run Tryz.prog w = .ok false w := by
  unfold isAgg; rw [Sem.run_bind, run_underlying Tryz.underlying3 w]; rfl
theorem wp_move1 {o : Oper} {a : Act} {w : World} {K : Act → World → Prop} {Q : Exit → Act → World → Prop} (x : Operand) (ho : o.op = .move x) (v : Value) (hx : a.eval x = v) (h : K (a.put o.dst v) w) : o.wp Tryz.prog a w K Q := by
  subst hx
  unfold Oper.wp execOp
  simp only [ho]
  exact h
theorem wp_load1 {o : Oper} {a : Act} {w : World} {K : Act → World → Prop} {Q : Exit → Act → World → Prop} (ty : TypeId) (hagg : ∀ w, (isAgg ty).run Tryz.prog w = .ok false w) (x : Operand) (ho : o.op = .load ty x)
    (p : Addr) (v : Value) (hx : a.eval x = .pointer (some p)) (hc : w.cell? p = some v) (h : K (a.put o.dst v) w) : o.wp Tryz.prog a w K Q := by
  unfold Oper.wp execOp
  simp only [ho, hx, Instr.loadAt, Instr.sureAddr, Sem.run_bind, Sem.run_pure, Result.andThen_ok, loadVar, hagg]
  go_simp
  exact h
theorem size_rows (w : World) : (sizeOf 22).run Tryz.prog w = .ok 1 w := by
  have hi : (Tryz.prog.info? 22).map (·.size) = some 1 := by kernel_rfl
  cases hq : Tryz.prog.info? 22 with
  | none => simp [hq] at hi
  | some i =>
    have hs : i.size = 1 := by simpa [hq] using hi
    simp [sizeOf, typeInfo, hq, hs]
theorem size_ints (w : World) : (sizeOf 24).run Tryz.prog w = .ok 1 w := by
  have hi : (Tryz.prog.info? 24).map (·.size) = some 1 := by kernel_rfl
  cases hq : Tryz.prog.info? 24 with
  | none => simp [hq] at hi
  | some i =>
    have hs : i.size = 1 := by simpa [hq] using hi
    simp [sizeOf, typeInfo, hq, hs]
theorem wp_store1 {o : Oper} {a : Act} {w : World} {K : Act → World → Prop} {Q : Exit → Act → World → Prop} (ty : TypeId) (hsz : ∀ w, (sizeOf ty).run Tryz.prog w = .ok 1 w) (x y : Operand) (ho : o.op = .store ty x y) (hd : o.dst = none)
    (p : Addr) (u : Value) (b : Option Addr) (n c : Nat) (hx : a.eval x = .pointer (some p)) (hy : a.eval y = .slice b n c) (hc : w.cell? p = some u) (hf : w.frozen? p = false) (h : K a (w.setCell p (.slice b n c))) : o.wp Tryz.prog a w K Q := by
  unfold Oper.wp execOp
  simp only [ho]
  generalize a.eval = e at *
  go_simp
  exact h
theorem wp_slice1 {o : Oper} {a : Act} {w : World} {K : Act → World → Prop} {Q : Exit → Act → World → Prop} (x : Operand) (ho : o.op = .buildSlice 24 1 #[(0, x)]) (v : Int) (hx : a.eval x = .int .i64 v)
    (h : K (a.put o.dst (.slice (some ⟨w.heap.size, 0, none⟩) 1 1)) (w.alloc (.cells #[.int .i64 v] 3))) : o.wp Tryz.prog a w K Q := by
  unfold Oper.wp execOp
  simp only [ho]
  generalize a.eval = e at *
  go_simp
  exact h
theorem wp_slice2 {o : Oper} {a : Act} {w : World} {K : Act → World → Prop} {Q : Exit → Act → World → Prop} (x : Operand) (ho : o.op = .buildSlice 22 1 #[(0, x)]) (b : Option Addr) (n c : Nat) (hx : a.eval x = .slice b n c)
    (h : K (a.put o.dst (.slice (some ⟨w.heap.size, 0, none⟩) 1 1)) (w.alloc (.cells #[.slice b n c] 24))) : o.wp Tryz.prog a w K Q := by
  unfold Oper.wp execOp
  simp only [ho]
  generalize a.eval = e at *
  go_simp
  exact h
theorem wp_add1 {o : Oper} {a : Act} {w : World} {K : Act → World → Prop} {Q : Exit → Act → World → Prop} (x y : Operand) (ho : o.op = .binOp .add 3 x y 3) (u v : Int) (hx : a.eval x = .int .i64 u) (hy : a.eval y = .int .i64 v) (hb : -9223372036854775808 ≤ u + v ∧ u + v ≤ 9223372036854775807)
    (h : K (a.put o.dst (.int .i64 (u + v))) w) : o.wp Tryz.prog a w K Q := by
  have e1 : IntKind.i64.wrap (u + v) = u + v := IntWalk.i64_in _ hb
  unfold Oper.wp execOp
  simp only [ho, hx, hy]
  go_simp
  exact h
theorem wp_sub1 {o : Oper} {a : Act} {w : World} {K : Act → World → Prop} {Q : Exit → Act → World → Prop} (x y : Operand) (ho : o.op = .binOp .sub 3 x y 3) (u v : Int) (hx : a.eval x = .int .i64 u) (hy : a.eval y = .int .i64 v) (hb : -9223372036854775808 ≤ u - v ∧ u - v ≤ 9223372036854775807)
    (h : K (a.put o.dst (.int .i64 (u - v))) w) : o.wp Tryz.prog a w K Q := by
  have e1 : IntKind.i64.wrap (u - v) = u - v := IntWalk.i64_in _ hb
  unfold Oper.wp execOp
  simp only [ho, hx, hy]
  go_simp
  exact h
end Go.Proofs.YtehbnckdllbmgaaGreatDoor
