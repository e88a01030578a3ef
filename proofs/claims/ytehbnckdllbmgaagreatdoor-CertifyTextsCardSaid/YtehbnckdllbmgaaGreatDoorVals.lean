/- A region that draws its order and whose operations have values known ahead: each operation is looked at once. -/
import Derived.Test.YtehbnckdllbmgaaGreatDoorInv
set_option linter.unusedSimpArgs false
set_option linter.unusedVariables false
namespace Go.Proofs.YtehbnckdllbmgaaGreatDoor
open Go.RowKit

/-- What has come up has its value; below the world at the start nothing has changed. -/
structure IV (S : List Nat) (d : Nat → Nat) (V : Nat → Value) (W : World) (a0 : Act) (L : Nat → Bool) (a : Act) (w : World) : Prop where
  sm : Sm S a0 a
  bw : Below W.heap.size W w
  val : ∀ i, L i = true → a.eval (.tmp (d i)) = V i
theorem IV.start {S : List Nat} {d : Nat → Nat} {V : Nat → Value} {W : World} {a0 : Act} : IV S d V W a0 (fun _ => false) a0 W.drew :=
  ⟨Sm.refl _ _, (Below.refl _ _).drew, fun _ h => by cases h⟩
theorem IV.next {S : List Nat} {d : Nat → Nat} {V : Nat → Value} {W : World} {a0 : Act} {L : Nat → Bool} {a : Act} {w w' : World} (h : IV S d V W a0 L a w) (i : Nat) (hS : d i ∈ S) (hz : d i < a0.tmps.size) (hd : ∀ j, d j = d i → j = i)
    (hb : Below W.heap.size W w') : IV S d V W a0 (updL L i) (a.put (some (d i)) (V i)) w' := by
  refine ⟨h.sm.put hS _, hb, fun j hj => ?_⟩
  by_cases e : j = i
  · subst e; exact eval_put_same (by rw [h.sm.1]; exact hz) _
  · rw [eval_put_other (fun e2 => e (hd j e2))]
    rw [updL_other e] at hj
    exact h.val j hj
theorem wp_name {P : Program} {c : Code} {Q : Exit → Act → World → Prop} {a : Act} {w : World} (h : ∀ a0 : Act, a0 = a → Code.wp P c Q a0 w) : Code.wp P c Q a w := h a rfl
theorem vl_move {o : Oper} {a : Act} {w : World} {K : Act → World → Prop} {Q : Exit → Act → World → Prop} (x : Operand) (ho : o.op = .move x) (v : Value) (hx : a.eval x = v) (h : K (a.put o.dst v) w) : o.wp Tryz.prog a w K Q := by
  subst hx
  unfold Oper.wp execOp
  simp only [ho]
  exact h
theorem vl_assign {o : Oper} {a : Act} {w : World} {K : Act → World → Prop} {Q : Exit → Act → World → Prop} (x : Operand) (ho : o.op = .assign x) (v : Value) (hx : a.eval x = v) (h : K (a.put o.dst v) w) : o.wp Tryz.prog a w K Q := by
  subst hx
  unfold Oper.wp execOp
  simp only [ho]
  exact h
theorem vl_load {o : Oper} {a : Act} {w : World} {K : Act → World → Prop} {Q : Exit → Act → World → Prop} (ty : TypeId) (hagg : ∀ w, (isAgg ty).run Tryz.prog w = .ok false w) (x : Operand) (ho : o.op = .load ty x)
    (p : Addr) (v : Value) (hx : a.eval x = .pointer (some p)) (hc : w.cell? p = some v) (h : K (a.put o.dst v) w) : o.wp Tryz.prog a w K Q := by
  unfold Oper.wp execOp
  simp only [ho, hx, Instr.loadAt, Instr.sureAddr, Sem.run_bind, Sem.run_pure, Result.andThen_ok, loadVar, hagg]
  go_simp
  exact h
theorem vl_sadd {o : Oper} {a : Act} {w : World} {K : Act → World → Prop} {Q : Exit → Act → World → Prop} (x y : Operand) (ho : o.op = .binOp .add 9 x y 9) (s t : ByteArray) (hx : a.eval x = .string s) (hy : a.eval y = .string t)
    (hs : s.size ≤ 1000000) (ht : t.size ≤ 1000000) (h : K (a.put o.dst (.string (s ++ t))) w) : o.wp Tryz.prog a w K Q := by
  unfold Oper.wp execOp
  simp only [ho, hx, hy]
  go_simp
  rw [if_neg (by omega)]
  exact h
theorem agg_string (w : World) : (isAgg 9).run Tryz.prog w = .ok false w := by
  unfold isAgg; rw [Sem.run_bind, run_underlying Tryz.underlying9 w]; rfl
theorem agg_int0 (w : World) : (isAgg 3).run Tryz.prog w = .ok false w := by
  unfold isAgg; rw [Sem.run_bind, run_underlying Tryz.underlying3 w]; rfl
end Go.Proofs.YtehbnckdllbmgaaGreatDoor
