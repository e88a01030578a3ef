/- A drawn region with guards whose operations have values known ahead; what a false guard leaves out is undefined. -/
import Derived.Test.YtpbmmdoodmbneaaGreatDoorTrnQ

/- A drawn region with guards all of which are true; the operations of transport's laws. -/
namespace Go.Proofs.YtpbmmdoodmbneaaGreatDoor
open Go.RowKit

/-- every operation writes its slot; a guard waits for what it looks at -/
def destG (d : Nat → Nat) (ops : Array Oper) : Bool := (List.range ops.size).all fun i => match ops[i]? with
  | some o => (match o.dst with | some m => m == d i | none => false) && (match o.guard with | none => true | some (j, _) => o.after.any fun e => decide (e.on = j) && Region.binds .any e)
  | none => true
theorem destG_spec {d : Nat → Nat} {ops : Array Oper} (h : destG d ops = true) {i : Nat} {o : Oper} (ho : ops[i]? = some o) : o.dst = some (d i) ∧ ∀ j b, o.guard = some (j, b) → ∃ e ∈ o.after, e.on = j ∧ Region.binds .any e = true := by
  have hi : i < ops.size := (Array.getElem?_eq_some_iff.1 ho).1
  unfold destG at h
  rw [List.all_eq_true] at h
  have := h i (List.mem_range.2 hi)
  rw [ho] at this
  simp only [Bool.and_eq_true] at this
  obtain ⟨h1, h2⟩ := this
  refine ⟨?_, fun j b hg => ?_⟩
  · cases hd : o.dst with
    | none => rw [hd] at h1; cases h1
    | some m => rw [hd] at h1; simp at h1; rw [h1]
  · rw [hg] at h2
    simp only at h2
    rw [Array.any_eq_true'] at h2
    obtain ⟨e, he, h3⟩ := h2
    simp only [Bool.and_eq_true, decide_eq_true_eq] at h3
    exact ⟨e, he, h3.1, h3.2⟩
theorem wp_region_ipg {P : Program} {id : Nat} {ops : Array Oper} {Q : Exit → Act → World → Prop} {a0 : Act} {w : World} (d : Nat → Nat) (Pr : Nat → Value → World → Prop) (R : World → Prop)
    (hm : P.follows .mixedOrders = true) (ho : ordB ops = true) (hs : slotsB d ops.size a0.tmps.size = true) (hd : destG d ops = true) (h0 : R w.drew)
    (mono : ∀ i v w w', Pr i v w → Below w.heap.size w w' → Pr i v w')
    (guards : ∀ (i : Nat) (o : Oper) (j : Nat) (b : Bool) (v : Value) (w : World), ops[i]? = some o → o.guard = some (j, b) → Pr j v w → v = .bool b)
    (step : ∀ i o a w, ops[i]? = some o → (∀ e ∈ o.after, Region.binds .any e = true → Pr e.on (a.eval (.tmp (d e.on))) w) → Sm (slots d ops.size) a0 a → R w →
      ∀ K : Act → World → Prop, (∀ v w', R w' → Below w.heap.size w w' → Pr i v w' → K (a.put o.dst v) w') → Oper.wp P o a w K Q)
    (done : ∀ a w, Sm (slots d ops.size) a0 a → R w → (∀ i, i < ops.size → Pr i (a.eval (.tmp (d i))) w) → Q .normal a w) : (Code.region id ops true).wp P Q a0 w := by
  obtain ⟨s1, s2⟩ := slotsB_spec hs
  refine wp_region_inv hm ho (fun L a w => Sm (slots d ops.size) a0 a ∧ R w ∧ (∀ i, i < ops.size → L i = true → Pr i (a.eval (.tmp (d i))) w)) ?_ ?_ ?_
  · exact ⟨Sm.refl _ _, h0, fun i _ h => (by cases h)⟩
  · rintro i o L a w hop hLi hdep hcl ⟨I1, I2, I3⟩ K hK
    have hi : i < ops.size := (Array.getElem?_eq_some_iff.1 hop).1
    obtain ⟨e1, e2⟩ := destG_spec hd hop
    have hdv : ∀ e ∈ o.after, Region.binds .any e = true → Pr e.on (a.eval (.tmp (d e.on))) w := fun e he hb => I3 e.on (by have := ordB_spec ho hop e he hb; omega) (hdep e he hb)
    have hwt : Region.wanted o (yielded ops a.tmps) = true := by
      unfold Region.wanted
      cases hg : o.guard with
      | none => rfl
      | some jb =>
        obtain ⟨j, b⟩ := jb
        obtain ⟨e, he, rfl, hb⟩ := e2 j b hg
        have hv := guards i o e.on b _ w hop hg (hdv e he hb)
        have hj : e.on < ops.size := by have := ordB_spec ho hop e he hb; omega
        have hoj : ops[e.on]? = some ops[e.on] := Array.getElem?_eq_getElem hj
        have hz : d e.on < a.tmps.size := by rw [I1.1]; exact s1 _ hj
        rw [eval_tmp] at hv
        rw [Array.getD_eq_getD_getElem?, Array.getElem?_eq_getElem hz] at hv
        simp only [Option.getD_some] at hv
        dsimp only
        unfold yielded
        rw [hoj]
        simp only [Option.bind_some]
        rw [(destG_spec hd hoj).1]
        simp only [Option.bind_some]
        rw [Array.getElem?_eq_getElem hz, hv]
        simp
    rw [if_pos hwt]
    refine step i o a w hop hdv I1 I2 K fun v w' r1 r2 r3 => hK _ _ ⟨?_, r1, fun j hj hl => ?_⟩
    · rw [e1]; exact I1.put (mem_slots hi) _
    · rw [e1]
      by_cases e : j = i
      · subst e
        rw [eval_put_same (by rw [I1.1]; exact s1 j hj)]
        exact r3
      · rw [eval_put_other (fun h => e (s2 j i hj hi h))]
        rw [updL_other e] at hl
        exact mono j _ w w' (I3 j hj hl) r2
  · rintro L a w hall ⟨I1, I2, I3⟩
    exact done a w I1 I2 fun i hi => I3 i hi (hall i hi)
section
variable {o : Oper} {a : Act} {w : World} {K : Act → World → Prop} {Q : Exit → Act → World → Prop}
theorem fa_yard (x : Operand) (k : Nat) (hk : k < 3) (ho : o.op = .fieldAddr 26 x k) (b off : Nat) (hx : a.eval x = .pointer (some ⟨b, off, none⟩)) (h : K (a.put o.dst (.pointer (some ⟨b, off + k, none⟩))) w) : o.wp Tryz.prog a w K Q := by
  have hc : k = 0 ∨ k = 1 ∨ k = 2 := by omega
  unfold Oper.wp execOp
  rcases hc with rfl | rfl | rfl
  all_goals
    simp only [ho]
    generalize a.eval = ev at *
    go_simp
    exact h
theorem vl_pick (x y z : Operand) (ho : o.op = .pick x y z) (b : Bool) (v u : Value) (hx : a.eval x = .bool b) (hy : a.eval y = v) (hz : a.eval z = u) (h : K (a.put o.dst (if b then v else u)) w) : o.wp Tryz.prog a w K Q := by
  subst hy hz
  unfold Oper.wp execOp
  simp only [ho]
  generalize a.eval = ev at *
  cases b <;> go_simp <;> exact h
theorem vl_call0 (f : FuncId) (ho : o.op = .call { callee := .value (.func f), args := #[], argTypes := #[] })
    (en : ∀ args w, (callFunc f args).run Tryz.prog w = .ok (.enter f args) w) (h : Calls Tryz.prog f #[] w fun e w' => ∃ v, e = .returned v ∧ K (a.put o.dst v) w') : o.wp Tryz.prog a w K Q := by
  have hf : a.eval (.func f) = .func (.func f) #[] #[] := rfl
  unfold Oper.wp execOp
  simp only [ho]
  generalize a.eval = ev at *
  go_simp
  refine h.mono ?_
  rintro e w' ⟨v, rfl, hk⟩
  exact hk
theorem eq_ints (t r : TypeId) (ht : Tryz.prog.underlying t = some (.int .i64)) (x y : Operand) (ho : o.op = .binOp .eql t x y r) (p q : Int) (hx : a.eval x = .int .i64 p) (hy : a.eval y = .int .i64 q)
    (h : K (a.put o.dst (.bool (p == q))) w) : o.wp Tryz.prog a w K Q := by
  unfold Oper.wp execOp
  simp only [ho]
  generalize a.eval = ev at *
  go_simp
  exact h
theorem agg_Trucks (w : World) : (isAgg 22).run Tryz.prog w = .ok false w := by
  unfold isAgg; rw [Sem.run_bind, run_underlying Tryz.underlying22 w]; rfl
theorem agg_Moves (w : World) : (isAgg 24).run Tryz.prog w = .ok false w := by
  unfold isAgg; rw [Sem.run_bind, run_underlying Tryz.underlying24 w]; rfl
end
end Go.Proofs.YtpbmmdoodmbneaaGreatDoor

/- A drawn region with guards whose operations have values known ahead; what a false guard leaves out is undefined. -/
namespace Go.Proofs.YtpbmmdoodmbneaaGreatDoor
open Go.RowKit

/-- whether an operation comes up, by the values -/
def gOn (ops : Array Oper) (V : Nat → Value) (i : Nat) : Bool := match ops[i]? with
  | some o => (match o.guard with
    | none => true
    | some (j, b) => (match V j with
      | .bool c => c == b
      | _ => false))
  | none => true
theorem wp_region_gd {P : Program} {id : Nat} {ops : Array Oper} {Q : Exit → Act → World → Prop} {a0 : Act} {w : World} (d : Nat → Nat) (V : Nat → Value) (R : World → Prop)
    (hm : P.follows .mixedOrders = true) (ho : ordB ops = true) (hs : slotsB d ops.size a0.tmps.size = true) (hd : destG d ops = true) (h0 : R w.drew)
    (step : ∀ i o a w, ops[i]? = some o → (∀ e ∈ o.after, Region.binds .any e = true → a.eval (.tmp (d e.on)) = V e.on) → Sm (slots d ops.size) a0 a → R w →
      ∀ K : Act → World → Prop, (∀ v w', R w' → v = V i → K (a.put o.dst v) w') → if gOn ops V i = true then Oper.wp P o a w K Q else V i = undef)
    (done : ∀ a w, Sm (slots d ops.size) a0 a → R w → (∀ i, i < ops.size → a.eval (.tmp (d i)) = V i) → Q .normal a w) : (Code.region id ops true).wp P Q a0 w := by
  obtain ⟨s1, s2⟩ := slotsB_spec hs
  refine wp_region_inv hm ho (fun L a w => Sm (slots d ops.size) a0 a ∧ R w ∧ (∀ i, i < ops.size → L i = true → a.eval (.tmp (d i)) = V i)) ?_ ?_ ?_
  · exact ⟨Sm.refl _ _, h0, fun i _ h => (by cases h)⟩
  · rintro i o L a w hop hLi hdep hcl ⟨I1, I2, I3⟩ K hK
    have hi : i < ops.size := (Array.getElem?_eq_some_iff.1 hop).1
    obtain ⟨e1, e2⟩ := destG_spec hd hop
    have hdv : ∀ e ∈ o.after, Region.binds .any e = true → a.eval (.tmp (d e.on)) = V e.on := fun e he hb => I3 e.on (by have := ordB_spec ho hop e he hb; omega) (hdep e he hb)
    have hwt : Region.wanted o (yielded ops a.tmps) = gOn ops V i := by
      unfold Region.wanted gOn
      rw [hop]
      dsimp only
      cases hg : o.guard with
      | none => rfl
      | some jb =>
        obtain ⟨j, b⟩ := jb
        obtain ⟨e, he, rfl, hb⟩ := e2 j b hg
        have hv := hdv e he hb
        have hj : e.on < ops.size := by have := ordB_spec ho hop e he hb; omega
        have hoj : ops[e.on]? = some ops[e.on] := Array.getElem?_eq_getElem hj
        have hz : d e.on < a.tmps.size := by rw [I1.1]; exact s1 _ hj
        rw [eval_tmp] at hv
        rw [Array.getD_eq_getD_getElem?, Array.getElem?_eq_getElem hz] at hv
        simp only [Option.getD_some] at hv
        dsimp only
        unfold yielded
        rw [hoj]
        simp only [Option.bind_some]
        rw [(destG_spec hd hoj).1]
        simp only [Option.bind_some]
        rw [Array.getElem?_eq_getElem hz, hv]
        cases V e.on <;> first | rfl | (rename_i c; cases c <;> cases b <;> rfl)
    have key : ∀ (v : Value) (w' : World), R w' → v = V i → K (a.put o.dst v) w' := fun v w' r1 r3 => hK _ _ ⟨by rw [e1]; exact I1.put (mem_slots hi) _, r1, fun j hj hl => by
      rw [e1]
      by_cases e : j = i
      · subst e
        rw [eval_put_same (by rw [I1.1]; exact s1 j hj)]
        exact r3
      · rw [eval_put_other (fun h => e (s2 j i hj hi h))]
        rw [updL_other e] at hl
        exact I3 j hj hl⟩
    have st := step i o a w hop hdv I1 I2 K key
    rw [hwt]
    by_cases hg : gOn ops V i = true
    · rw [if_pos hg] at st ⊢
      exact st
    · rw [if_neg hg] at st ⊢
      exact key _ _ I2 st.symm
  · rintro L a w hall ⟨I1, I2, I3⟩
    exact done a w I1 I2 fun i hi => I3 i hi (hall i hi)
section
variable {o : Oper} {a : Act} {w : World} {K : Act → World → Prop} {Q : Exit → Act → World → Prop}
theorem vl_not (x : Operand) (t : TypeId) (ho : o.op = .unOp .not t x) (b : Bool) (hx : a.eval x = .bool b) (h : K (a.put o.dst (.bool (!b))) w) : o.wp Tryz.prog a w K Q := by
  unfold Oper.wp execOp
  simp only [ho]
  generalize a.eval = ev at *
  go_simp
  exact h
theorem lt_ints (x y : Operand) (ho : o.op = .binOp .lss 3 x y 3) (p q : Int) (hx : a.eval x = .int .i64 p) (hy : a.eval y = .int .i64 q)
    (h : K (a.put o.dst (.bool (decide (p < q)))) w) : o.wp Tryz.prog a w K Q := by
  unfold Oper.wp execOp
  simp only [ho]
  generalize a.eval = ev at *
  go_simp
  exact h
theorem lt_strs (x y : Operand) (ho : o.op = .binOp .lss 9 x y 9) (p q : ByteArray) (hx : a.eval x = .string p) (hy : a.eval y = .string q)
    (h : K (a.put o.dst (.bool (Op.bytesLess p.toList q.toList))) w) : o.wp Tryz.prog a w K Q := by
  unfold Oper.wp execOp
  simp only [ho]
  generalize a.eval = ev at *
  go_simp
  exact h
theorem agg_bool (w : World) : (isAgg 4).run Tryz.prog w = .ok false w := by
  unfold isAgg; rw [Sem.run_bind, run_underlying Tryz.underlying4 w]; rfl
end
end Go.Proofs.YtpbmmdoodmbneaaGreatDoor
