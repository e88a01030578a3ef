/- Drawn regions whose operations have values known ahead, with guards, in a function and in a round; the laws of operations on numbers and rows. -/
import Derived.Test.YtehbnckdllbmgaaGreatDoorValP
import Derived.Test.YtehbnckdllbmgaaGreatDoorOps
import Derived.Test.YtehbnckdllbmgaaGreatDoorInvIn
set_option linter.unusedSimpArgs false
set_option linter.unusedVariables false
namespace Go.Proofs.YtehbnckdllbmgaaGreatDoor
open Go.RowKit

/-- every operation writes its slot; a guard waits for what it looks at -/
def destG (d : Nat → Nat) (ops : Array Oper) : Bool := (List.range ops.size).all fun i => match ops[i]? with
  | some o => (match o.dst with | some m => m == d i | none => false) && (match o.guard with | none => true | some (j, _) => o.after.any fun e => decide (e.on = j) && Region.binds .any e)
  | none => true
theorem destG_spec {d : Nat → Nat} {ops : Array Oper} (h : destG d ops = true) {i : Nat} {o : Oper} (ho : ops[i]? = some o) : o.dst = some (d i) ∧ ∀ j b, o.guard = some (j, b) → ∃ e ∈ o.after, e.on = j ∧ Region.binds .any e = true := by
  have hi : i < ops.size := (Array.getElem?_eq_some_iff.1 ho).1
  unfold destG at h
  rw [List.all_eq_true] at h
  have := h i (List.mem_range.2 hi)
  rw [ho] at this
  simp only [Bool.and_eq_true] at this
  obtain ⟨h1, h2⟩ := this
  refine ⟨?_, fun j b hg => ?_⟩
  · cases hd : o.dst with
    | none => rw [hd] at h1; cases h1
    | some m => rw [hd] at h1; simp at h1; rw [h1]
  · rw [hg] at h2
    simp only at h2
    rw [Array.any_eq_true'] at h2
    obtain ⟨e, he, h3⟩ := h2
    simp only [Bool.and_eq_true, decide_eq_true_eq] at h3
    exact ⟨e, he, h3.1, h3.2⟩
/-- whether an operation comes up, by the values -/
def gOn (ops : Array Oper) (V : Nat → Value) (i : Nat) : Bool := match ops[i]? with
  | some o => (match o.guard with
    | none => true
    | some (j, b) => (match V j with
      | .bool c => c == b
      | _ => false))
  | none => true
theorem wp_region_gd {P : Program} {id : Nat} {ops : Array Oper} {Q : Exit → Act → World → Prop} {a0 : Act} {w : World} (d : Nat → Nat) (V : Nat → Value) (R : World → Prop)
    (hm : P.follows .mixedOrders = true) (ho : ordB ops = true) (hs : slotsB d ops.size a0.tmps.size = true) (hd : destG d ops = true) (h0 : R w.drew)
    (step : ∀ i o a w, ops[i]? = some o → (∀ e ∈ o.after, Region.binds .any e = true → a.eval (.tmp (d e.on)) = V e.on) → Sm (slots d ops.size) a0 a → R w →
      ∀ K : Act → World → Prop, (∀ v w', R w' → v = V i → K (a.put o.dst v) w') → if gOn ops V i = true then Oper.wp P o a w K Q else V i = undef)
    (done : ∀ a w, Sm (slots d ops.size) a0 a → R w → (∀ i, i < ops.size → a.eval (.tmp (d i)) = V i) → Q .normal a w) : (Code.region id ops true).wp P Q a0 w := by
  obtain ⟨s1, s2⟩ := slotsB_spec hs
  refine wp_region_inv hm ho (fun L a w => Sm (slots d ops.size) a0 a ∧ R w ∧ (∀ i, i < ops.size → L i = true → a.eval (.tmp (d i)) = V i)) ?_ ?_ ?_
  · exact ⟨Sm.refl _ _, h0, fun i _ h => (by cases h)⟩
  · rintro i o L a w hop hLi hdep hcl ⟨I1, I2, I3⟩ K hK
    have hi : i < ops.size := (Array.getElem?_eq_some_iff.1 hop).1
    obtain ⟨e1, e2⟩ := destG_spec hd hop
    have hdv : ∀ e ∈ o.after, Region.binds .any e = true → a.eval (.tmp (d e.on)) = V e.on := fun e he hb => I3 e.on (by have := ordB_spec ho hop e he hb; omega) (hdep e he hb)
    have hwt : Region.wanted o (yielded ops a.tmps) = gOn ops V i := by
      unfold Region.wanted gOn
      rw [hop]
      dsimp only
      cases hg : o.guard with
      | none => rfl
      | some jb =>
        obtain ⟨j, b⟩ := jb
        obtain ⟨e, he, rfl, hb⟩ := e2 j b hg
        have hv := hdv e he hb
        have hj : e.on < ops.size := by have := ordB_spec ho hop e he hb; omega
        have hoj : ops[e.on]? = some ops[e.on] := Array.getElem?_eq_getElem hj
        have hz : d e.on < a.tmps.size := by rw [I1.1]; exact s1 _ hj
        rw [eval_tmp] at hv
        rw [Array.getD_eq_getD_getElem?, Array.getElem?_eq_getElem hz] at hv
        simp only [Option.getD_some] at hv
        dsimp only
        unfold yielded
        rw [hoj]
        simp only [Option.bind_some]
        rw [(destG_spec hd hoj).1]
        simp only [Option.bind_some]
        rw [Array.getElem?_eq_getElem hz, hv]
        cases V e.on <;> first | rfl | (rename_i c; cases c <;> cases b <;> rfl)
    have key : ∀ (v : Value) (w' : World), R w' → v = V i → K (a.put o.dst v) w' := fun v w' r1 r3 => hK _ _ ⟨by rw [e1]; exact I1.put (mem_slots hi) _, r1, fun j hj hl => by
      rw [e1]
      by_cases e : j = i
      · subst e
        rw [eval_put_same (by rw [I1.1]; exact s1 j hj)]
        exact r3
      · rw [eval_put_other (fun h => e (s2 j i hj hi h))]
        rw [updL_other e] at hl
        exact I3 j hj hl⟩
    have st := step i o a w hop hdv I1 I2 K key
    rw [hwt]
    by_cases hg : gOn ops V i = true
    · rw [if_pos hg] at st ⊢
      exact st
    · rw [if_neg hg] at st ⊢
      exact key _ _ I2 st.symm
  · rintro L a w hall ⟨I1, I2, I3⟩
    exact done a w I1 I2 fun i hi => I3 i hi (hall i hi)
theorem wpIn_region_gd {P : Program} {id : Nat} {ops : Array Oper} {Q : Exit → Act → World → Prop} {a0 : Act} {w : World} {l n : Nat} (d : Nat → Nat) (V : Nat → Value) (R : World → Prop)
    (hm : P.follows .mixedOrders = true) (ho : ordB ops = true) (hs : slotsB d ops.size a0.tmps.size = true) (hd : destG d ops = true) (hdf : (ops.all fun o => match o.op with | .defer _ => false | _ => true) = true) (h0 : R w.drew)
    (step : ∀ i o a w, ops[i]? = some o → (∀ e ∈ o.after, Region.binds .any e = true → a.eval (.tmp (d e.on)) = V e.on) → Sm (slots d ops.size) a0 a → R w →
      ∀ K : Act → World → Prop, (∀ v w', R w' → v = V i → K (a.put o.dst v) w') → if gOn ops V i = true then Oper.wp P o a w K Q else V i = undef)
    (done : ∀ a w, Sm (slots d ops.size) a0 a → R w → (∀ i, i < ops.size → a.eval (.tmp (d i)) = V i) → Q .normal a w) : (Code.region id ops true).wpIn (Fence.wide.inRound l) n P Q a0 w := by
  obtain ⟨s1, s2⟩ := slotsB_spec hs
  refine wpIn_region_inv hm ho hdf (fun L a w => Sm (slots d ops.size) a0 a ∧ R w ∧ (∀ i, i < ops.size → L i = true → a.eval (.tmp (d i)) = V i)) ?_ ?_ ?_
  · exact ⟨Sm.refl _ _, h0, fun i _ h => (by cases h)⟩
  · rintro i o L a w hop hLi hdep hcl ⟨I1, I2, I3⟩ K hK
    have hi : i < ops.size := (Array.getElem?_eq_some_iff.1 hop).1
    obtain ⟨e1, e2⟩ := destG_spec hd hop
    have hdv : ∀ e ∈ o.after, Region.binds .any e = true → a.eval (.tmp (d e.on)) = V e.on := fun e he hb => I3 e.on (by have := ordB_spec ho hop e he hb; omega) (hdep e he hb)
    have hwt : Region.wanted o (yielded ops a.tmps) = gOn ops V i := by
      unfold Region.wanted gOn
      rw [hop]
      dsimp only
      cases hg : o.guard with
      | none => rfl
      | some jb =>
        obtain ⟨j, b⟩ := jb
        obtain ⟨e, he, rfl, hb⟩ := e2 j b hg
        have hv := hdv e he hb
        have hj : e.on < ops.size := by have := ordB_spec ho hop e he hb; omega
        have hoj : ops[e.on]? = some ops[e.on] := Array.getElem?_eq_getElem hj
        have hz : d e.on < a.tmps.size := by rw [I1.1]; exact s1 _ hj
        rw [eval_tmp] at hv
        rw [Array.getD_eq_getD_getElem?, Array.getElem?_eq_getElem hz] at hv
        simp only [Option.getD_some] at hv
        dsimp only
        unfold yielded
        rw [hoj]
        simp only [Option.bind_some]
        rw [(destG_spec hd hoj).1]
        simp only [Option.bind_some]
        rw [Array.getElem?_eq_getElem hz, hv]
        cases V e.on <;> first | rfl | (rename_i c; cases c <;> cases b <;> rfl)
    have key : ∀ (v : Value) (w' : World), R w' → v = V i → K (a.put o.dst v) w' := fun v w' r1 r3 => hK _ _ ⟨by rw [e1]; exact I1.put (mem_slots hi) _, r1, fun j hj hl => by
      rw [e1]
      by_cases e : j = i
      · subst e
        rw [eval_put_same (by rw [I1.1]; exact s1 j hj)]
        exact r3
      · rw [eval_put_other (fun h => e (s2 j i hj hi h))]
        rw [updL_other e] at hl
        exact I3 j hj hl⟩
    have st := step i o a w hop hdv I1 I2 K key
    rw [hwt]
    by_cases hg : gOn ops V i = true
    · rw [if_pos hg] at st ⊢
      exact st
    · rw [if_neg hg] at st ⊢
      exact key _ _ I2 st.symm
  · rintro L a w hall ⟨I1, I2, I3⟩
    exact done a w I1 I2 fun i hi => I3 i hi (hall i hi)
theorem gd_if {p c : Bool} {A : Prop} {v x : Value} (hc : p = c) (hv : v = cond c x undef) (hA : c = true → A) : if p = true then A else v = undef := by
  subst hc
  cases p
  · rw [if_neg (by decide)]; exact hv
  · rw [if_pos rfl]; exact hA rfl
theorem gOn_at {ops : Array Oper} {V : Nat → Value} {i j : Nat} {o : Oper} {b f c : Bool} (ho : ops[i]? = some o) (hg : o.guard = some (j, b)) (hV : V j = cond f (.bool c) undef) : gOn ops V i = (f && (c == b)) := by
  unfold gOn
  rw [ho]
  dsimp only
  rw [hg]
  dsimp only
  rw [hV]
  cases f <;> rfl
theorem gOn_at0 {ops : Array Oper} {V : Nat → Value} {i j : Nat} {o : Oper} {b c : Bool} (ho : ops[i]? = some o) (hg : o.guard = some (j, b)) (hV : V j = .bool c) : gOn ops V i = (c == b) := by
  unfold gOn
  rw [ho]
  dsimp only
  rw [hg]
  dsimp only
  rw [hV]
theorem and_l {a b : Bool} (h : (a && b) = true) : a = true := by cases a <;> simp_all
theorem pk1 (c u d : Bool) (h : c = true) : (if u = true then Value.bool true else cond (c && (u == false)) (.bool d) undef) = cond c (.bool (cond u true d)) undef := by subst h; cases u <;> rfl
theorem pk2 (c u d : Bool) (h : c = true) : (if u = true then cond (c && (u == true)) (.bool d) undef else Value.bool false) = cond c (.bool (cond u d false)) undef := by subst h; cases u <;> rfl
theorem pk4 (u d : Bool) : (if u = true then cond (u == true) (.bool d) undef else Value.bool false) = .bool (cond u d false) := by cases u <;> rfl
theorem gd_on {p : Bool} {A B : Prop} (hp : p = true) (h : A) : if p = true then A else B := by rw [if_pos hp]; exact h
theorem cd {c : Bool} {x : Value} (hc : c = true) : cond c x undef = x := by subst hc; rfl
section
variable {o : Oper} {a : Act} {w : World} {K : Act → World → Prop} {Q : Exit → Act → World → Prop}
theorem vl_not (x : Operand) (t : TypeId) (ho : o.op = .unOp .not t x) (b : Bool) (hx : a.eval x = .bool b) (h : K (a.put o.dst (.bool (!b))) w) : o.wp Tryz.prog a w K Q := by
  unfold Oper.wp execOp
  simp only [ho]
  generalize a.eval = ev at *
  go_simp
  exact h
theorem vl_pick (x y z : Operand) (ho : o.op = .pick x y z) (b : Bool) (v u : Value) (hx : a.eval x = .bool b) (hy : a.eval y = v) (hz : a.eval z = u) (h : K (a.put o.dst (if b then v else u)) w) : o.wp Tryz.prog a w K Q := by
  subst hy hz
  unfold Oper.wp execOp
  simp only [ho]
  generalize a.eval = ev at *
  cases b <;> go_simp <;> exact h
theorem vl_call0 (f : FuncId) (ho : o.op = .call { callee := .value (.func f), args := #[], argTypes := #[] })
    (en : ∀ args w, (callFunc f args).run Tryz.prog w = .ok (.enter f args) w) (h : Calls Tryz.prog f #[] w fun e w' => ∃ v, e = .returned v ∧ K (a.put o.dst v) w') : o.wp Tryz.prog a w K Q := by
  have hf : a.eval (.func f) = .func (.func f) #[] #[] := rfl
  unfold Oper.wp execOp
  simp only [ho]
  generalize a.eval = ev at *
  go_simp
  refine h.mono ?_
  rintro e w' ⟨v, rfl, hk⟩
  exact hk
theorem vl_call3 (f : FuncId) (t1 t2 t3 : TypeId) (x1 x2 x3 : Operand) (ho : o.op = .call { callee := .value (.func f), args := #[x1, x2, x3], argTypes := #[t1, t2, t3] })
    (en : ∀ args w, (callFunc f args).run Tryz.prog w = .ok (.enter f args) w) (v1 v2 v3 : Value) (h1 : a.eval x1 = v1) (h2 : a.eval x2 = v2) (h3 : a.eval x3 = v3)
    (h : Calls Tryz.prog f #[v1, v2, v3] w fun e w' => ∃ v, e = .returned v ∧ K (a.put o.dst v) w') : o.wp Tryz.prog a w K Q := by
  have hf : a.eval (.func f) = .func (.func f) #[] #[] := rfl
  subst h1 h2 h3
  unfold Oper.wp execOp
  simp only [ho]
  generalize a.eval = ev at *
  go_simp
  refine h.mono ?_
  rintro e w' ⟨v, rfl, hk⟩
  exact hk
theorem bin_ints {b : BinOp} {c : Int → Int → Bool} (hb : b = .lss ∧ c = (fun p q => decide (p < q)) ∨ b = .gtr ∧ c = (fun p q => decide (q < p)) ∨ b = .leq ∧ c = (fun p q => decide (p ≤ q)) ∨ b = .geq ∧ c = (fun p q => decide (q ≤ p)) ∨ b = .eql ∧ c = (fun p q => p == q) ∨ b = .neq ∧ c = (fun p q => p != q))
    (x y : Operand) (ho : o.op = .binOp b 3 x y 3) (p q : Int) (hx : a.eval x = .int .i64 p) (hy : a.eval y = .int .i64 q)
    (h : K (a.put o.dst (.bool (c p q))) w) : o.wp Tryz.prog a w K Q := by
  rcases hb with ⟨rfl, rfl⟩ | ⟨rfl, rfl⟩ | ⟨rfl, rfl⟩ | ⟨rfl, rfl⟩ | ⟨rfl, rfl⟩ | ⟨rfl, rfl⟩
  all_goals
    unfold Oper.wp execOp
    simp only [ho]
    generalize a.eval = ev at *
    go_simp
    exact h
theorem lt_ints (x y : Operand) (ho : o.op = .binOp .lss 3 x y 3) (p q : Int) (hx : a.eval x = .int .i64 p) (hy : a.eval y = .int .i64 q) (h : K (a.put o.dst (.bool (decide (p < q)))) w) : o.wp Tryz.prog a w K Q := bin_ints (.inl ⟨rfl, rfl⟩) x y ho p q hx hy h
theorem gt_ints (x y : Operand) (ho : o.op = .binOp .gtr 3 x y 3) (p q : Int) (hx : a.eval x = .int .i64 p) (hy : a.eval y = .int .i64 q) (h : K (a.put o.dst (.bool (decide (q < p)))) w) : o.wp Tryz.prog a w K Q := bin_ints (.inr (.inl ⟨rfl, rfl⟩)) x y ho p q hx hy h
theorem le_ints (x y : Operand) (ho : o.op = .binOp .leq 3 x y 3) (p q : Int) (hx : a.eval x = .int .i64 p) (hy : a.eval y = .int .i64 q) (h : K (a.put o.dst (.bool (decide (p ≤ q)))) w) : o.wp Tryz.prog a w K Q := bin_ints (.inr (.inr (.inl ⟨rfl, rfl⟩))) x y ho p q hx hy h
theorem ge_ints (x y : Operand) (ho : o.op = .binOp .geq 3 x y 3) (p q : Int) (hx : a.eval x = .int .i64 p) (hy : a.eval y = .int .i64 q) (h : K (a.put o.dst (.bool (decide (q ≤ p)))) w) : o.wp Tryz.prog a w K Q := bin_ints (.inr (.inr (.inr (.inl ⟨rfl, rfl⟩)))) x y ho p q hx hy h
theorem eq_ints (x y : Operand) (ho : o.op = .binOp .eql 3 x y 3) (p q : Int) (hx : a.eval x = .int .i64 p) (hy : a.eval y = .int .i64 q) (h : K (a.put o.dst (.bool (p == q))) w) : o.wp Tryz.prog a w K Q := bin_ints (.inr (.inr (.inr (.inr (.inl ⟨rfl, rfl⟩))))) x y ho p q hx hy h
theorem ne_ints (x y : Operand) (ho : o.op = .binOp .neq 3 x y 3) (p q : Int) (hx : a.eval x = .int .i64 p) (hy : a.eval y = .int .i64 q) (h : K (a.put o.dst (.bool (p != q))) w) : o.wp Tryz.prog a w K Q := bin_ints (.inr (.inr (.inr (.inr (.inr ⟨rfl, rfl⟩))))) x y ho p q hx hy h
theorem ix_ints (x y : Operand) (b off n c : Nat) (i : Nat) (ho : o.op = .indexAddr 24 x y) (hx : a.eval x = .slice (some ⟨b, off, none⟩) n c) (hy : a.eval y = .int .i64 i) (hi : i < n) (hc : n ≤ c)
    (h : K (a.put o.dst (.pointer (some ⟨b, off + i, none⟩))) w) : o.wp Tryz.prog a w K Q := by
  have i1 : (i : Int) < n := by omega
  have i2 : (i : Int) < c := by omega
  unfold Oper.wp execOp
  simp only [ho]
  generalize a.eval = ev at *
  go_simp
  exact h
theorem ix_rows (x y : Operand) (b off n c : Nat) (i : Nat) (ho : o.op = .indexAddr 22 x y) (hx : a.eval x = .slice (some ⟨b, off, none⟩) n c) (hy : a.eval y = .int .i64 i) (hi : i < n) (hc : n ≤ c)
    (h : K (a.put o.dst (.pointer (some ⟨b, off + i, none⟩))) w) : o.wp Tryz.prog a w K Q := by
  have i1 : (i : Int) < n := by omega
  have i2 : (i : Int) < c := by omega
  unfold Oper.wp execOp
  simp only [ho]
  generalize a.eval = ev at *
  go_simp
  exact h
theorem len_ints (x : Operand) (ho : o.op = .call { callee := .builtin .len, args := #[x], argTypes := #[24] }) (b : Option Addr) (n c : Nat) (hx : a.eval x = .slice b n c) (h : K (a.put o.dst (.int .i64 n)) w) : o.wp Tryz.prog a w K Q := by
  unfold Oper.wp execOp
  simp only [ho]
  generalize a.eval = ev at *
  go_simp
  exact h
theorem len_rows (x : Operand) (ho : o.op = .call { callee := .builtin .len, args := #[x], argTypes := #[22] }) (b : Option Addr) (n c : Nat) (hx : a.eval x = .slice b n c) (h : K (a.put o.dst (.int .i64 n)) w) : o.wp Tryz.prog a w K Q := by
  unfold Oper.wp execOp
  simp only [ho]
  generalize a.eval = ev at *
  go_simp
  exact h
theorem agg_bool (w : World) : (isAgg 4).run Tryz.prog w = .ok false w := by
  unfold isAgg; rw [Sem.run_bind, run_underlying Tryz.underlying4 w]; rfl
end
end Go.Proofs.YtehbnckdllbmgaaGreatDoor
