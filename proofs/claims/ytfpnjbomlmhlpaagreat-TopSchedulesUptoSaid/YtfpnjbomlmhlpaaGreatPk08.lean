/- A region that draws its order and whose operations answer known things: the whole bookkeeping of it in one law. -/
import Derived.Test.YtfpnjbomlmhlpaaGreatPk07
set_option linter.unusedSimpArgs false
set_option linter.unusedVariables false

namespace Go.Proofs.YtfpnjbomlmhlpaaGreat
open Go.RowKit

/-- the slots that n operations write -/
def slots (d : Nat → Nat) (n : Nat) : List Nat := (List.range n).map d
theorem mem_slots {d : Nat → Nat} {n i : Nat} (h : i < n) : d i ∈ slots d n := List.mem_map.2 ⟨i, List.mem_range.2 h, rfl⟩
/-- no two operations write one slot, each of which is there -/
def slotsB (d : Nat → Nat) (n size : Nat) : Bool := (List.range n).all fun i => decide (d i < size) && (List.range n).all fun j => !(d i == d j) || i == j
theorem slotsB_spec {d : Nat → Nat} {n size : Nat} (h : slotsB d n size = true) : (∀ i, i < n → d i < size) ∧ ∀ i j, i < n → j < n → d i = d j → i = j := by
  unfold slotsB at h
  rw [List.all_eq_true] at h
  refine ⟨fun i hi => ?_, fun i j hi hj e => ?_⟩
  · have := h i (List.mem_range.2 hi); simp at this; exact this.1
  · have := h i (List.mem_range.2 hi)
    simp only [Bool.and_eq_true, List.all_eq_true] at this
    have := this.2 j (List.mem_range.2 hj)
    simpa [e] using this
/-- every operation writes its slot, unguarded -/
def destB (d : Nat → Nat) (ops : Array Oper) : Bool := (List.range ops.size).all fun i => match ops[i]? with
  | some o => (match o.dst with | some m => m == d i | none => false) && (match o.guard with | none => true | some _ => false)
  | none => true
theorem destB_spec {d : Nat → Nat} {ops : Array Oper} (h : destB d ops = true) {i : Nat} {o : Oper} (ho : ops[i]? = some o) : o.dst = some (d i) ∧ o.guard = none := by
  have hi : i < ops.size := (Array.getElem?_eq_some_iff.1 ho).1
  unfold destB at h
  rw [List.all_eq_true] at h
  have := h i (List.mem_range.2 hi)
  rw [ho] at this
  simp only [Bool.and_eq_true] at this
  obtain ⟨h1, h2⟩ := this
  refine ⟨?_, ?_⟩
  · cases hd : o.dst with
    | none => rw [hd] at h1; cases h1
    | some m => rw [hd] at h1; simp at h1; rw [h1]
  · cases hg : o.guard with
    | none => rfl
    | some _ => rw [hg] at h2; cases h2
theorem wp_region_ipf {P : Program} {id : Nat} {ops : Array Oper} {Q : Exit → Act → World → Prop} {a0 : Act} {w : World} (d : Nat → Nat) (Pr : Nat → Value → World → Prop) (R : World → Prop)
    (hm : P.follows .mixedOrders = true) (ho : ordB ops = true) (hs : slotsB d ops.size a0.tmps.size = true) (hd : destB d ops = true) (h0 : R w.drew)
    (mono : ∀ i v w w', Pr i v w → Below w.heap.size w w' → Pr i v w')
    (step : ∀ i o a w, ops[i]? = some o → (∀ e ∈ o.after, Region.binds .any e = true → Pr e.on (a.eval (.tmp (d e.on))) w) → Sm (slots d ops.size) a0 a → R w →
      (∀ j o' e, ops[j]? = some o' → e ∈ o'.after → e.on = i → Region.binds .any e = true → a.eval (.tmp (d j)) = a0.eval (.tmp (d j))) →
      ∀ K : Act → World → Prop, (∀ v w', R w' → Below w.heap.size w w' → Pr i v w' → K (a.put o.dst v) w') → Oper.wp P o a w K Q)
    (done : ∀ a w, Sm (slots d ops.size) a0 a → R w → (∀ i, i < ops.size → Pr i (a.eval (.tmp (d i))) w) → Q .normal a w) : (Code.region id ops true).wp P Q a0 w := by
  obtain ⟨s1, s2⟩ := slotsB_spec hs
  refine wp_region_inv hm ho (fun L a w => Sm (slots d ops.size) a0 a ∧ R w ∧ (∀ i, i < ops.size → L i = true → Pr i (a.eval (.tmp (d i))) w) ∧ ∀ j, j < ops.size → L j = false → a.eval (.tmp (d j)) = a0.eval (.tmp (d j))) ?_ ?_ ?_
  · exact ⟨Sm.refl _ _, h0, fun i _ h => (by cases h), fun _ _ _ => rfl⟩
  · rintro i o L a w hop hLi hdep hcl ⟨I1, I2, I3, I4⟩ K hK
    have hi : i < ops.size := (Array.getElem?_eq_some_iff.1 hop).1
    obtain ⟨e1, e2⟩ := destB_spec hd hop
    rw [if_pos (by unfold Region.wanted; rw [e2])]
    refine step i o a w hop (fun e he hb => I3 e.on ?_ (hdep e he hb)) I1 I2 ?_ K fun v w' r1 r2 r3 => hK _ _ ⟨?_, r1, fun j hj hl => ?_, fun j hj hl => ?_⟩
    · have := ordB_spec ho hop e he hb; omega
    · intro j o' e hj he heq hb
      refine I4 j (Array.getElem?_eq_some_iff.1 hj).1 ?_
      cases hl : L j
      · rfl
      · have := hcl j o' hj hl e he hb
        rw [heq, hLi] at this; cases this
    · rw [e1]; exact I1.put (mem_slots hi) _
    · rw [e1]
      by_cases e : j = i
      · subst e
        rw [eval_put_same (by rw [I1.1]; exact s1 j hj)]
        exact r3
      · rw [eval_put_other (fun h => e (s2 j i hj hi h))]
        rw [updL_other e] at hl
        exact mono j _ w w' (I3 j hj hl) r2
    · rw [e1]
      have e : j ≠ i := fun e => by subst e; rw [updL_same] at hl; cases hl
      rw [eval_put_other (fun h => e (s2 j i hj hi h))]
      rw [updL_other e] at hl
      exact I4 j hj hl
  · rintro L a w hall ⟨I1, I2, I3, _⟩
    exact done a w I1 I2 fun i hi => I3 i hi (hall i hi)
theorem wp_region_ip {P : Program} {id : Nat} {ops : Array Oper} {Q : Exit → Act → World → Prop} {a0 : Act} {w : World} (d : Nat → Nat) (Pr : Nat → Value → World → Prop) (R : World → Prop)
    (hm : P.follows .mixedOrders = true) (ho : ordB ops = true) (hs : slotsB d ops.size a0.tmps.size = true) (hd : destB d ops = true) (h0 : R w.drew)
    (mono : ∀ i v w w', Pr i v w → Below w.heap.size w w' → Pr i v w')
    (step : ∀ i o a w, ops[i]? = some o → (∀ e ∈ o.after, Region.binds .any e = true → Pr e.on (a.eval (.tmp (d e.on))) w) → Sm (slots d ops.size) a0 a → R w →
      ∀ K : Act → World → Prop, (∀ v w', R w' → Below w.heap.size w w' → Pr i v w' → K (a.put o.dst v) w') → Oper.wp P o a w K Q)
    (done : ∀ a w, Sm (slots d ops.size) a0 a → R w → (∀ i, i < ops.size → Pr i (a.eval (.tmp (d i))) w) → Q .normal a w) : (Code.region id ops true).wp P Q a0 w :=
  wp_region_ipf d Pr R hm ho hs hd h0 mono (fun i o a w h1 h2 h3 h4 _ => step i o a w h1 h2 h3 h4) done
/-! the same where the last operation writes: it waits for all others -/
def destB' (d : Nat → Nat) (m : Nat) (ops : Array Oper) : Bool := (List.range ops.size).all fun i => match ops[i]? with
  | some o => (decide (m ≤ i) || match o.dst with | some k => k == d i | none => false) && (match o.guard with | none => true | some _ => false)
  | none => true
theorem destB'_spec {d : Nat → Nat} {m : Nat} {ops : Array Oper} (h : destB' d m ops = true) {i : Nat} {o : Oper} (ho : ops[i]? = some o) : (i < m → o.dst = some (d i)) ∧ o.guard = none := by
  have hi : i < ops.size := (Array.getElem?_eq_some_iff.1 ho).1
  unfold destB' at h
  rw [List.all_eq_true] at h
  have := h i (List.mem_range.2 hi)
  rw [ho] at this
  simp only [Bool.and_eq_true, Bool.or_eq_true, decide_eq_true_eq] at this
  obtain ⟨h1, h2⟩ := this
  refine ⟨fun hm => ?_, ?_⟩
  · rcases h1 with h1 | h1
    · omega
    · cases hd : o.dst with
      | none => rw [hd] at h1; cases h1
      | some m => rw [hd] at h1; simp at h1; rw [h1]
  · cases hg : o.guard with
    | none => rfl
    | some _ => rw [hg] at h2; cases h2
def waitsB (ops : Array Oper) (m : Nat) : Bool := match ops[m]? with
  | some o => (List.range m).all fun j => o.after.any fun e => decide (e.on = j) && Region.binds .any e
  | none => false
theorem waitsB_spec {ops : Array Oper} {m : Nat} (h : waitsB ops m = true) {o : Oper} (ho : ops[m]? = some o) {j : Nat} (hj : j < m) : ∃ e ∈ o.after, e.on = j ∧ Region.binds .any e = true := by
  unfold waitsB at h
  rw [ho] at h
  simp only [List.all_eq_true] at h
  have := h j (List.mem_range.2 hj)
  rw [Array.any_eq_true'] at this
  obtain ⟨e, he, h2⟩ := this
  simp only [Bool.and_eq_true, decide_eq_true_eq] at h2
  exact ⟨e, he, h2.1, h2.2⟩
theorem wp_region_ips {P : Program} {id : Nat} {ops : Array Oper} {Q : Exit → Act → World → Prop} {a0 : Act} {w : World} (m : Nat) (d : Nat → Nat) (Pr : Nat → Value → World → Prop) (R : World → Prop) (Post : Act → World → Prop)
    (hsz : ops.size = m + 1) (hm : P.follows .mixedOrders = true) (ho : ordB ops = true) (hs : slotsB d m a0.tmps.size = true) (hd : destB' d m ops = true) (hw : waitsB ops m = true) (h0 : R w.drew)
    (mono : ∀ i v w w', Pr i v w → Below w.heap.size w w' → Pr i v w')
    (step : ∀ i o a w, i < m → ops[i]? = some o → (∀ e ∈ o.after, Region.binds .any e = true → Pr e.on (a.eval (.tmp (d e.on))) w) → Sm (slots d m) a0 a → R w →
      ∀ K : Act → World → Prop, (∀ v w', R w' → Below w.heap.size w w' → Pr i v w' → K (a.put o.dst v) w') → Oper.wp P o a w K Q)
    (last : ∀ o a w, ops[m]? = some o → Sm (slots d m) a0 a → R w → (∀ i, i < m → Pr i (a.eval (.tmp (d i))) w) → ∀ K : Act → World → Prop, (∀ a' w', Post a' w' → K a' w') → Oper.wp P o a w K Q)
    (done : ∀ a w, Post a w → Q .normal a w) : (Code.region id ops true).wp P Q a0 w := by
  obtain ⟨s1, s2⟩ := slotsB_spec hs
  refine wp_region_inv hm ho (fun L a w => (L m = false → Sm (slots d m) a0 a ∧ R w ∧ ∀ i, i < m → L i = true → Pr i (a.eval (.tmp (d i))) w) ∧ (L m = true → Post a w)) ?_ ?_ ?_
  · exact ⟨fun _ => ⟨Sm.refl _ _, h0, fun i _ h => by cases h⟩, fun h => by cases h⟩
  · rintro i o L a w hop hLi hdep hcl ⟨I, J⟩ K hK
    have hi : i < ops.size := (Array.getElem?_eq_some_iff.1 hop).1
    obtain ⟨e1, e2⟩ := destB'_spec hd hop
    rw [if_pos (by unfold Region.wanted; rw [e2])]
    by_cases him : i = m
    · subst him
      obtain ⟨I1, I2, I3⟩ := I hLi
      refine last o a w hop I1 I2 (fun j hj => I3 j hj ?_) K fun a' w' hp => hK _ _ ⟨fun h => (by rw [updL_same] at h; cases h), fun _ => hp⟩
      obtain ⟨e, he, rfl, hb⟩ := waitsB_spec hw hop hj
      exact hdep e he hb
    · have him' : i < m := by omega
      have e1 := e1 him'
      have hLm : L m = false := by
        cases h : L m
        · rfl
        · have hom : ops[m]? = some ops[m] := Array.getElem?_eq_getElem (by omega)
          obtain ⟨e, he, e3, hb⟩ := waitsB_spec hw hom him'
          have := hcl m _ hom h e he hb
          rw [e3, hLi] at this; cases this
      obtain ⟨I1, I2, I3⟩ := I hLm
      refine step i o a w him' hop (fun e he hb => I3 e.on ?_ (hdep e he hb)) I1 I2 K fun v w' r1 r2 r3 => hK _ _ ⟨fun _ => ⟨?_, r1, fun j hj hl => ?_⟩, fun h => ?_⟩
      · have := ordB_spec ho hop e he hb; omega
      · rw [e1]; exact I1.put (mem_slots him') _
      · rw [e1]
        by_cases e : j = i
        · subst e
          rw [eval_put_same (by rw [I1.1]; exact s1 j hj)]
          exact r3
        · rw [eval_put_other (fun h => e (s2 j i hj him' h))]
          rw [updL_other e] at hl
          exact mono j _ w w' (I3 j hj hl) r2
      · rw [updL_other (fun h => him h.symm), hLm] at h; cases h
  · rintro L a w hall ⟨_, J⟩
    exact done a w (J (hall m (by omega)))
/-! calls of functions with contracts -/
theorem vl_call1 {o : Oper} {a : Act} {w : World} {K : Act → World → Prop} {Q : Exit → Act → World → Prop} (f : FuncId) (t : TypeId) (x : Operand) (ho : o.op = .call { callee := .value (.func f), args := #[x], argTypes := #[t] })
    (en : ∀ args w, (callFunc f args).run Tryz.prog w = .ok (.enter f args) w) (u : Value) (hx : a.eval x = u) (h : Calls Tryz.prog f #[u] w fun e w' => ∃ v, e = .returned v ∧ K (a.put o.dst v) w') : o.wp Tryz.prog a w K Q := by
  have hf : a.eval (.func f) = .func (.func f) #[] #[] := rfl
  unfold Oper.wp execOp
  simp only [ho]
  generalize a.eval = ev at *
  go_simp
  refine h.mono ?_
  rintro e w' ⟨v, rfl, hk⟩
  exact hk
theorem vl_call2 {o : Oper} {a : Act} {w : World} {K : Act → World → Prop} {Q : Exit → Act → World → Prop} (f : FuncId) (t t' : TypeId) (x y : Operand) (ho : o.op = .call { callee := .value (.func f), args := #[x, y], argTypes := #[t, t'] })
    (en : ∀ args w, (callFunc f args).run Tryz.prog w = .ok (.enter f args) w) (u u' : Value) (hx : a.eval x = u) (hy : a.eval y = u') (h : Calls Tryz.prog f #[u, u'] w fun e w' => ∃ v, e = .returned v ∧ K (a.put o.dst v) w') : o.wp Tryz.prog a w K Q := by
  have hf : a.eval (.func f) = .func (.func f) #[] #[] := rfl
  unfold Oper.wp execOp
  simp only [ho]
  generalize a.eval = ev at *
  go_simp
  refine h.mono ?_
  rintro e w' ⟨v, rfl, hk⟩
  exact hk
theorem mixed : Tryz.prog.follows .mixedOrders = true := by kernel_rfl
end Go.Proofs.YtfpnjbomlmhlpaaGreat
