/- Regions that draw their order, with one call whose value is not known ahead, and its assignment. -/
import Derived.Test.YtlmfcigabojbmaaGreatDoorQas
set_option linter.unusedSimpArgs false
set_option linter.unusedVariables false
namespace Go.Proofs.YtlmfcigabojbmaaGreatDoor
open Go.RowKit

theorem wp_of_enter {P : Program} {o : Oper} {a : Act} {K : Act → World → Prop} {Q' : Exit → Act → World → Prop} {w w' : World} {f : FuncId} {args : Array Value} (h : (execOp a.eval o).run P w = .ok (.enter f args) w') (hc : Calls P f args w' fun e w'' => ∃ v, e = .returned v ∧ K (a.put o.dst v) w'') : o.wp P a w K Q' := by
  unfold Oper.wp; rw [h]; unfold Oper.upon
  exact hc.mono fun e w'' ⟨v, he, hk⟩ => by subst he; exact hk
theorem enters_call {P : Program} {o : Oper} {a : Act} {c : Call} {f : FuncId} (ho : o.op = .call c) (hc : c.callee = .value (.func f)) {vs : List Value} (hx : c.args.toList.map a.eval = vs) (en : ∀ args w, (callFunc f args).run P w = .ok (.enter f args) w) (w : World) :
    (execOp a.eval o).run P w = .ok (.enter f vs.toArray) w := by
  have e1 : c.args.map a.eval = vs.toArray := by rw [← hx]; apply Array.ext'; simp
  have hf : a.eval (.func f) = .func (.func f) #[] #[] := rfl
  unfold execOp
  simp only [ho, resolve, hc, e1, hf, Deferred.ofValue, Sem.run_bind, Sem.run_pure, Result.andThen_ok, invoke, Array.empty_append, Array.append_empty, en]
/-- the value that comes, and where it goes -/
def JCA (A B : Nat) (V : Value → World → Prop) (s : Nat → Option Value) (w : World) : Prop :=
  (s A = none → s B = none) ∧ (∀ v, s A = some v → V v w) ∧ ∀ v, s B = some v → s A = some v
def argsAt (E : List Ob) (S : List Ent) : List Nat → List Value → Prop
  | [], [] => True
  | n :: ns, v :: vs => (match lookS S n with | some ⟨_, [], s⟩ => s.den E = v | _ => False) ∧ argsAt E S ns vs
  | _, _ => False
theorem argsAt_map {E : List Ob} {S : List Ent} {a : Act} : ∀ {ns : List Nat} {vs : List Value}, argsAt E S ns vs → (∀ n ∈ ns, ∀ e, lookS S n = some e → e.path = [] → a.eval (.tmp n) = e.sw.den E) → (ns.map Operand.tmp).map a.eval = vs
  | [], [], _, _ => rfl
  | n :: ns, v :: vs, h, hq => by
    obtain ⟨h1, h2⟩ := h
    rw [List.map_cons, List.map_cons, argsAt_map h2 fun m hm => hq m (List.mem_cons_of_mem _ hm)]
    split at h1
    · rename_i m s hl
      rw [hq n (List.mem_cons_self ..) _ hl rfl, h1]
    · cases h1
  | [], _ :: _, h, _ => by cases h
  | _ :: _, [], h, _ => by cases h
section
variable {a0 : Act} {ps : List (Nat × Nat)} {T : QTab} {E : List Ob} {hs : List (Nat × Hint)}
def evCa (a0 : Act) (E : List Ob) (W : World) (nA nB : Nat) (ns : List Nat) (vs : List Value) (V : Value → World → Prop) (outs : List (Nat × Value)) (Q : Act → World → Prop) (S : List Ent) : Prop :=
  argsAt E S ns vs ∧ ∀ (f : Nat → Value) (v : Value), match a0 with
    | ⟨⟨l⟩, d⟩ => finS E outs f S l fun l' => setN l' nB v fun l1 => setN l1 nA v fun l2 => ∀ w', Below W.heap.size W w' → V v w' → Q ⟨l2.toArray, d⟩ w'
theorem wp_region_ca {id : Nat} {Q : Exit → Act → World → Prop} {w : World} {ops : List Oper} (T : QTab) (hT : T.Ok) (E : List Ob) (ps : List (Nat × Nat)) (hs : List (Nat × Hint)) (outs : List (Nat × Value))
    (A B nA nB : Nat) (F : FuncId) (ns : List Nat) (vs : List Value) (V : Value → World → Prop)
    (hz : (ops.all fun o => match o.dst with | some n => decide (n < a0.tmps.size) | none => true) = true) (hm : Tryz.prog.follows .mixedOrders = true)
    (hst : (ordB ops.toArray && nodB (dstsL ops) && chkB ops.toArray (quietL [A, B] 0 ops) && depB [A, B] ops.toArray) = true)
    (hsp : spD [A, B] 0 ops = [nA, nB])
    (hA : ∃ o c, ops[A]? = some o ∧ o.op = .call c ∧ c.callee = .value (.func F) ∧ c.args.toList = ns.map Operand.tmp ∧ o.dst = some nA)
    (hB : ∃ o, ops[B]? = some o ∧ o.op = .assign (.tmp nA) ∧ o.dst = some nB ∧ ∃ e ∈ o.after, e.on = A ∧ Region.binds .any e = true)
    (hen : ∀ args w, (callFunc F args).run Tryz.prog w = .ok (.enter F args) w)
    (hV : ∀ v u u', V v u → Below u.heap.size u u' → V v u')
    (hcall : ∀ u, Below w.heap.size w u → Calls Tryz.prog F vs.toArray u fun e u' => ∃ v, e = .returned v ∧ V v u' ∧ Below u.heap.size u u')
    (hE : ObsIn (Below w.heap.size w) E) (P : psOk a0 E ps)
    (h : evL a0 ps T E (Below w.heap.size w) (fun u u' => Below u.heap.size u u') hs ops (evCa a0 E w nA nB ns vs V outs (Q .normal)) (quietL [A, B] 0 ops) []) : (Code.region id ops.toArray true).wp Tryz.prog Q a0 w := by
  obtain ⟨oA, cA, hA1, hA2, hA3, hA4, hA5⟩ := hA
  obtain ⟨oB, hB1, hB2, hB3, eB, hB4, hB5, hB6⟩ := hB
  have hAB : A ≠ B := fun e => by subst e; rw [hA1] at hB1; cases hB1; rw [hA2] at hB2; cases hB2
  have hst' := hst
  simp only [Bool.and_eq_true] at hst'
  obtain ⟨⟨⟨s1, s2⟩, s3⟩, s4⟩ := hst'
  have hsub : ∀ o ∈ quietL [A, B] 0 ops, o ∈ ops := fun o ho => by obtain ⟨k, hk, _⟩ := mem_quietL ho; exact List.mem_of_getElem? hk
  obtain ⟨S, H, af, I, ⟨h1, h2⟩, f1, f2, f3⟩ := evL_fin P hT hE hz _ [] [] a0 hsub s3 InvQ.start h
  refine mix_core [A, B] E (Below w.heap.size w) (fun u u' => Below u.heap.size u u') outs (JCA A B V) hz hm hst ((Below.refl _ _).drew) ⟨fun _ => rfl, fun v hv => (by cases hv), fun v hv => (by cases hv)⟩ (fun u u' h1 h2 => h1.trans (h2.mono h1.size)) (fun u _ => Below.refl _ _) (fun s u u' h1 h2 h3 => ⟨h2.1, fun v hv => hV v u u' (h2.2.1 v hv) h3, h2.2.2⟩) I ⟨⟨?_, ?_, trivial⟩, fun f s hsv => ?_⟩ f1 f2 f3
  · intro o a u s ho hC hJ hn hq _ hdep K hK
    rw [hA1] at ho; cases ho
    have hx : cA.args.toList.map a.eval = vs := by
      rw [hA4]
      refine argsAt_map h1 fun n hn' => hq n ?_
      unfold Oper.looksAt
      refine List.mem_append_left _ (List.mem_filterMap.2 ⟨.tmp n, ?_, rfl⟩)
      rw [hA2]
      unfold Op.operands
      have : Operand.tmp n ∈ cA.args.toList := by rw [hA4]; exact List.mem_map.2 ⟨n, hn', rfl⟩
      simp only [Call.operands, hA3]; simp at this; simp [this]
    refine wp_of_enter (enters_call hA2 hA3 hx hen u) ((hcall u hC).mono fun e u' ⟨v, he, hv, hb⟩ => ⟨v, he, ?_⟩)
    have hsB : s B = none := hJ.1 hn
    refine hK _ _ (hC.trans (hb.mono hC.size)) ⟨fun h => (by rw [updS_same] at h; cases h), fun v' hv' => ?_, fun v' hv' => ?_⟩
    · rw [updS_same] at hv'; cases hv'; exact hv
    · rw [updS_other (Ne.symm hAB), hsB] at hv'; cases hv'
  · intro o a u s ho hC hJ hn _ _ hdep K hK
    rw [hB1] at ho; cases ho
    obtain ⟨v, v1, v2⟩ := hdep eB hB4 hB6 (by rw [hB5]; simp)
    rw [hB5] at v1 v2
    have hx : a.eval (.tmp nA) = v := v2 oA nA hA1 hA5
    refine wp_of_run (v := v) (w' := u) ?_ ?_
    · unfold execOp; simp only [hB2, hx]; rfl
    · refine hK _ _ hC ⟨fun h => ?_, fun v' hv' => ?_, fun v' hv' => ?_⟩
      · rw [updS_other hAB] at h; rw [v1] at h; cases h
      · rw [updS_other hAB] at hv'; exact hJ.2.1 v' hv'
      · rw [updS_same] at hv'; cases hv'
        rw [updS_other hAB]; exact v1
  · obtain ⟨v, v1, v2⟩ := hsv A (by simp) oA hA1
    obtain ⟨vB, vB1, vB2⟩ := hsv B (by simp) oB hB1
    have hv : v = f nA := v2 nA hA5
    have hvB : vB = f nB := vB2 nB hB3
    obtain ⟨⟨l⟩, d⟩ := a0
    dsimp only at h2 ⊢
    rw [hsp]
    refine finS_mono (fun l' hl' => ?_) (h2 f v)
    unfold setsN setsN setsN
    rw [setN_eq] at hl' ⊢
    rw [setN_eq] at hl' ⊢
    intro w' hC hJ
    have hBA : vB = v := by have := hJ.2.2 vB vB1; rw [v1] at this; exact (Option.some.inj this).symm
    have := hl' w' hC (hJ.2.1 v v1)
    rw [← hvB, hBA, ← hv]
    exact this
end
end Go.Proofs.YtlmfcigabojbmaaGreatDoor
