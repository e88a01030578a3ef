/- Regions that draw their order, with one new variable that is written once. -/
import Derived.Test.YtlmfcigabojbmaaGreatDoorQmx
import Derived.Test.YtlmfcigabojbmaaGreatDoorObj
import Derived.Laws.Tables
set_option linter.unusedSimpArgs false
set_option linter.unusedVariables false
namespace Go.Proofs.YtlmfcigabojbmaaGreatDoor
open Go.RowKit

theorem below_setRow {n : Nat} {w w' : World} (h : Below n w w') {g : Nat} (hg : n ≤ g) (cs : Array Value) : Below n w (w'.setRow g cs) :=
  ⟨h.os, h.tape, h.output, by simp; exact h.size, fun k hk => (setRow_other w' g k cs (by omega)).trans (h.block k hk)⟩
/-- where the new variable lies, and what it holds -/
def JAS (A B base : Nat) (ty : TypeId) (zero cells : Array Value) (s : Nat → Option Value) (w : World) : Prop :=
  (s A = none → s B = none) ∧ ∀ v, s A = some v → ∃ b, v = .pointer (some ⟨b, 0, none⟩) ∧ base ≤ b ∧ ObjAt w b (cond (s B).isSome cells zero) ty
theorem finS_mono {E : List Ob} {outs : List (Nat × Value)} {f : Nat → Value} : ∀ {S : List Ent} {l : List Value} {k k' : List Value → Prop}, (∀ l, k l → k' l) → finS E outs f S l k → finS E outs f S l k'
  | [], l, k, k', h, g => h l g
  | ⟨n, p, s⟩ :: S, l, k, k', h, g => by
    unfold finS at g ⊢
    refine finS_mono (fun l' hl' => ?_) g
    split at hl'
    · split at hl'
      · exact ⟨hl'.1, by have := hl'.2; rw [setN_eq] at this ⊢; exact h _ this⟩
      · exact ⟨hl'.1, by have := hl'.2; rw [setN_eq] at this ⊢; exact h _ this⟩
      · cases hl'
    · rw [setN_eq] at hl' ⊢; exact h _ hl'
section
variable {a0 : Act} {ps : List (Nat × Nat)} {T : QTab} {E : List Ob} {hs : List (Nat × Hint)}
def evAs (a0 : Act) (E : List Ob) (W : World) (nA nX : Nat) (ty : TypeId) (cells : Array Value) (outs : List (Nat × Value)) (Q : Act → World → Prop) (S : List Ent) : Prop :=
  (match lookS S nX with
    | some ⟨_, [], .v x⟩ => x = .agg cells
    | _ => False) ∧ ∀ (f : Nat → Value) (b : Nat), match a0 with
    | ⟨⟨l⟩, d⟩ => finS E outs f S l fun l' => setN l' nA (.pointer (some ⟨b, 0, none⟩)) fun l'' => ∀ w', Below W.heap.size W w' → W.heap.size ≤ b → ObjAt w' b cells ty → Q ⟨l''.toArray, d⟩ w'
theorem wp_region_as {id : Nat} {Q : Exit → Act → World → Prop} {w : World} {ops : List Oper} (T : QTab) (hT : T.Ok) (E : List Ob) (ps : List (Nat × Nat)) (hs : List (Nat × Hint)) (outs : List (Nat × Value))
    (A B nA nX : Nat) (ty : TypeId) (zero cells : Array Value)
    (hz : (ops.all fun o => match o.dst with | some n => decide (n < a0.tmps.size) | none => true) = true) (hm : Tryz.prog.follows .mixedOrders = true)
    (hst : (ordB ops.toArray && nodB (dstsL ops) && chkB ops.toArray (quietL [A, B] 0 ops) && depB [A, B] ops.toArray) = true)
    (hsp : spD [A, B] 0 ops = [nA])
    (hA : ∃ o, ops[A]? = some o ∧ o.op = .alloc ty ∧ o.dst = some nA)
    (hB : ∃ o, ops[B]? = some o ∧ o.op = .store ty (.tmp nA) (.tmp nX) ∧ o.dst = none ∧ ∃ e ∈ o.after, e.on = A ∧ Region.binds .any e = true)
    (halloc : ∀ w, (Instr.alloc ty true (.tuple #[])).run Tryz.prog w = .ok (.pointer (some ⟨w.heap.size, 0, none⟩)) (w.alloc (.cells zero ty)))
    (hi : (Tryz.prog.info? ty).map (·.size) = some cells.size) (hzs : zero.size = cells.size) (hone : cells.all (·.oneCell') = true)
    (hE : ObsIn (Below w.heap.size w) E) (P : psOk a0 E ps)
    (h : evL a0 ps T E (Below w.heap.size w) (fun u u' => Below u.heap.size u u') hs ops (evAs a0 E w nA nX ty cells outs (Q .normal)) (quietL [A, B] 0 ops) []) : (Code.region id ops.toArray true).wp Tryz.prog Q a0 w := by
  obtain ⟨oA, hA1, hA2, hA3⟩ := hA
  obtain ⟨oB, hB1, hB2, hB3, eB, hB4, hB5, hB6⟩ := hB
  have hAB : A ≠ B := fun e => by subst e; rw [hA1] at hB1; cases hB1; rw [hA2] at hB2; cases hB2
  have hst' := hst
  simp only [Bool.and_eq_true] at hst'
  obtain ⟨⟨⟨s1, s2⟩, s3⟩, s4⟩ := hst'
  have hsub : ∀ o ∈ quietL [A, B] 0 ops, o ∈ ops := fun o ho => by obtain ⟨k, hk, _⟩ := mem_quietL ho; exact List.mem_of_getElem? hk
  obtain ⟨S, H, af, I, ⟨h1, h2⟩, f1, f2, f3⟩ := evL_fin P hT hE hz _ [] [] a0 hsub s3 InvQ.start h
  refine mix_core [A, B] E (Below w.heap.size w) (fun u u' => Below u.heap.size u u') outs (JAS A B w.heap.size ty zero cells) hz hm hst ((Below.refl _ _).drew) ⟨fun _ => rfl, fun v hv => by cases hv⟩ (fun u u' h1 h2 => h1.trans (h2.mono h1.size)) (fun u _ => Below.refl _ _) (fun s u u' h1 h2 h3 => ⟨h2.1, fun v hv => ?_⟩) I ⟨⟨?_, ?_, trivial⟩, fun f s hsv => ?_⟩ f1 f2 f3
  · obtain ⟨b, e1, e2, e3⟩ := h2.2 v hv
    exact ⟨b, e1, e2, e3.keep h3⟩
  · intro o a u s ho hC hJ hn _ _ hdep K hK
    rw [hA1] at ho; cases ho
    refine wp_of_run (v := .pointer (some ⟨u.heap.size, 0, none⟩)) (w' := u.alloc (.cells zero ty)) ?_ ?_
    · unfold execOp; simp only [hA2, Sem.run_bind, halloc]; rfl
    · have hsB : s B = none := hJ.1 hn
      refine hK _ _ (hC.alloc hC.size _) ⟨fun h => (by rw [updS_same] at h; cases h), fun v hv => ?_⟩
      rw [updS_same] at hv; cases hv
      refine ⟨_, rfl, hC.size, ?_⟩
      rw [updS_other (Ne.symm hAB), hsB]
      exact ObjAt.new u zero ty
  · intro o a u s ho hC hJ hn hq hold hdep K hK
    rw [hB1] at ho; cases ho
    obtain ⟨v, v1, v2⟩ := hdep eB hB4 hB6 (by rw [hB5]; simp)
    rw [hB5] at v1 v2
    obtain ⟨b, e1, e2, e3⟩ := hJ.2 v v1
    have hx : a.eval (.tmp nX) = .agg cells := by
      split at h1
      · rename_i m x hl
        subst h1
        exact hq nX (by unfold Oper.looksAt; rw [hB2]; simp [Op.operands]) _ hl rfl
      · cases h1
    have hp : a.eval (.tmp nA) = .pointer (some ⟨b, 0, none⟩) := (v2 oA nA hA1 hA3).trans e1
    rw [hn] at e3
    have e3' : ObjAt u b zero ty := e3
    refine wp_of_skip (w' := u.setRow b cells) ?_ ?_
    · unfold execOp
      simp only [hB2, Sem.run_bind, hp, hx, Instr.storeAt, Instr.sureAddr, Sem.run_pure, Result.andThen_ok, run_storeVar_row (P := Tryz.prog) u b ty ty zero cells e3' hi hzs hone]
    · refine hK _ _ (below_setRow hC e2 _) ⟨fun h => ?_, fun v' hv' => ?_⟩
      · rw [updS_other hAB] at h; rw [v1] at h; cases h
      · rw [updS_other hAB, v1] at hv'; cases hv'
        refine ⟨b, e1, e2, ?_⟩
        rw [updS_same]
        exact setRow_heap _ _ _ _ _ _ e3'
  · obtain ⟨v, v1, v2⟩ := hsv A (by simp) oA hA1
    obtain ⟨vB, vB1, _⟩ := hsv B (by simp) oB hB1
    have hv : v = f nA := v2 nA hA3
    obtain ⟨⟨l⟩, d⟩ := a0
    dsimp only at h2 ⊢
    rw [hsp]
    by_cases hb : ∃ b, f nA = .pointer (some ⟨b, 0, none⟩)
    · obtain ⟨b, hb⟩ := hb
      refine finS_mono (fun l' hl' => ?_) (h2 f b)
      unfold setsN setsN
      rw [setN_eq] at hl' ⊢
      rw [hb]
      intro w' hC hJ
      obtain ⟨b', e1, e2, e3⟩ := hJ.2 v v1
      rw [hv, hb] at e1
      simp only [Value.pointer.injEq, Option.some.injEq, Addr.mk.injEq, and_true] at e1
      subst e1
      rw [vB1] at e3
      exact hl' w' hC e2 e3
    · refine finS_mono (fun l' hl' => ?_) (h2 f 0)
      unfold setsN setsN
      dsimp only
      rw [setN_eq]
      intro w' hC hJ
      obtain ⟨b', e1, _⟩ := hJ.2 v v1
      exact absurd ⟨b', hv.symm.trans e1⟩ hb
end
end Go.Proofs.YtlmfcigabojbmaaGreatDoor
