/- Regions that draw their order, in which one operation writes memory that is there. -/
import Derived.Test.YtfmhickjefogdaaGreatPk01
import Derived.RangeFuncBox
import Derived.RangeFuncRecord
import Derived.Laws.Tables
set_option linter.unusedSimpArgs false
set_option linter.unusedVariables false

/- Objects of named cells in memory; frames that leave out one block. -/
namespace Go.Proofs.YtfmhickjefogdaaGreat
open Go.RowKit

/-- the object b has the cells xs -/
def ObjAt (w : World) (b : Nat) (xs : Array Value) (e : TypeId) : Prop := w.heap[b]? = some (.cells xs e (0, 0))
theorem ObjAt.new (w : World) (xs : Array Value) (e : TypeId) : ObjAt (w.alloc (.cells xs e)) w.heap.size xs e := World.alloc_heap_new w _
section
variable {w w' : World} {b : Nat} {xs : Array Value} {e : TypeId}
theorem ObjAt.lt (h : ObjAt w b xs e) : b < w.heap.size := (Array.getElem?_eq_some_iff.1 h).1
theorem ObjAt.cell (h : ObjAt w b xs e) (k : Nat) : w.cell? ⟨b, k, none⟩ = xs[k]? := by simp [World.cell?, show w.heap[b]? = _ from h]
theorem ObjAt.frozen (h : ObjAt w b xs e) (k : Nat) : w.frozen? ⟨b, k, none⟩ = false := by simp [World.frozen?, show w.heap[b]? = _ from h]
theorem ObjAt.below {n : Nat} (h : ObjAt w b xs e) (hb : Below n w w') (hn : b < n) : ObjAt w' b xs e := (hb.block b hn).trans h
theorem ObjAt.keep (h : ObjAt w b xs e) (hb : Below w.heap.size w w') : ObjAt w' b xs e := h.below hb h.lt
theorem ObjAt.alloc (h : ObjAt w b xs e) (o : Obj) : ObjAt (w.alloc o) b xs e := h.keep ((Below.refl _ _).alloc (Nat.le_refl _) _)
theorem ObjAt.drewN (h : ObjAt w b xs e) (m : Nat) : ObjAt (w.drewN m) b xs e := h
theorem ObjAt.set (h : ObjAt w b xs e) (k : Nat) (x : Value) : ObjAt (w.setCell ⟨b, k, none⟩ x) b (xs.setIfInBounds k x) e := by
  obtain ⟨hlt, hk⟩ := Array.getElem?_eq_some_iff.1 h
  show (w.heap.modify b _)[b]? = _
  rw [Array.getElem?_eq_getElem (by rw [Array.size_modify]; exact hlt), Array.getElem_modify_self, hk]
  rfl
theorem ObjAt.other (h : ObjAt w b xs e) {b' : Nat} (hne : b ≠ b') (k : Nat) (x : Value) : ObjAt (w.setCell ⟨b', k, none⟩ x) b xs e := (Below.heap_setCell _ _ _ _ hne).trans h
theorem ObjAt.ne (h : ObjAt w b xs e) {B : Nat} {v : Value} {e' : TypeId} {s n : Nat} {ys : List Value} (ho : w.ownsRow B e' s v n ys) (he : e' ≠ e) : v.ownBlock ≠ some b := by
  intro hv
  rcases ho.2 with ⟨rfl, _⟩ | ⟨g, cap, cur, rfl, _, hg, _⟩
  · cases hv
  · cases hv
    rw [show w.heap[g]? = _ from h] at hg
    simp at hg
    exact he hg.2.symm
theorem ObjAt.rowSet (h : ObjAt w b xs e) {B : Nat} {v : Value} {e' : TypeId} {s n : Nat} {ys : List Value} (ho : w.ownsRow B e' s v n ys) (he : e' ≠ e) (k : Nat) (x : Value) : (w.setCell ⟨b, k, none⟩ x).ownsRow B e' s v n ys :=
  World.ownsRow.kept ho (row := some b) ⟨rfl, rfl, rfl, by simp [World.setCell], fun j _ hj => Below.heap_setCell _ _ _ _ (fun e => hj (by rw [e]))⟩ (.inr fun e2 => h.ne ho he e2)
theorem ObjAt.grown {row : Option Nat} (h : ObjAt w b xs e) (hg : w.grownBy w' row) (hne : row ≠ some b) : ObjAt w' b xs e := (hg.block b h.lt (fun e2 => hne e2.symm)).trans h
end

/-- but for one block of those that were there at n blocks, all is as it was -/
structure FrV (n : Nat) (vl : Value) (w w' : World) : Prop where
  os : w'.os = w.os
  tape : w'.tape = w.tape
  output : w'.output = w.output
  size : w.heap.size ≤ w'.heap.size
  block : ∀ k, k < n → vl.ownBlock ≠ some k → w'.heap[k]? = w.heap[k]?
/-- the block is where it was, or one of those made since -/
def LnkV (vl vl' : Value) (n : Nat) : Prop := vl'.ownBlock = vl.ownBlock ∨ ∃ k, vl'.ownBlock = some k ∧ n ≤ k
theorem LnkV.refl (vl : Value) (n : Nat) : LnkV vl vl n := .inl rfl
theorem LnkV.trans {u v z : Value} {m n : Nat} (h : LnkV u v m) (g : LnkV v z n) (hm : m ≤ n) : LnkV u z m := by
  rcases g with g | ⟨k, g, gk⟩
  · rcases h with h | ⟨k, h, hk⟩
    · exact .inl (g.trans h)
    · exact .inr ⟨k, g.trans h, hk⟩
  · exact .inr ⟨k, g, by omega⟩
section
variable {n : Nat} {vl vl' : Value} {w x y : World}
theorem FrV.refl (n : Nat) (vl : Value) (w : World) : FrV n vl w w := ⟨rfl, rfl, rfl, Nat.le_refl _, fun _ _ _ => rfl⟩
theorem FrV.of_below (h : Below n w x) : FrV n vl w x := ⟨h.os, h.tape, h.output, h.size, fun k hk _ => h.block k hk⟩
theorem FrV.drewN (h : FrV n vl w x) (m : Nat) : FrV n vl w (x.drewN m) := ⟨h.os, h.tape, h.output, h.size, h.block⟩
theorem FrV.thenB {m : Nat} (h : FrV n vl w x) (hb : Below m x y) (hm : n ≤ m) : FrV n vl w y :=
  ⟨hb.os.trans h.os, hb.tape.trans h.tape, hb.output.trans h.output, Nat.le_trans h.size hb.size, fun k hk h1 => (hb.block k (by omega)).trans (h.block k hk h1)⟩
theorem FrV.then (h : FrV n vl w x) (hx : n ≤ x.heap.size) (l : LnkV vl vl' n) (g : FrV x.heap.size vl' x y) : FrV n vl w y :=
  ⟨g.os.trans h.os, g.tape.trans h.tape, g.output.trans h.output, Nat.le_trans h.size g.size, fun k hk h1 => (g.block k (by omega) (fun e => by
    rcases l with l | ⟨j, l, lj⟩
    · rw [l] at e; exact h1 e
    · rw [l] at e; cases e; omega)).trans (h.block k hk h1)⟩
theorem FrV.set (h : FrV n vl w x) {b : Nat} (hb : n ≤ b) (k : Nat) (v : Value) : FrV n vl w (x.setCell ⟨b, k, none⟩ v) :=
  ⟨h.os, h.tape, h.output, Nat.le_trans h.size (by simp [World.setCell]), fun j hj h1 => (Below.heap_setCell _ _ _ _ (by dsimp only; omega)).trans (h.block j hj h1)⟩
theorem FrV.alloc (h : FrV n vl w x) (hn : n ≤ x.heap.size) (o : Obj) : FrV n vl w (x.alloc o) := h.thenB ((Below.refl n x).alloc hn o) (Nat.le_refl _)
theorem FrV.grown (h : FrV n vl w x) (l : LnkV vl vl' n) (hn : n ≤ x.heap.size) (g : x.grownBy y vl'.ownBlock) : FrV n vl w y :=
  ⟨g.os.trans h.os, g.tape.trans h.tape, g.output.trans h.output, Nat.le_trans h.size g.size, fun k hk h1 => (g.block k (by omega) (fun e => by
    rcases l with l | ⟨j, l, lj⟩
    · rw [l] at e; exact h1 e.symm
    · rw [l] at e; cases e; omega)).trans (h.block k hk h1)⟩
theorem FrV.below {B : Nat} (h : FrV n vl w x) (hv : ∀ k, vl.ownBlock = some k → B ≤ k) (hn : B ≤ n) : Below B w x :=
  ⟨h.os, h.tape, h.output, h.size, fun k hk => h.block k (by omega) (fun e => by have := hv k e; omega)⟩
theorem FrV.obj {b : Nat} {xs : Array Value} {e : TypeId} (h : FrV n vl w x) (o : ObjAt w b xs e) (hn : b < n) (hv : vl.ownBlock ≠ some b) : ObjAt x b xs e := (h.block b hn hv).trans o
theorem FrV.grownBy (h : FrV w.heap.size vl w x) : w.grownBy x vl.ownBlock := ⟨h.os, h.tape, h.output, h.size, fun k hk h1 => h.block k hk (fun e => h1 e.symm)⟩
end
end Go.Proofs.YtfmhickjefogdaaGreat

/- Regions that draw their order, with one new variable that is written once. -/
namespace Go.Proofs.YtfmhickjefogdaaGreat
open Go.RowKit

theorem below_setRow {n : Nat} {w w' : World} (h : Below n w w') {g : Nat} (hg : n ≤ g) (cs : Array Value) : Below n w (w'.setRow g cs) :=
  ⟨h.os, h.tape, h.output, by simp; exact h.size, fun k hk => (setRow_other w' g k cs (by omega)).trans (h.block k hk)⟩
/-- where the new variable lies, and what it holds -/
def JAS (A B base : Nat) (ty : TypeId) (zero cells : Array Value) (s : Nat → Option Value) (w : World) : Prop :=
  (s A = none → s B = none) ∧ ∀ v, s A = some v → ∃ b, v = .pointer (some ⟨b, 0, none⟩) ∧ base ≤ b ∧ ObjAt w b (cond (s B).isSome cells zero) ty
theorem finS_mono {E : List Ob} {outs : List (Nat × Value)} {f : Nat → Value} : ∀ {S : List Ent} {l : List Value} {k k' : List Value → Prop}, (∀ l, k l → k' l) → finS E outs f S l k → finS E outs f S l k'
  | [], l, k, k', h, g => h l g
  | ⟨n, p, s⟩ :: S, l, k, k', h, g => by
    unfold finS at g ⊢
    refine finS_mono (fun l' hl' => ?_) g
    split at hl'
    · split at hl'
      · exact ⟨hl'.1, by have := hl'.2; rw [setN_eq] at this ⊢; exact h _ this⟩
      · exact ⟨hl'.1, by have := hl'.2; rw [setN_eq] at this ⊢; exact h _ this⟩
      · cases hl'
    · rw [setN_eq] at hl' ⊢; exact h _ hl'
section
variable {a0 : Act} {ps : List (Nat × Nat)} {T : QTab} {E : List Ob} {hs : List (Nat × Hint)}
def evAs (a0 : Act) (E : List Ob) (W : World) (nA nX : Nat) (ty : TypeId) (cells : Array Value) (outs : List (Nat × Value)) (Q : Act → World → Prop) (S : List Ent) : Prop :=
  (match lookS S nX with
    | some ⟨_, [], .v x⟩ => x = .agg cells
    | _ => False) ∧ ∀ (f : Nat → Value) (b : Nat), match a0 with
    | ⟨⟨l⟩, d⟩ => finS E outs f S l fun l' => setN l' nA (.pointer (some ⟨b, 0, none⟩)) fun l'' => ∀ w', Below W.heap.size W w' → W.heap.size ≤ b → ObjAt w' b cells ty → Q ⟨l''.toArray, d⟩ w'
theorem wp_region_as {id : Nat} {Q : Exit → Act → World → Prop} {w : World} {ops : List Oper} (T : QTab) (hT : T.Ok) (E : List Ob) (ps : List (Nat × Nat)) (hs : List (Nat × Hint)) (outs : List (Nat × Value))
    (A B nA nX : Nat) (ty : TypeId) (zero cells : Array Value)
    (hz : (ops.all fun o => match o.dst with | some n => decide (n < a0.tmps.size) | none => true) = true) (hm : Tryz.prog.follows .mixedOrders = true)
    (hst : (ordB ops.toArray && nodB (dstsL ops) && chkB ops.toArray (quietL [A, B] 0 ops) && depB [A, B] ops.toArray) = true)
    (hsp : spD [A, B] 0 ops = [nA])
    (hA : ∃ o, ops[A]? = some o ∧ o.op = .alloc ty ∧ o.dst = some nA)
    (hB : ∃ o, ops[B]? = some o ∧ o.op = .store ty (.tmp nA) (.tmp nX) ∧ o.dst = none ∧ ∃ e ∈ o.after, e.on = A ∧ Region.binds .any e = true)
    (halloc : ∀ w, (Instr.alloc ty true (.tuple #[])).run Tryz.prog w = .ok (.pointer (some ⟨w.heap.size, 0, none⟩)) (w.alloc (.cells zero ty)))
    (hi : (Tryz.prog.info? ty).map (·.size) = some cells.size) (hzs : zero.size = cells.size) (hone : cells.all (·.oneCell') = true)
    (hE : ObsIn (Below w.heap.size w) E) (P : psOk a0 E ps)
    (h : evL a0 ps T E (Below w.heap.size w) (fun u u' => Below u.heap.size u u') hs ops (evAs a0 E w nA nX ty cells outs (Q .normal)) (quietL [A, B] 0 ops) []) : (Code.region id ops.toArray true).wp Tryz.prog Q a0 w := by
  obtain ⟨oA, hA1, hA2, hA3⟩ := hA
  obtain ⟨oB, hB1, hB2, hB3, eB, hB4, hB5, hB6⟩ := hB
  have hAB : A ≠ B := fun e => by subst e; rw [hA1] at hB1; cases hB1; rw [hA2] at hB2; cases hB2
  have hst' := hst
  simp only [Bool.and_eq_true] at hst'
  obtain ⟨⟨⟨s1, s2⟩, s3⟩, s4⟩ := hst'
  have hsub : ∀ o ∈ quietL [A, B] 0 ops, o ∈ ops := fun o ho => by obtain ⟨k, hk, _⟩ := mem_quietL ho; exact List.mem_of_getElem? hk
  obtain ⟨S, H, af, I, ⟨h1, h2⟩, f1, f2, f3⟩ := evL_fin P hT hE hz _ [] [] a0 hsub s3 InvQ.start h
  refine mix_core [A, B] E (Below w.heap.size w) (fun u u' => Below u.heap.size u u') outs (JAS A B w.heap.size ty zero cells) hz hm hst ((Below.refl _ _).drew) ⟨fun _ => rfl, fun v hv => by cases hv⟩ (fun u u' h1 h2 => h1.trans (h2.mono h1.size)) (fun u _ => Below.refl _ _) (fun s u u' h1 h2 h3 => ⟨h2.1, fun v hv => ?_⟩) I ⟨⟨?_, ?_, trivial⟩, fun f s hsv => ?_⟩ f1 f2 f3
  · obtain ⟨b, e1, e2, e3⟩ := h2.2 v hv
    exact ⟨b, e1, e2, e3.keep h3⟩
  · intro o a u s ho hC hJ hn _ _ hdep K hK
    rw [hA1] at ho; cases ho
    refine wp_of_run (v := .pointer (some ⟨u.heap.size, 0, none⟩)) (w' := u.alloc (.cells zero ty)) ?_ ?_
    · unfold execOp; simp only [hA2, Sem.run_bind, halloc]; rfl
    · have hsB : s B = none := hJ.1 hn
      refine hK _ _ (hC.alloc hC.size _) ⟨fun h => (by rw [updS_same] at h; cases h), fun v hv => ?_⟩
      rw [updS_same] at hv; cases hv
      refine ⟨_, rfl, hC.size, ?_⟩
      rw [updS_other (Ne.symm hAB), hsB]
      exact ObjAt.new u zero ty
  · intro o a u s ho hC hJ hn hq hold hdep K hK
    rw [hB1] at ho; cases ho
    obtain ⟨v, v1, v2⟩ := hdep eB hB4 hB6 (by rw [hB5]; simp)
    rw [hB5] at v1 v2
    obtain ⟨b, e1, e2, e3⟩ := hJ.2 v v1
    have hx : a.eval (.tmp nX) = .agg cells := by
      split at h1
      · rename_i m x hl
        subst h1
        exact hq nX (by unfold Oper.looksAt; rw [hB2]; simp [Op.operands]) _ hl rfl
      · cases h1
    have hp : a.eval (.tmp nA) = .pointer (some ⟨b, 0, none⟩) := (v2 oA nA hA1 hA3).trans e1
    rw [hn] at e3
    have e3' : ObjAt u b zero ty := e3
    refine wp_of_skip (w' := u.setRow b cells) ?_ ?_
    · unfold execOp
      simp only [hB2, Sem.run_bind, hp, hx, Instr.storeAt, Instr.sureAddr, Sem.run_pure, Result.andThen_ok, run_storeVar_row (P := Tryz.prog) u b ty ty zero cells e3' hi hzs hone]
    · refine hK _ _ (below_setRow hC e2 _) ⟨fun h => ?_, fun v' hv' => ?_⟩
      · rw [updS_other hAB] at h; rw [v1] at h; cases h
      · rw [updS_other hAB, v1] at hv'; cases hv'
        refine ⟨b, e1, e2, ?_⟩
        rw [updS_same]
        exact setRow_heap _ _ _ _ _ _ e3'
  · obtain ⟨v, v1, v2⟩ := hsv A (by simp) oA hA1
    obtain ⟨vB, vB1, _⟩ := hsv B (by simp) oB hB1
    have hv : v = f nA := v2 nA hA3
    obtain ⟨⟨l⟩, d⟩ := a0
    dsimp only at h2 ⊢
    rw [hsp]
    by_cases hb : ∃ b, f nA = .pointer (some ⟨b, 0, none⟩)
    · obtain ⟨b, hb⟩ := hb
      refine finS_mono (fun l' hl' => ?_) (h2 f b)
      unfold setsN setsN
      rw [setN_eq] at hl' ⊢
      rw [hb]
      intro w' hC hJ
      obtain ⟨b', e1, e2, e3⟩ := hJ.2 v v1
      rw [hv, hb] at e1
      simp only [Value.pointer.injEq, Option.some.injEq, Addr.mk.injEq, and_true] at e1
      subst e1
      rw [vB1] at e3
      exact hl' w' hC e2 e3
    · refine finS_mono (fun l' hl' => ?_) (h2 f 0)
      unfold setsN setsN
      dsimp only
      rw [setN_eq]
      intro w' hC hJ
      obtain ⟨b', e1, _⟩ := hJ.2 v v1
      exact absurd ⟨b', hv.symm.trans e1⟩ hb
end
end Go.Proofs.YtfmhickjefogdaaGreat

/- Regions that draw their order, with one call whose value is not known ahead, and its assignment. -/
namespace Go.Proofs.YtfmhickjefogdaaGreat
open Go.RowKit

theorem wp_of_enter {P : Program} {o : Oper} {a : Act} {K : Act → World → Prop} {Q' : Exit → Act → World → Prop} {w w' : World} {f : FuncId} {args : Array Value} (h : (execOp a.eval o).run P w = .ok (.enter f args) w') (hc : Calls P f args w' fun e w'' => ∃ v, e = .returned v ∧ K (a.put o.dst v) w'') : o.wp P a w K Q' := by
  unfold Oper.wp; rw [h]; unfold Oper.upon
  exact hc.mono fun e w'' ⟨v, he, hk⟩ => by subst he; exact hk
theorem enters_call {P : Program} {o : Oper} {a : Act} {c : Call} {f : FuncId} (ho : o.op = .call c) (hc : c.callee = .value (.func f)) {vs : List Value} (hx : c.args.toList.map a.eval = vs) (en : ∀ args w, (callFunc f args).run P w = .ok (.enter f args) w) (w : World) :
    (execOp a.eval o).run P w = .ok (.enter f vs.toArray) w := by
  have e1 : c.args.map a.eval = vs.toArray := by rw [← hx]; apply Array.ext'; simp
  have hf : a.eval (.func f) = .func (.func f) #[] #[] := rfl
  unfold execOp
  simp only [ho, resolve, hc, e1, hf, Deferred.ofValue, Sem.run_bind, Sem.run_pure, Result.andThen_ok, invoke, Array.empty_append, Array.append_empty, en]
/-- the value that comes, and where it goes -/
def JCA (A B : Nat) (V : Value → World → Prop) (s : Nat → Option Value) (w : World) : Prop :=
  (s A = none → s B = none) ∧ (∀ v, s A = some v → V v w) ∧ ∀ v, s B = some v → s A = some v
def argsAt (E : List Ob) (S : List Ent) : List Nat → List Value → Prop
  | [], [] => True
  | n :: ns, v :: vs => (match lookS S n with | some ⟨_, [], s⟩ => s.den E = v | _ => False) ∧ argsAt E S ns vs
  | _, _ => False
theorem argsAt_map {E : List Ob} {S : List Ent} {a : Act} : ∀ {ns : List Nat} {vs : List Value}, argsAt E S ns vs → (∀ n ∈ ns, ∀ e, lookS S n = some e → e.path = [] → a.eval (.tmp n) = e.sw.den E) → (ns.map Operand.tmp).map a.eval = vs
  | [], [], _, _ => rfl
  | n :: ns, v :: vs, h, hq => by
    obtain ⟨h1, h2⟩ := h
    rw [List.map_cons, List.map_cons, argsAt_map h2 fun m hm => hq m (List.mem_cons_of_mem _ hm)]
    split at h1
    · rename_i m s hl
      rw [hq n (List.mem_cons_self ..) _ hl rfl, h1]
    · cases h1
  | [], _ :: _, h, _ => by cases h
  | _ :: _, [], h, _ => by cases h
section
variable {a0 : Act} {ps : List (Nat × Nat)} {T : QTab} {E : List Ob} {hs : List (Nat × Hint)}
def evCa (a0 : Act) (E : List Ob) (W : World) (nA nB : Nat) (ns : List Nat) (vs : List Value) (V : Value → World → Prop) (outs : List (Nat × Value)) (Q : Act → World → Prop) (S : List Ent) : Prop :=
  argsAt E S ns vs ∧ ∀ (f : Nat → Value) (v : Value), match a0 with
    | ⟨⟨l⟩, d⟩ => finS E outs f S l fun l' => setN l' nB v fun l1 => setN l1 nA v fun l2 => ∀ w', Below W.heap.size W w' → V v w' → Q ⟨l2.toArray, d⟩ w'
theorem wp_region_ca {id : Nat} {Q : Exit → Act → World → Prop} {w : World} {ops : List Oper} (T : QTab) (hT : T.Ok) (E : List Ob) (ps : List (Nat × Nat)) (hs : List (Nat × Hint)) (outs : List (Nat × Value))
    (A B nA nB : Nat) (F : FuncId) (ns : List Nat) (vs : List Value) (V : Value → World → Prop)
    (hz : (ops.all fun o => match o.dst with | some n => decide (n < a0.tmps.size) | none => true) = true) (hm : Tryz.prog.follows .mixedOrders = true)
    (hst : (ordB ops.toArray && nodB (dstsL ops) && chkB ops.toArray (quietL [A, B] 0 ops) && depB [A, B] ops.toArray) = true)
    (hsp : spD [A, B] 0 ops = [nA, nB])
    (hA : ∃ o c, ops[A]? = some o ∧ o.op = .call c ∧ c.callee = .value (.func F) ∧ c.args.toList = ns.map Operand.tmp ∧ o.dst = some nA)
    (hB : ∃ o, ops[B]? = some o ∧ o.op = .assign (.tmp nA) ∧ o.dst = some nB ∧ ∃ e ∈ o.after, e.on = A ∧ Region.binds .any e = true)
    (hen : ∀ args w, (callFunc F args).run Tryz.prog w = .ok (.enter F args) w)
    (hV : ∀ v u u', V v u → Below u.heap.size u u' → V v u')
    (hcall : ∀ u, Below w.heap.size w u → Calls Tryz.prog F vs.toArray u fun e u' => ∃ v, e = .returned v ∧ V v u' ∧ Below u.heap.size u u')
    (hE : ObsIn (Below w.heap.size w) E) (P : psOk a0 E ps)
    (h : evL a0 ps T E (Below w.heap.size w) (fun u u' => Below u.heap.size u u') hs ops (evCa a0 E w nA nB ns vs V outs (Q .normal)) (quietL [A, B] 0 ops) []) : (Code.region id ops.toArray true).wp Tryz.prog Q a0 w := by
  obtain ⟨oA, cA, hA1, hA2, hA3, hA4, hA5⟩ := hA
  obtain ⟨oB, hB1, hB2, hB3, eB, hB4, hB5, hB6⟩ := hB
  have hAB : A ≠ B := fun e => by subst e; rw [hA1] at hB1; cases hB1; rw [hA2] at hB2; cases hB2
  have hst' := hst
  simp only [Bool.and_eq_true] at hst'
  obtain ⟨⟨⟨s1, s2⟩, s3⟩, s4⟩ := hst'
  have hsub : ∀ o ∈ quietL [A, B] 0 ops, o ∈ ops := fun o ho => by obtain ⟨k, hk, _⟩ := mem_quietL ho; exact List.mem_of_getElem? hk
  obtain ⟨S, H, af, I, ⟨h1, h2⟩, f1, f2, f3⟩ := evL_fin P hT hE hz _ [] [] a0 hsub s3 InvQ.start h
  refine mix_core [A, B] E (Below w.heap.size w) (fun u u' => Below u.heap.size u u') outs (JCA A B V) hz hm hst ((Below.refl _ _).drew) ⟨fun _ => rfl, fun v hv => (by cases hv), fun v hv => (by cases hv)⟩ (fun u u' h1 h2 => h1.trans (h2.mono h1.size)) (fun u _ => Below.refl _ _) (fun s u u' h1 h2 h3 => ⟨h2.1, fun v hv => hV v u u' (h2.2.1 v hv) h3, h2.2.2⟩) I ⟨⟨?_, ?_, trivial⟩, fun f s hsv => ?_⟩ f1 f2 f3
  · intro o a u s ho hC hJ hn hq _ hdep K hK
    rw [hA1] at ho; cases ho
    have hx : cA.args.toList.map a.eval = vs := by
      rw [hA4]
      refine argsAt_map h1 fun n hn' => hq n ?_
      unfold Oper.looksAt
      refine List.mem_append_left _ (List.mem_filterMap.2 ⟨.tmp n, ?_, rfl⟩)
      rw [hA2]
      unfold Op.operands
      have : Operand.tmp n ∈ cA.args.toList := by rw [hA4]; exact List.mem_map.2 ⟨n, hn', rfl⟩
      simp only [Call.operands, hA3]; simp at this; simp [this]
    refine wp_of_enter (enters_call hA2 hA3 hx hen u) ((hcall u hC).mono fun e u' ⟨v, he, hv, hb⟩ => ⟨v, he, ?_⟩)
    have hsB : s B = none := hJ.1 hn
    refine hK _ _ (hC.trans (hb.mono hC.size)) ⟨fun h => (by rw [updS_same] at h; cases h), fun v' hv' => ?_, fun v' hv' => ?_⟩
    · rw [updS_same] at hv'; cases hv'; exact hv
    · rw [updS_other (Ne.symm hAB), hsB] at hv'; cases hv'
  · intro o a u s ho hC hJ hn _ _ hdep K hK
    rw [hB1] at ho; cases ho
    obtain ⟨v, v1, v2⟩ := hdep eB hB4 hB6 (by rw [hB5]; simp)
    rw [hB5] at v1 v2
    have hx : a.eval (.tmp nA) = v := v2 oA nA hA1 hA5
    refine wp_of_run (v := v) (w' := u) ?_ ?_
    · unfold execOp; simp only [hB2, hx]; rfl
    · refine hK _ _ hC ⟨fun h => ?_, fun v' hv' => ?_, fun v' hv' => ?_⟩
      · rw [updS_other hAB] at h; rw [v1] at h; cases h
      · rw [updS_other hAB] at hv'; exact hJ.2.1 v' hv'
      · rw [updS_same] at hv'; cases hv'
        rw [updS_other hAB]; exact v1
  · obtain ⟨v, v1, v2⟩ := hsv A (by simp) oA hA1
    obtain ⟨vB, vB1, vB2⟩ := hsv B (by simp) oB hB1
    have hv : v = f nA := v2 nA hA5
    have hvB : vB = f nB := vB2 nB hB3
    obtain ⟨⟨l⟩, d⟩ := a0
    dsimp only at h2 ⊢
    rw [hsp]
    refine finS_mono (fun l' hl' => ?_) (h2 f v)
    unfold setsN setsN setsN
    rw [setN_eq] at hl' ⊢
    rw [setN_eq] at hl' ⊢
    intro w' hC hJ
    have hBA : vB = v := by have := hJ.2.2 vB vB1; rw [v1] at this; exact (Option.some.inj this).symm
    have := hl' w' hC (hJ.2.1 v v1)
    rw [← hvB, hBA, ← hv]
    exact this
end
end Go.Proofs.YtfmhickjefogdaaGreat

/- Regions that draw their order, in which one operation writes memory that is there. -/
namespace Go.Proofs.YtfmhickjefogdaaGreat
open Go.RowKit

/-- one cell is written -/
theorem run_storeAt_one {ty : TypeId} {w : World} {b o : Nat} {x c : Value} (hc : w.cell? ⟨b, o, none⟩ = some c) (hf : w.frozen? ⟨b, o, none⟩ = false) (hi : (Tryz.prog.info? ty).map (·.size) = some 1) (h1 : x.oneCell' = true) (h2 : x.cells = #[x]) :
    (Instr.storeAt ty (.pointer (some ⟨b, o, none⟩)) x).run Tryz.prog w = .ok () (w.setCell ⟨b, o, none⟩ x) := by
  have := run_storeCells_cells (P := Tryz.prog) b o [x] 0 w (fun j hj => by simp at hj; subst hj; simp [hc]) (fun j hj => by simp at hj; subst hj; simpa using hf) (fun v hv => by simp at hv; subst hv; exact h1)
  cases hq : Tryz.prog.info? ty with
  | none => simp [hq] at hi
  | some i =>
    have hs : i.size = 1 := by simp [hq] at hi; omega
    simp only [Nat.add_zero] at this
    have hcl : x.cells.toList = [x] := by rw [h2]
    have hsz : x.cells.size = 1 := by rw [h2]; rfl
    simp only [Instr.storeAt, Instr.sureAddr, storeVar, sizeOf, typeInfo, Sem.run_bind, Sem.run_pure, Result.andThen_ok, run_program, hq, hcl, hs, hsz, ne_eq, not_true_eq_false, if_false, this]
    rfl
def JST (A : Nat) (Pre Post : World → Prop) (s : Nat → Option Value) (w : World) : Prop := (s A = none → Pre w) ∧ ∀ v, s A = some v → Post w
def slotAt (a0 : Act) (E : List Ob) (ops : List Oper) (S : List Ent) (n : Nat) (v : Value) : Prop := match lookS S n with
  | some ⟨_, [], s⟩ => s.den E = v
  | some _ => False
  | none => (dstsL ops).contains n = false ∧ a0.eval (.tmp n) = v
section
variable {a0 : Act} {ps : List (Nat × Nat)} {T : QTab} {E : List Ob} {hs : List (Nat × Hint)}
def evSt (a0 : Act) (E : List Ob) (C : World → Prop) (ops : List Oper) (nP nX : Nat) (p x : Value) (Post : World → Prop) (outs : List (Nat × Value)) (Q : Act → World → Prop) (S : List Ent) : Prop :=
  (slotAt a0 E ops S nP p ∧ slotAt a0 E ops S nX x) ∧ ∀ (f : Nat → Value), match a0 with
    | ⟨⟨l⟩, d⟩ => finS E outs f S l fun l' => ∀ w', C w' → Post w' → Q ⟨l'.toArray, d⟩ w'
theorem reg_st {Q : Exit → Act → World → Prop} {w : World} {ops : List Oper} (T : QTab) (hT : T.Ok) (E : List Ob) (C : World → Prop) (R : World → World → Prop) (ps : List (Nat × Nat)) (hs : List (Nat × Hint)) (outs : List (Nat × Value))
    (A nP nX : Nat) (ty : TypeId) (p x : Value) (Pre Post : World → Prop)
    (hz : (ops.all fun o => match o.dst with | some n => decide (n < a0.tmps.size) | none => true) = true)
    (hst : (ordB ops.toArray && nodB (dstsL ops) && chkB ops.toArray (quietL [A] 0 ops) && depB [A] ops.toArray) = true)
    (hsp : spD [A] 0 ops = [])
    (hA : ∃ o, ops[A]? = some o ∧ o.op = .store ty (.tmp nP) (.tmp nX) ∧ o.dst = none)
    (hC : C w.drew) (hPre : Pre w.drew) (hR : ∀ u u', C u → R u u' → C u') (hRd : ∀ u, C u → R u u)
    (hPreR : ∀ u u', C u → Pre u → R u u' → Pre u') (hPostR : ∀ u u', C u → Post u → R u u' → Post u')
    (hstore : ∀ u, C u → Pre u → ∃ u', (Instr.storeAt ty p x).run Tryz.prog u = .ok () u' ∧ C u' ∧ Post u')
    (hE : ObsIn C E) (P : psOk a0 E ps)
    (h : evL a0 ps T E C R hs ops (evSt a0 E C ops nP nX p x Post outs (Q .normal)) (quietL [A] 0 ops) []) : RegI Tryz.prog ops.toArray Q a0 w := by
  obtain ⟨oA, hA1, hA2, hA3⟩ := hA
  have hst' := hst
  simp only [Bool.and_eq_true] at hst'
  obtain ⟨⟨⟨s1, s2⟩, s3⟩, s4⟩ := hst'
  have hsub : ∀ o ∈ quietL [A] 0 ops, o ∈ ops := fun o ho => by obtain ⟨k, hk, _⟩ := mem_quietL ho; exact List.mem_of_getElem? hk
  obtain ⟨S, H, af, I, ⟨⟨h1, h1'⟩, h2⟩, f1, f2, f3⟩ := evL_fin P hT hE hz _ [] [] a0 hsub s3 InvQ.start h
  refine mix_coreI [A] E C R outs (JST A Pre Post) hz hst C (fun _ _ _ _ _ _ _ _ _ h _ => h) hC ⟨fun _ => hPre, fun v hv => (by cases hv)⟩ hR hRd (fun s u u' g1 g2 g3 => ⟨fun hn => hPreR u u' g1 (g2.1 hn) g3, fun v hv => hPostR u u' g1 (g2.2 v hv) g3⟩) I ⟨⟨?_, trivial⟩, fun f s hsv => ?_⟩ f1 f2 f3
  · intro o a u s ho hCu hJ hn hq hold hdep K hK
    rw [hA1] at ho; cases ho
    have val : ∀ n v, slotAt a0 E ops S n v → n ∈ oA.looksAt ops.toArray → a.eval (.tmp n) = v := by
      intro n v hs hl
      unfold slotAt at hs
      split at hs
      · rename_i m s' hl'
        rw [← hs]; exact hq n hl _ hl' rfl
      · cases hs
      · rw [hold n (by simpa using hs.1)]; exact hs.2
    have e1 := val nP p h1 (by unfold Oper.looksAt; rw [hA2]; simp [Op.operands])
    have e2 := val nX x h1' (by unfold Oper.looksAt; rw [hA2]; simp [Op.operands])
    obtain ⟨u', r1, r2, r3⟩ := hstore u hCu (hJ.1 hn)
    refine wp_of_skip (w' := u') ?_ ?_
    · unfold execOp
      simp only [hA2, Sem.run_bind, e1, e2, r1]; rfl
    · refine hK _ _ r2 ⟨fun h => (by rw [updS_same] at h; cases h), fun v hv => r3⟩
  · obtain ⟨v, v1, _⟩ := hsv A (by simp) oA hA1
    obtain ⟨⟨l⟩, d⟩ := a0
    dsimp only at h2 ⊢
    rw [hsp]
    refine finS_mono (fun l' hl' => ?_) (h2 f)
    unfold setsN
    intro w' hC' hJ
    exact hl' w' hC' (hJ.2 v v1)
theorem wp_region_st {id : Nat} {Q : Exit → Act → World → Prop} {w : World} {ops : List Oper} (T : QTab) (hT : T.Ok) (E : List Ob) (C : World → Prop) (R : World → World → Prop) (ps : List (Nat × Nat)) (hs : List (Nat × Hint)) (outs : List (Nat × Value))
    (A nP nX : Nat) (ty : TypeId) (p x : Value) (Pre Post : World → Prop)
    (hz : (ops.all fun o => match o.dst with | some n => decide (n < a0.tmps.size) | none => true) = true) (hm : Tryz.prog.follows .mixedOrders = true)
    (hst : (ordB ops.toArray && nodB (dstsL ops) && chkB ops.toArray (quietL [A] 0 ops) && depB [A] ops.toArray) = true)
    (hsp : spD [A] 0 ops = [])
    (hA : ∃ o, ops[A]? = some o ∧ o.op = .store ty (.tmp nP) (.tmp nX) ∧ o.dst = none)
    (hC : C w.drew) (hPre : Pre w.drew) (hR : ∀ u u', C u → R u u' → C u') (hRd : ∀ u, C u → R u u)
    (hPreR : ∀ u u', C u → Pre u → R u u' → Pre u') (hPostR : ∀ u u', C u → Post u → R u u' → Post u')
    (hstore : ∀ u, C u → Pre u → ∃ u', (Instr.storeAt ty p x).run Tryz.prog u = .ok () u' ∧ C u' ∧ Post u')
    (hE : ObsIn C E) (P : psOk a0 E ps)
    (h : evL a0 ps T E C R hs ops (evSt a0 E C ops nP nX p x Post outs (Q .normal)) (quietL [A] 0 ops) []) : (Code.region id ops.toArray true).wp Tryz.prog Q a0 w := by
  have hst' := hst
  simp only [Bool.and_eq_true] at hst'
  exact (reg_st T hT E C R ps hs outs A nP nX ty p x Pre Post hz hst hsp hA hC hPre hR hRd hPreR hPostR hstore hE P h).wp hm hst'.1.1.1
end
end Go.Proofs.YtfmhickjefogdaaGreat
