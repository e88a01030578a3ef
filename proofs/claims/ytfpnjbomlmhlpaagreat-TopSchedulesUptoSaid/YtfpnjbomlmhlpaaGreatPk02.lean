/- Erection schedules: plain. -/
import Derived.Test.YtfpnjbomlmhlpaaGreatPk01
import Derived.RangeFuncBox
import Derived.RangeFuncRecord
import Derived.Laws.Tables
import Derived.Shelf.Abstract
import Derived.Test.YtfpnjbomlmhlpaaGreatPk00
set_option linter.unusedSimpArgs false
set_option linter.unusedVariables false

/- Objects of named cells in memory; frames that leave out one block. -/
namespace Go.Proofs.YtfpnjbomlmhlpaaGreat
open Go.RowKit

/-- the object b has the cells xs -/
def ObjAt (w : World) (b : Nat) (xs : Array Value) (e : TypeId) : Prop := w.heap[b]? = some (.cells xs e (0, 0))
theorem ObjAt.new (w : World) (xs : Array Value) (e : TypeId) : ObjAt (w.alloc (.cells xs e)) w.heap.size xs e := World.alloc_heap_new w _
section
variable {w w' : World} {b : Nat} {xs : Array Value} {e : TypeId}
theorem ObjAt.lt (h : ObjAt w b xs e) : b < w.heap.size := (Array.getElem?_eq_some_iff.1 h).1
theorem ObjAt.cell (h : ObjAt w b xs e) (k : Nat) : w.cell? ⟨b, k, none⟩ = xs[k]? := by simp [World.cell?, show w.heap[b]? = _ from h]
theorem ObjAt.frozen (h : ObjAt w b xs e) (k : Nat) : w.frozen? ⟨b, k, none⟩ = false := by simp [World.frozen?, show w.heap[b]? = _ from h]
theorem ObjAt.below {n : Nat} (h : ObjAt w b xs e) (hb : Below n w w') (hn : b < n) : ObjAt w' b xs e := (hb.block b hn).trans h
theorem ObjAt.keep (h : ObjAt w b xs e) (hb : Below w.heap.size w w') : ObjAt w' b xs e := h.below hb h.lt
theorem ObjAt.alloc (h : ObjAt w b xs e) (o : Obj) : ObjAt (w.alloc o) b xs e := h.keep ((Below.refl _ _).alloc (Nat.le_refl _) _)
theorem ObjAt.drewN (h : ObjAt w b xs e) (m : Nat) : ObjAt (w.drewN m) b xs e := h
theorem ObjAt.set (h : ObjAt w b xs e) (k : Nat) (x : Value) : ObjAt (w.setCell ⟨b, k, none⟩ x) b (xs.setIfInBounds k x) e := by
  obtain ⟨hlt, hk⟩ := Array.getElem?_eq_some_iff.1 h
  show (w.heap.modify b _)[b]? = _
  rw [Array.getElem?_eq_getElem (by rw [Array.size_modify]; exact hlt), Array.getElem_modify_self, hk]
  rfl
theorem ObjAt.other (h : ObjAt w b xs e) {b' : Nat} (hne : b ≠ b') (k : Nat) (x : Value) : ObjAt (w.setCell ⟨b', k, none⟩ x) b xs e := (Below.heap_setCell _ _ _ _ hne).trans h
theorem ObjAt.ne (h : ObjAt w b xs e) {B : Nat} {v : Value} {e' : TypeId} {s n : Nat} {ys : List Value} (ho : w.ownsRow B e' s v n ys) (he : e' ≠ e) : v.ownBlock ≠ some b := by
  intro hv
  rcases ho.2 with ⟨rfl, _⟩ | ⟨g, cap, cur, rfl, _, hg, _⟩
  · cases hv
  · cases hv
    rw [show w.heap[g]? = _ from h] at hg
    simp at hg
    exact he hg.2.symm
theorem ObjAt.rowSet (h : ObjAt w b xs e) {B : Nat} {v : Value} {e' : TypeId} {s n : Nat} {ys : List Value} (ho : w.ownsRow B e' s v n ys) (he : e' ≠ e) (k : Nat) (x : Value) : (w.setCell ⟨b, k, none⟩ x).ownsRow B e' s v n ys :=
  World.ownsRow.kept ho (row := some b) ⟨rfl, rfl, rfl, by simp [World.setCell], fun j _ hj => Below.heap_setCell _ _ _ _ (fun e => hj (by rw [e]))⟩ (.inr fun e2 => h.ne ho he e2)
theorem ObjAt.grown {row : Option Nat} (h : ObjAt w b xs e) (hg : w.grownBy w' row) (hne : row ≠ some b) : ObjAt w' b xs e := (hg.block b h.lt (fun e2 => hne e2.symm)).trans h
end

/-- but for one block of those that were there at n blocks, all is as it was -/
structure FrV (n : Nat) (vl : Value) (w w' : World) : Prop where
  os : w'.os = w.os
  tape : w'.tape = w.tape
  output : w'.output = w.output
  size : w.heap.size ≤ w'.heap.size
  block : ∀ k, k < n → vl.ownBlock ≠ some k → w'.heap[k]? = w.heap[k]?
/-- the block is where it was, or one of those made since -/
def LnkV (vl vl' : Value) (n : Nat) : Prop := vl'.ownBlock = vl.ownBlock ∨ ∃ k, vl'.ownBlock = some k ∧ n ≤ k
theorem LnkV.refl (vl : Value) (n : Nat) : LnkV vl vl n := .inl rfl
theorem LnkV.trans {u v z : Value} {m n : Nat} (h : LnkV u v m) (g : LnkV v z n) (hm : m ≤ n) : LnkV u z m := by
  rcases g with g | ⟨k, g, gk⟩
  · rcases h with h | ⟨k, h, hk⟩
    · exact .inl (g.trans h)
    · exact .inr ⟨k, g.trans h, hk⟩
  · exact .inr ⟨k, g, by omega⟩
section
variable {n : Nat} {vl vl' : Value} {w x y : World}
theorem FrV.refl (n : Nat) (vl : Value) (w : World) : FrV n vl w w := ⟨rfl, rfl, rfl, Nat.le_refl _, fun _ _ _ => rfl⟩
theorem FrV.of_below (h : Below n w x) : FrV n vl w x := ⟨h.os, h.tape, h.output, h.size, fun k hk _ => h.block k hk⟩
theorem FrV.drewN (h : FrV n vl w x) (m : Nat) : FrV n vl w (x.drewN m) := ⟨h.os, h.tape, h.output, h.size, h.block⟩
theorem FrV.thenB {m : Nat} (h : FrV n vl w x) (hb : Below m x y) (hm : n ≤ m) : FrV n vl w y :=
  ⟨hb.os.trans h.os, hb.tape.trans h.tape, hb.output.trans h.output, Nat.le_trans h.size hb.size, fun k hk h1 => (hb.block k (by omega)).trans (h.block k hk h1)⟩
theorem FrV.then (h : FrV n vl w x) (hx : n ≤ x.heap.size) (l : LnkV vl vl' n) (g : FrV x.heap.size vl' x y) : FrV n vl w y :=
  ⟨g.os.trans h.os, g.tape.trans h.tape, g.output.trans h.output, Nat.le_trans h.size g.size, fun k hk h1 => (g.block k (by omega) (fun e => by
    rcases l with l | ⟨j, l, lj⟩
    · rw [l] at e; exact h1 e
    · rw [l] at e; cases e; omega)).trans (h.block k hk h1)⟩
theorem FrV.set (h : FrV n vl w x) {b : Nat} (hb : n ≤ b) (k : Nat) (v : Value) : FrV n vl w (x.setCell ⟨b, k, none⟩ v) :=
  ⟨h.os, h.tape, h.output, Nat.le_trans h.size (by simp [World.setCell]), fun j hj h1 => (Below.heap_setCell _ _ _ _ (by dsimp only; omega)).trans (h.block j hj h1)⟩
theorem FrV.alloc (h : FrV n vl w x) (hn : n ≤ x.heap.size) (o : Obj) : FrV n vl w (x.alloc o) := h.thenB ((Below.refl n x).alloc hn o) (Nat.le_refl _)
theorem FrV.grown (h : FrV n vl w x) (l : LnkV vl vl' n) (hn : n ≤ x.heap.size) (g : x.grownBy y vl'.ownBlock) : FrV n vl w y :=
  ⟨g.os.trans h.os, g.tape.trans h.tape, g.output.trans h.output, Nat.le_trans h.size g.size, fun k hk h1 => (g.block k (by omega) (fun e => by
    rcases l with l | ⟨j, l, lj⟩
    · rw [l] at e; exact h1 e.symm
    · rw [l] at e; cases e; omega)).trans (h.block k hk h1)⟩
theorem FrV.below {B : Nat} (h : FrV n vl w x) (hv : ∀ k, vl.ownBlock = some k → B ≤ k) (hn : B ≤ n) : Below B w x :=
  ⟨h.os, h.tape, h.output, h.size, fun k hk => h.block k (by omega) (fun e => by have := hv k e; omega)⟩
theorem FrV.obj {b : Nat} {xs : Array Value} {e : TypeId} (h : FrV n vl w x) (o : ObjAt w b xs e) (hn : b < n) (hv : vl.ownBlock ≠ some b) : ObjAt x b xs e := (h.block b hn hv).trans o
theorem FrV.grownBy (h : FrV w.heap.size vl w x) : w.grownBy x vl.ownBlock := ⟨h.os, h.tape, h.output, h.size, fun k hk h1 => h.block k hk (fun e => h1 e.symm)⟩
end
end Go.Proofs.YtfpnjbomlmhlpaaGreat

/- Regions that draw their order, with one new variable that is written once. -/
namespace Go.Proofs.YtfpnjbomlmhlpaaGreat
open Go.RowKit

theorem below_setRow {n : Nat} {w w' : World} (h : Below n w w') {g : Nat} (hg : n ≤ g) (cs : Array Value) : Below n w (w'.setRow g cs) :=
  ⟨h.os, h.tape, h.output, by simp; exact h.size, fun k hk => (setRow_other w' g k cs (by omega)).trans (h.block k hk)⟩
/-- where the new variable lies, and what it holds -/
def JAS (A B base : Nat) (ty : TypeId) (zero cells : Array Value) (s : Nat → Option Value) (w : World) : Prop :=
  (s A = none → s B = none) ∧ ∀ v, s A = some v → ∃ b, v = .pointer (some ⟨b, 0, none⟩) ∧ base ≤ b ∧ ObjAt w b (cond (s B).isSome cells zero) ty
theorem finS_mono {E : List Ob} {outs : List (Nat × Value)} {f : Nat → Value} : ∀ {S : List Ent} {l : List Value} {k k' : List Value → Prop}, (∀ l, k l → k' l) → finS E outs f S l k → finS E outs f S l k'
  | [], l, k, k', h, g => h l g
  | ⟨n, p, s⟩ :: S, l, k, k', h, g => by
    unfold finS at g ⊢
    refine finS_mono (fun l' hl' => ?_) g
    split at hl'
    · split at hl'
      · exact ⟨hl'.1, by have := hl'.2; rw [setN_eq] at this ⊢; exact h _ this⟩
      · exact ⟨hl'.1, by have := hl'.2; rw [setN_eq] at this ⊢; exact h _ this⟩
      · cases hl'
    · rw [setN_eq] at hl' ⊢; exact h _ hl'
section
variable {a0 : Act} {ps : List (Nat × Nat)} {T : QTab} {E : List Ob} {hs : List (Nat × Hint)}
def evAs (a0 : Act) (E : List Ob) (W : World) (nA nX : Nat) (ty : TypeId) (cells : Array Value) (outs : List (Nat × Value)) (Q : Act → World → Prop) (S : List Ent) : Prop :=
  (match lookS S nX with
    | some ⟨_, [], .v x⟩ => x = .agg cells
    | _ => False) ∧ ∀ (f : Nat → Value) (b : Nat), match a0 with
    | ⟨⟨l⟩, d⟩ => finS E outs f S l fun l' => setN l' nA (.pointer (some ⟨b, 0, none⟩)) fun l'' => ∀ w', Below W.heap.size W w' → W.heap.size ≤ b → ObjAt w' b cells ty → Q ⟨l''.toArray, d⟩ w'
theorem wp_region_as {id : Nat} {Q : Exit → Act → World → Prop} {w : World} {ops : List Oper} (T : QTab) (hT : T.Ok) (E : List Ob) (ps : List (Nat × Nat)) (hs : List (Nat × Hint)) (outs : List (Nat × Value))
    (A B nA nX : Nat) (ty : TypeId) (zero cells : Array Value)
    (hz : (ops.all fun o => match o.dst with | some n => decide (n < a0.tmps.size) | none => true) = true) (hm : Tryz.prog.follows .mixedOrders = true)
    (hst : (ordB ops.toArray && nodB (dstsL ops) && chkB ops.toArray (quietL [A, B] 0 ops) && depB [A, B] ops.toArray) = true)
    (hsp : spD [A, B] 0 ops = [nA])
    (hA : ∃ o, ops[A]? = some o ∧ o.op = .alloc ty ∧ o.dst = some nA)
    (hB : ∃ o, ops[B]? = some o ∧ o.op = .store ty (.tmp nA) (.tmp nX) ∧ o.dst = none ∧ ∃ e ∈ o.after, e.on = A ∧ Region.binds .any e = true)
    (halloc : ∀ w, (Instr.alloc ty true (.tuple #[])).run Tryz.prog w = .ok (.pointer (some ⟨w.heap.size, 0, none⟩)) (w.alloc (.cells zero ty)))
    (hi : (Tryz.prog.info? ty).map (·.size) = some cells.size) (hzs : zero.size = cells.size) (hone : cells.all (·.oneCell') = true)
    (hE : ObsIn (Below w.heap.size w) E) (P : psOk a0 E ps)
    (h : evL a0 ps T E (Below w.heap.size w) (fun u u' => Below u.heap.size u u') hs ops (evAs a0 E w nA nX ty cells outs (Q .normal)) (quietL [A, B] 0 ops) []) : (Code.region id ops.toArray true).wp Tryz.prog Q a0 w := by
  obtain ⟨oA, hA1, hA2, hA3⟩ := hA
  obtain ⟨oB, hB1, hB2, hB3, eB, hB4, hB5, hB6⟩ := hB
  have hAB : A ≠ B := fun e => by subst e; rw [hA1] at hB1; cases hB1; rw [hA2] at hB2; cases hB2
  have hst' := hst
  simp only [Bool.and_eq_true] at hst'
  obtain ⟨⟨⟨s1, s2⟩, s3⟩, s4⟩ := hst'
  have hsub : ∀ o ∈ quietL [A, B] 0 ops, o ∈ ops := fun o ho => by obtain ⟨k, hk, _⟩ := mem_quietL ho; exact List.mem_of_getElem? hk
  obtain ⟨S, H, af, I, ⟨h1, h2⟩, f1, f2, f3⟩ := evL_fin P hT hE hz _ [] [] a0 hsub s3 InvQ.start h
  refine mix_core [A, B] E (Below w.heap.size w) (fun u u' => Below u.heap.size u u') outs (JAS A B w.heap.size ty zero cells) hz hm hst ((Below.refl _ _).drew) ⟨fun _ => rfl, fun v hv => by cases hv⟩ (fun u u' h1 h2 => h1.trans (h2.mono h1.size)) (fun u _ => Below.refl _ _) (fun s u u' h1 h2 h3 => ⟨h2.1, fun v hv => ?_⟩) I ⟨⟨?_, ?_, trivial⟩, fun f s hsv => ?_⟩ f1 f2 f3
  · obtain ⟨b, e1, e2, e3⟩ := h2.2 v hv
    exact ⟨b, e1, e2, e3.keep h3⟩
  · intro o a u s ho hC hJ hn _ _ hdep K hK
    rw [hA1] at ho; cases ho
    refine wp_of_run (v := .pointer (some ⟨u.heap.size, 0, none⟩)) (w' := u.alloc (.cells zero ty)) ?_ ?_
    · unfold execOp; simp only [hA2, Sem.run_bind, halloc]; rfl
    · have hsB : s B = none := hJ.1 hn
      refine hK _ _ (hC.alloc hC.size _) ⟨fun h => (by rw [updS_same] at h; cases h), fun v hv => ?_⟩
      rw [updS_same] at hv; cases hv
      refine ⟨_, rfl, hC.size, ?_⟩
      rw [updS_other (Ne.symm hAB), hsB]
      exact ObjAt.new u zero ty
  · intro o a u s ho hC hJ hn hq hold hdep K hK
    rw [hB1] at ho; cases ho
    obtain ⟨v, v1, v2⟩ := hdep eB hB4 hB6 (by rw [hB5]; simp)
    rw [hB5] at v1 v2
    obtain ⟨b, e1, e2, e3⟩ := hJ.2 v v1
    have hx : a.eval (.tmp nX) = .agg cells := by
      split at h1
      · rename_i m x hl
        subst h1
        exact hq nX (by unfold Oper.looksAt; rw [hB2]; simp [Op.operands]) _ hl rfl
      · cases h1
    have hp : a.eval (.tmp nA) = .pointer (some ⟨b, 0, none⟩) := (v2 oA nA hA1 hA3).trans e1
    rw [hn] at e3
    have e3' : ObjAt u b zero ty := e3
    refine wp_of_skip (w' := u.setRow b cells) ?_ ?_
    · unfold execOp
      simp only [hB2, Sem.run_bind, hp, hx, Instr.storeAt, Instr.sureAddr, Sem.run_pure, Result.andThen_ok, run_storeVar_row (P := Tryz.prog) u b ty ty zero cells e3' hi hzs hone]
    · refine hK _ _ (below_setRow hC e2 _) ⟨fun h => ?_, fun v' hv' => ?_⟩
      · rw [updS_other hAB] at h; rw [v1] at h; cases h
      · rw [updS_other hAB, v1] at hv'; cases hv'
        refine ⟨b, e1, e2, ?_⟩
        rw [updS_same]
        exact setRow_heap _ _ _ _ _ _ e3'
  · obtain ⟨v, v1, v2⟩ := hsv A (by simp) oA hA1
    obtain ⟨vB, vB1, _⟩ := hsv B (by simp) oB hB1
    have hv : v = f nA := v2 nA hA3
    obtain ⟨⟨l⟩, d⟩ := a0
    dsimp only at h2 ⊢
    rw [hsp]
    by_cases hb : ∃ b, f nA = .pointer (some ⟨b, 0, none⟩)
    · obtain ⟨b, hb⟩ := hb
      refine finS_mono (fun l' hl' => ?_) (h2 f b)
      unfold setsN setsN
      rw [setN_eq] at hl' ⊢
      rw [hb]
      intro w' hC hJ
      obtain ⟨b', e1, e2, e3⟩ := hJ.2 v v1
      rw [hv, hb] at e1
      simp only [Value.pointer.injEq, Option.some.injEq, Addr.mk.injEq, and_true] at e1
      subst e1
      rw [vB1] at e3
      exact hl' w' hC e2 e3
    · refine finS_mono (fun l' hl' => ?_) (h2 f 0)
      unfold setsN setsN
      dsimp only
      rw [setN_eq]
      intro w' hC hJ
      obtain ⟨b', e1, _⟩ := hJ.2 v v1
      exact absurd ⟨b', hv.symm.trans e1⟩ hb
end
end Go.Proofs.YtfpnjbomlmhlpaaGreat

/- Regions that draw their order, with one call whose value is not known ahead, and its assignment. -/
namespace Go.Proofs.YtfpnjbomlmhlpaaGreat
open Go.RowKit

theorem wp_of_enter {P : Program} {o : Oper} {a : Act} {K : Act → World → Prop} {Q' : Exit → Act → World → Prop} {w w' : World} {f : FuncId} {args : Array Value} (h : (execOp a.eval o).run P w = .ok (.enter f args) w') (hc : Calls P f args w' fun e w'' => ∃ v, e = .returned v ∧ K (a.put o.dst v) w'') : o.wp P a w K Q' := by
  unfold Oper.wp; rw [h]; unfold Oper.upon
  exact hc.mono fun e w'' ⟨v, he, hk⟩ => by subst he; exact hk
theorem enters_call {P : Program} {o : Oper} {a : Act} {c : Call} {f : FuncId} (ho : o.op = .call c) (hc : c.callee = .value (.func f)) {vs : List Value} (hx : c.args.toList.map a.eval = vs) (en : ∀ args w, (callFunc f args).run P w = .ok (.enter f args) w) (w : World) :
    (execOp a.eval o).run P w = .ok (.enter f vs.toArray) w := by
  have e1 : c.args.map a.eval = vs.toArray := by rw [← hx]; apply Array.ext'; simp
  have hf : a.eval (.func f) = .func (.func f) #[] #[] := rfl
  unfold execOp
  simp only [ho, resolve, hc, e1, hf, Deferred.ofValue, Sem.run_bind, Sem.run_pure, Result.andThen_ok, invoke, Array.empty_append, Array.append_empty, en]
/-- the value that comes, and where it goes -/
def JCA (A B : Nat) (V : Value → World → Prop) (s : Nat → Option Value) (w : World) : Prop :=
  (s A = none → s B = none) ∧ (∀ v, s A = some v → V v w) ∧ ∀ v, s B = some v → s A = some v
def argsAt (E : List Ob) (S : List Ent) : List Nat → List Value → Prop
  | [], [] => True
  | n :: ns, v :: vs => (match lookS S n with | some ⟨_, [], s⟩ => s.den E = v | _ => False) ∧ argsAt E S ns vs
  | _, _ => False
theorem argsAt_map {E : List Ob} {S : List Ent} {a : Act} : ∀ {ns : List Nat} {vs : List Value}, argsAt E S ns vs → (∀ n ∈ ns, ∀ e, lookS S n = some e → e.path = [] → a.eval (.tmp n) = e.sw.den E) → (ns.map Operand.tmp).map a.eval = vs
  | [], [], _, _ => rfl
  | n :: ns, v :: vs, h, hq => by
    obtain ⟨h1, h2⟩ := h
    rw [List.map_cons, List.map_cons, argsAt_map h2 fun m hm => hq m (List.mem_cons_of_mem _ hm)]
    split at h1
    · rename_i m s hl
      rw [hq n (List.mem_cons_self ..) _ hl rfl, h1]
    · cases h1
  | [], _ :: _, h, _ => by cases h
  | _ :: _, [], h, _ => by cases h
section
variable {a0 : Act} {ps : List (Nat × Nat)} {T : QTab} {E : List Ob} {hs : List (Nat × Hint)}
def evCa (a0 : Act) (E : List Ob) (W : World) (nA nB : Nat) (ns : List Nat) (vs : List Value) (V : Value → World → Prop) (outs : List (Nat × Value)) (Q : Act → World → Prop) (S : List Ent) : Prop :=
  argsAt E S ns vs ∧ ∀ (f : Nat → Value) (v : Value), match a0 with
    | ⟨⟨l⟩, d⟩ => finS E outs f S l fun l' => setN l' nB v fun l1 => setN l1 nA v fun l2 => ∀ w', Below W.heap.size W w' → V v w' → Q ⟨l2.toArray, d⟩ w'
theorem wp_region_ca {id : Nat} {Q : Exit → Act → World → Prop} {w : World} {ops : List Oper} (T : QTab) (hT : T.Ok) (E : List Ob) (ps : List (Nat × Nat)) (hs : List (Nat × Hint)) (outs : List (Nat × Value))
    (A B nA nB : Nat) (F : FuncId) (ns : List Nat) (vs : List Value) (V : Value → World → Prop)
    (hz : (ops.all fun o => match o.dst with | some n => decide (n < a0.tmps.size) | none => true) = true) (hm : Tryz.prog.follows .mixedOrders = true)
    (hst : (ordB ops.toArray && nodB (dstsL ops) && chkB ops.toArray (quietL [A, B] 0 ops) && depB [A, B] ops.toArray) = true)
    (hsp : spD [A, B] 0 ops = [nA, nB])
    (hA : ∃ o c, ops[A]? = some o ∧ o.op = .call c ∧ c.callee = .value (.func F) ∧ c.args.toList = ns.map Operand.tmp ∧ o.dst = some nA)
    (hB : ∃ o, ops[B]? = some o ∧ o.op = .assign (.tmp nA) ∧ o.dst = some nB ∧ ∃ e ∈ o.after, e.on = A ∧ Region.binds .any e = true)
    (hen : ∀ args w, (callFunc F args).run Tryz.prog w = .ok (.enter F args) w)
    (hV : ∀ v u u', V v u → Below u.heap.size u u' → V v u')
    (hcall : ∀ u, Below w.heap.size w u → Calls Tryz.prog F vs.toArray u fun e u' => ∃ v, e = .returned v ∧ V v u' ∧ Below u.heap.size u u')
    (hE : ObsIn (Below w.heap.size w) E) (P : psOk a0 E ps)
    (h : evL a0 ps T E (Below w.heap.size w) (fun u u' => Below u.heap.size u u') hs ops (evCa a0 E w nA nB ns vs V outs (Q .normal)) (quietL [A, B] 0 ops) []) : (Code.region id ops.toArray true).wp Tryz.prog Q a0 w := by
  obtain ⟨oA, cA, hA1, hA2, hA3, hA4, hA5⟩ := hA
  obtain ⟨oB, hB1, hB2, hB3, eB, hB4, hB5, hB6⟩ := hB
  have hAB : A ≠ B := fun e => by subst e; rw [hA1] at hB1; cases hB1; rw [hA2] at hB2; cases hB2
  have hst' := hst
  simp only [Bool.and_eq_true] at hst'
  obtain ⟨⟨⟨s1, s2⟩, s3⟩, s4⟩ := hst'
  have hsub : ∀ o ∈ quietL [A, B] 0 ops, o ∈ ops := fun o ho => by obtain ⟨k, hk, _⟩ := mem_quietL ho; exact List.mem_of_getElem? hk
  obtain ⟨S, H, af, I, ⟨h1, h2⟩, f1, f2, f3⟩ := evL_fin P hT hE hz _ [] [] a0 hsub s3 InvQ.start h
  refine mix_core [A, B] E (Below w.heap.size w) (fun u u' => Below u.heap.size u u') outs (JCA A B V) hz hm hst ((Below.refl _ _).drew) ⟨fun _ => rfl, fun v hv => (by cases hv), fun v hv => (by cases hv)⟩ (fun u u' h1 h2 => h1.trans (h2.mono h1.size)) (fun u _ => Below.refl _ _) (fun s u u' h1 h2 h3 => ⟨h2.1, fun v hv => hV v u u' (h2.2.1 v hv) h3, h2.2.2⟩) I ⟨⟨?_, ?_, trivial⟩, fun f s hsv => ?_⟩ f1 f2 f3
  · intro o a u s ho hC hJ hn hq _ hdep K hK
    rw [hA1] at ho; cases ho
    have hx : cA.args.toList.map a.eval = vs := by
      rw [hA4]
      refine argsAt_map h1 fun n hn' => hq n ?_
      unfold Oper.looksAt
      refine List.mem_append_left _ (List.mem_filterMap.2 ⟨.tmp n, ?_, rfl⟩)
      rw [hA2]
      unfold Op.operands
      have : Operand.tmp n ∈ cA.args.toList := by rw [hA4]; exact List.mem_map.2 ⟨n, hn', rfl⟩
      simp only [Call.operands, hA3]; simp at this; simp [this]
    refine wp_of_enter (enters_call hA2 hA3 hx hen u) ((hcall u hC).mono fun e u' ⟨v, he, hv, hb⟩ => ⟨v, he, ?_⟩)
    have hsB : s B = none := hJ.1 hn
    refine hK _ _ (hC.trans (hb.mono hC.size)) ⟨fun h => (by rw [updS_same] at h; cases h), fun v' hv' => ?_, fun v' hv' => ?_⟩
    · rw [updS_same] at hv'; cases hv'; exact hv
    · rw [updS_other (Ne.symm hAB), hsB] at hv'; cases hv'
  · intro o a u s ho hC hJ hn _ _ hdep K hK
    rw [hB1] at ho; cases ho
    obtain ⟨v, v1, v2⟩ := hdep eB hB4 hB6 (by rw [hB5]; simp)
    rw [hB5] at v1 v2
    have hx : a.eval (.tmp nA) = v := v2 oA nA hA1 hA5
    refine wp_of_run (v := v) (w' := u) ?_ ?_
    · unfold execOp; simp only [hB2, hx]; rfl
    · refine hK _ _ hC ⟨fun h => ?_, fun v' hv' => ?_, fun v' hv' => ?_⟩
      · rw [updS_other hAB] at h; rw [v1] at h; cases h
      · rw [updS_other hAB] at hv'; exact hJ.2.1 v' hv'
      · rw [updS_same] at hv'; cases hv'
        rw [updS_other hAB]; exact v1
  · obtain ⟨v, v1, v2⟩ := hsv A (by simp) oA hA1
    obtain ⟨vB, vB1, vB2⟩ := hsv B (by simp) oB hB1
    have hv : v = f nA := v2 nA hA5
    have hvB : vB = f nB := vB2 nB hB3
    obtain ⟨⟨l⟩, d⟩ := a0
    dsimp only at h2 ⊢
    rw [hsp]
    refine finS_mono (fun l' hl' => ?_) (h2 f v)
    unfold setsN setsN setsN
    rw [setN_eq] at hl' ⊢
    rw [setN_eq] at hl' ⊢
    intro w' hC hJ
    have hBA : vB = v := by have := hJ.2.2 vB vB1; rw [v1] at this; exact (Option.some.inj this).symm
    have := hl' w' hC (hJ.2.1 v v1)
    rw [← hvB, hBA, ← hv]
    exact this
end
end Go.Proofs.YtfpnjbomlmhlpaaGreat

/- Regions that draw their order, in which one operation writes memory that is there. -/
namespace Go.Proofs.YtfpnjbomlmhlpaaGreat
open Go.RowKit

/-- one cell is written -/
theorem run_storeAt_one {ty : TypeId} {w : World} {b o : Nat} {x c : Value} (hc : w.cell? ⟨b, o, none⟩ = some c) (hf : w.frozen? ⟨b, o, none⟩ = false) (hi : (Tryz.prog.info? ty).map (·.size) = some 1) (h1 : x.oneCell' = true) (h2 : x.cells = #[x]) :
    (Instr.storeAt ty (.pointer (some ⟨b, o, none⟩)) x).run Tryz.prog w = .ok () (w.setCell ⟨b, o, none⟩ x) := by
  have := run_storeCells_cells (P := Tryz.prog) b o [x] 0 w (fun j hj => by simp at hj; subst hj; simp [hc]) (fun j hj => by simp at hj; subst hj; simpa using hf) (fun v hv => by simp at hv; subst hv; exact h1)
  cases hq : Tryz.prog.info? ty with
  | none => simp [hq] at hi
  | some i =>
    have hs : i.size = 1 := by simp [hq] at hi; omega
    simp only [Nat.add_zero] at this
    have hcl : x.cells.toList = [x] := by rw [h2]
    have hsz : x.cells.size = 1 := by rw [h2]; rfl
    simp only [Instr.storeAt, Instr.sureAddr, storeVar, sizeOf, typeInfo, Sem.run_bind, Sem.run_pure, Result.andThen_ok, run_program, hq, hcl, hs, hsz, ne_eq, not_true_eq_false, if_false, this]
    rfl
def JST (A : Nat) (Pre Post : World → Prop) (s : Nat → Option Value) (w : World) : Prop := (s A = none → Pre w) ∧ ∀ v, s A = some v → Post w
def slotAt (a0 : Act) (E : List Ob) (ops : List Oper) (S : List Ent) (n : Nat) (v : Value) : Prop := match lookS S n with
  | some ⟨_, [], s⟩ => s.den E = v
  | some _ => False
  | none => (dstsL ops).contains n = false ∧ a0.eval (.tmp n) = v
section
variable {a0 : Act} {ps : List (Nat × Nat)} {T : QTab} {E : List Ob} {hs : List (Nat × Hint)}
def evSt (a0 : Act) (E : List Ob) (C : World → Prop) (ops : List Oper) (nP nX : Nat) (p x : Value) (Post : World → Prop) (outs : List (Nat × Value)) (Q : Act → World → Prop) (S : List Ent) : Prop :=
  (slotAt a0 E ops S nP p ∧ slotAt a0 E ops S nX x) ∧ ∀ (f : Nat → Value), match a0 with
    | ⟨⟨l⟩, d⟩ => finS E outs f S l fun l' => ∀ w', C w' → Post w' → Q ⟨l'.toArray, d⟩ w'
theorem reg_st {Q : Exit → Act → World → Prop} {w : World} {ops : List Oper} (T : QTab) (hT : T.Ok) (E : List Ob) (C : World → Prop) (R : World → World → Prop) (ps : List (Nat × Nat)) (hs : List (Nat × Hint)) (outs : List (Nat × Value))
    (A nP nX : Nat) (ty : TypeId) (p x : Value) (Pre Post : World → Prop)
    (hz : (ops.all fun o => match o.dst with | some n => decide (n < a0.tmps.size) | none => true) = true)
    (hst : (ordB ops.toArray && nodB (dstsL ops) && chkB ops.toArray (quietL [A] 0 ops) && depB [A] ops.toArray) = true)
    (hsp : spD [A] 0 ops = [])
    (hA : ∃ o, ops[A]? = some o ∧ o.op = .store ty (.tmp nP) (.tmp nX) ∧ o.dst = none)
    (hC : C w.drew) (hPre : Pre w.drew) (hR : ∀ u u', C u → R u u' → C u') (hRd : ∀ u, C u → R u u)
    (hPreR : ∀ u u', C u → Pre u → R u u' → Pre u') (hPostR : ∀ u u', C u → Post u → R u u' → Post u')
    (hstore : ∀ u, C u → Pre u → ∃ u', (Instr.storeAt ty p x).run Tryz.prog u = .ok () u' ∧ C u' ∧ Post u')
    (hE : ObsIn C E) (P : psOk a0 E ps)
    (h : evL a0 ps T E C R hs ops (evSt a0 E C ops nP nX p x Post outs (Q .normal)) (quietL [A] 0 ops) []) : RegI Tryz.prog ops.toArray Q a0 w := by
  obtain ⟨oA, hA1, hA2, hA3⟩ := hA
  have hst' := hst
  simp only [Bool.and_eq_true] at hst'
  obtain ⟨⟨⟨s1, s2⟩, s3⟩, s4⟩ := hst'
  have hsub : ∀ o ∈ quietL [A] 0 ops, o ∈ ops := fun o ho => by obtain ⟨k, hk, _⟩ := mem_quietL ho; exact List.mem_of_getElem? hk
  obtain ⟨S, H, af, I, ⟨⟨h1, h1'⟩, h2⟩, f1, f2, f3⟩ := evL_fin P hT hE hz _ [] [] a0 hsub s3 InvQ.start h
  refine mix_coreI [A] E C R outs (JST A Pre Post) hz hst C (fun _ _ _ _ _ _ _ _ _ h _ => h) hC ⟨fun _ => hPre, fun v hv => (by cases hv)⟩ hR hRd (fun s u u' g1 g2 g3 => ⟨fun hn => hPreR u u' g1 (g2.1 hn) g3, fun v hv => hPostR u u' g1 (g2.2 v hv) g3⟩) I ⟨⟨?_, trivial⟩, fun f s hsv => ?_⟩ f1 f2 f3
  · intro o a u s ho hCu hJ hn hq hold hdep K hK
    rw [hA1] at ho; cases ho
    have val : ∀ n v, slotAt a0 E ops S n v → n ∈ oA.looksAt ops.toArray → a.eval (.tmp n) = v := by
      intro n v hs hl
      unfold slotAt at hs
      split at hs
      · rename_i m s' hl'
        rw [← hs]; exact hq n hl _ hl' rfl
      · cases hs
      · rw [hold n (by simpa using hs.1)]; exact hs.2
    have e1 := val nP p h1 (by unfold Oper.looksAt; rw [hA2]; simp [Op.operands])
    have e2 := val nX x h1' (by unfold Oper.looksAt; rw [hA2]; simp [Op.operands])
    obtain ⟨u', r1, r2, r3⟩ := hstore u hCu (hJ.1 hn)
    refine wp_of_skip (w' := u') ?_ ?_
    · unfold execOp
      simp only [hA2, Sem.run_bind, e1, e2, r1]; rfl
    · refine hK _ _ r2 ⟨fun h => (by rw [updS_same] at h; cases h), fun v hv => r3⟩
  · obtain ⟨v, v1, _⟩ := hsv A (by simp) oA hA1
    obtain ⟨⟨l⟩, d⟩ := a0
    dsimp only at h2 ⊢
    rw [hsp]
    refine finS_mono (fun l' hl' => ?_) (h2 f)
    unfold setsN
    intro w' hC' hJ
    exact hl' w' hC' (hJ.2 v v1)
theorem wp_region_st {id : Nat} {Q : Exit → Act → World → Prop} {w : World} {ops : List Oper} (T : QTab) (hT : T.Ok) (E : List Ob) (C : World → Prop) (R : World → World → Prop) (ps : List (Nat × Nat)) (hs : List (Nat × Hint)) (outs : List (Nat × Value))
    (A nP nX : Nat) (ty : TypeId) (p x : Value) (Pre Post : World → Prop)
    (hz : (ops.all fun o => match o.dst with | some n => decide (n < a0.tmps.size) | none => true) = true) (hm : Tryz.prog.follows .mixedOrders = true)
    (hst : (ordB ops.toArray && nodB (dstsL ops) && chkB ops.toArray (quietL [A] 0 ops) && depB [A] ops.toArray) = true)
    (hsp : spD [A] 0 ops = [])
    (hA : ∃ o, ops[A]? = some o ∧ o.op = .store ty (.tmp nP) (.tmp nX) ∧ o.dst = none)
    (hC : C w.drew) (hPre : Pre w.drew) (hR : ∀ u u', C u → R u u' → C u') (hRd : ∀ u, C u → R u u)
    (hPreR : ∀ u u', C u → Pre u → R u u' → Pre u') (hPostR : ∀ u u', C u → Post u → R u u' → Post u')
    (hstore : ∀ u, C u → Pre u → ∃ u', (Instr.storeAt ty p x).run Tryz.prog u = .ok () u' ∧ C u' ∧ Post u')
    (hE : ObsIn C E) (P : psOk a0 E ps)
    (h : evL a0 ps T E C R hs ops (evSt a0 E C ops nP nX p x Post outs (Q .normal)) (quietL [A] 0 ops) []) : (Code.region id ops.toArray true).wp Tryz.prog Q a0 w := by
  have hst' := hst
  simp only [Bool.and_eq_true] at hst'
  exact (reg_st T hT E C R ps hs outs A nP nX ty p x Pre Post hz hst hsp hA hC hPre hR hRd hPreR hPostR hstore hE P h).wp hm hst'.1.1.1
end
end Go.Proofs.YtfpnjbomlmhlpaaGreat

/- The types of schedules, as the walk of regions wants them. -/
namespace Go.Proofs.YtfpnjbomlmhlpaaGreat
open Go.RowKit

def sqFo : TypeId → Nat → Option Nat
  | 72, 0 => some 0
  | 72, 1 => some 1
  | 72, 2 => some 2
  | 72, 3 => some 3
  | 59, 0 => some 0
  | 59, 1 => some 1
  | 59, 2 => some 2
  | 67, 0 => some 0
  | 67, 1 => some 1
  | 67, 2 => some 2
  | 67, 3 => some 3
  | _, _ => none
theorem sqFo_ok (t f d : Nat) (h : sqFo t f = some d) (b off : Nat) (w : World) : (Instr.fieldAt t (.pointer (some ⟨b, off, none⟩)) f).run Tryz.prog w = .ok (.pointer (some ⟨b, off + d, none⟩)) w := by
  unfold sqFo at h
  split at h
  all_goals first | (cases h; done) | (cases h; go_simp)
def sqSc : TypeId → Bool
  | 3 => true
  | 9 => true
  | 4 => true
  | 37 => true
  | 43 => true
  | 65 => true
  | 84 => true
  | 64 => true
  | 33 => true
  | 40 => true
  | 76 => true
  | 61 => true
  | 87 => true
  | _ => false
theorem agg_of {t : TypeId} {d : TypeDesc} (h : Tryz.prog.underlying t = some d) (hd : (match d with | .struct _ | .array _ _ => true | _ => false) = false) (w : World) : (isAgg t).run Tryz.prog w = .ok false w := by
  unfold isAgg; rw [Sem.run_bind, run_underlying h w]; cases d <;> simp_all
theorem load_of {t : TypeId} (h : ∀ w, (isAgg t).run Tryz.prog w = .ok false w) (p : Addr) (v : Value) (w : World) (hc : w.cell? p = some v) : (Instr.loadAt t (.pointer (some p))).run Tryz.prog w = .ok v w := by
  simp only [Instr.loadAt, Instr.sureAddr, Sem.run_bind, Sem.run_pure, Result.andThen_ok, loadVar, h]
  go_simp
theorem sqSc_ok (t : TypeId) (h : sqSc t = true) (p : Addr) (v : Value) (w : World) (hc : w.cell? p = some v) : (Instr.loadAt t (.pointer (some p))).run Tryz.prog w = .ok v w := by
  unfold sqSc at h
  split at h
  · exact load_of (agg_of Tryz.underlying3 rfl) p v w hc
  · exact load_of (agg_of Tryz.underlying9 rfl) p v w hc
  · exact load_of (agg_of Tryz.underlying4 rfl) p v w hc
  · exact load_of (agg_of Tryz.underlying37 rfl) p v w hc
  · exact load_of (agg_of Tryz.underlying43 rfl) p v w hc
  · exact load_of (agg_of Tryz.underlying65 rfl) p v w hc
  · exact load_of (agg_of Tryz.underlying84 rfl) p v w hc
  · exact load_of (agg_of Tryz.underlying64 rfl) p v w hc
  · exact load_of (agg_of Tryz.underlying33 rfl) p v w hc
  · exact load_of (agg_of Tryz.underlying40 rfl) p v w hc
  · exact load_of (agg_of Tryz.underlying76 rfl) p v w hc
  · exact load_of (agg_of Tryz.underlying61 rfl) p v w hc
  · exact load_of (agg_of Tryz.underlying87 rfl) p v w hc
  · cases h
def sqAg : TypeId → Option Nat
  | 72 => some 4
  | 59 => some 3
  | 86 => some 2
  | 28 => some 6
  | _ => none
theorem sqAg_ok (t : TypeId) (m : Nat) (h : sqAg t = some m) (b off : Nat) (cs : List Value) (w : World) (hl : cs.length = m) (hr : w.rangeAt b off cs) : (Instr.loadAt t (.pointer (some ⟨b, off, none⟩))).run Tryz.prog w = .ok (.agg cs.toArray) w := by
  unfold sqAg at h
  split at h
  · exact run_loadAt_mid w b off _ cs _ hr Tryz.underlying72 rfl (by rw [hl]; cases h; kernel_rfl)
  · exact run_loadAt_mid w b off _ cs _ hr Tryz.underlying59 rfl (by rw [hl]; cases h; kernel_rfl)
  · exact run_loadAt_mid w b off _ cs _ hr Tryz.underlying86 rfl (by rw [hl]; cases h; kernel_rfl)
  · exact run_loadAt_mid w b off _ cs _ hr Tryz.underlying28 rfl (by rw [hl]; cases h; kernel_rfl)
  · cases h
def sqEs : TypeId → Option Nat
  | 40 => some 4
  | 33 => some 3
  | 65 => some 1
  | 43 => some 1
  | 84 => some 1
  | 64 => some 1
  | 76 => some 2
  | _ => none
theorem sqEs_ok (t : TypeId) (q : Nat) (h : sqEs t = some q) (b off l c j : Nat) (w : World) (hj : j < l) : (Instr.indexAt t (.slice (some ⟨b, off, none⟩) l c) (.int .i64 j)).run Tryz.prog w = .ok (.pointer (some ⟨b, off + j * q, none⟩)) w := by
  have i1 : (j : Int) < l := by omega
  unfold sqEs at h
  split at h
  all_goals first | (cases h; done) | (cases h; go_simp)
def sqLn : TypeId → Bool
  | 40 => true
  | 33 => true
  | 65 => true
  | 43 => true
  | 84 => true
  | 64 => true
  | 76 => true
  | _ => false
theorem sqLn_ok (t : TypeId) (h : sqLn t = true) (a : Option Addr) (n c : Nat) (ty : TypeId) (w : World) : (Builtin.len_ #[t] ty #[.slice a n c]).run Tryz.prog w = .ok (.int .i64 n) w := by
  unfold sqLn at h
  split at h
  all_goals first | (cases h; done) | go_simp
theorem sqSl_ok (t : TypeId) (h : sqLn t = true) (a : Option Addr) (n c j : Nat) (w : World) (hj : j ≤ c) : (Instr.sliceAt t (.slice a n c) none (some (.int .i64 j)) none).run Tryz.prog w = .ok (.slice a j c) w := by
  have i1 : (j : Int) ≤ c := by omega
  unfold sqLn at h
  split at h
  all_goals first | (cases h; done) | go_simp
def sqEn : FuncId → Bool
  | 39 => true
  | 65 => true
  | 67 => true
  | 28 => true
  | 29 => true
  | 38 => true
  | 43 => true
  | 83 => true
  | 14 => true
  | 78 => true
  | 68 => true
  | 76 => true
  | _ => false
theorem sqEn_ok (f : FuncId) (h : sqEn f = true) (args : Array Value) (w : World) : (callFunc f args).run Tryz.prog w = .ok (.enter f args) w := by
  unfold sqEn at h
  split at h
  · exact enters_of Tryz.func39 (by kernel_rfl) rfl args w
  · exact enters_of Tryz.func65 (by kernel_rfl) rfl args w
  · exact enters_of Tryz.func67 (by kernel_rfl) rfl args w
  · exact enters_of Tryz.func28 (by kernel_rfl) rfl args w
  · exact enters_of Tryz.func29 (by kernel_rfl) rfl args w
  · exact enters_of Tryz.func38 (by kernel_rfl) rfl args w
  · exact enters_of Tryz.func43 (by kernel_rfl) rfl args w
  · exact enters_of Tryz.func83 (by kernel_rfl) rfl args w
  · exact enters_of Tryz.func14 (by kernel_rfl) rfl args w
  · exact enters_of Tryz.func78 (by kernel_rfl) rfl args w
  · exact enters_of Tryz.func68 (by kernel_rfl) rfl args w
  · exact enters_of Tryz.func76 (by kernel_rfl) rfl args w
  · cases h
def sqT : QTab := ⟨sqFo, sqSc, sqAg, sqEs, sqLn, sqEn, sqLn, false⟩
theorem sqT_ok : sqT.Ok := ⟨sqFo_ok, sqSc_ok, sqAg_ok, sqEs_ok, sqLn_ok, sqEn_ok, sqSl_ok⟩
/-! what the objects of a region hold -/
theorem obsN {C : World → Prop} : ObsIn C [] := fun w _ k j v h => by
  have e : (obi [] k).cells = [] := by cases k <;> rfl
  rw [e] at h; cases h
theorem obsC {C : World → Prop} {x : Ob} {E : List Ob} (hx : ∀ w, C w → w.rangeAt x.b x.off x.cells) (h : ObsIn C E) : ObsIn C (x :: E) := fun w hw k => by
  cases k with
  | zero => exact hx w hw
  | succ k => exact h w hw k
theorem rangeKeep {w w' : World} {b off : Nat} {cs : List Value} (h : w.rangeAt b off cs) (hb : Below w.heap.size w w') : w'.rangeAt b off cs := fun j v hv => cell_keep hb (h j v hv)
theorem range_new {w : World} {xs : Array Value} {e : TypeId} {b : Nat} (h : ObjAt w b xs e) : w.rangeAt b 0 xs.toList := fun j v hv => by
  rw [Nat.zero_add, h.cell, ← Array.getElem?_toList]; exact hv
theorem intR {w : World} {b off : Nat} {v : Value} (h : w.cell? ⟨b, off, none⟩ = some v) : w.rangeAt b off [v] := fun j u hj => by
  match j with
  | 0 => cases hj; exact h
  | j + 1 => cases hj
end Go.Proofs.YtfpnjbomlmhlpaaGreat

/- Erection schedules: plain. -/
namespace Go.Proofs.YtfpnjbomlmhlpaaGreat

structure Hst where
  block : List UInt8
  hours : Int
  cranes : List (List UInt8)
instance : Inhabited Hst := ⟨⟨[], 0, []⟩⟩
structure Ern where
  block : List UInt8
  crane : List UInt8
  a : Int
  b : Int
instance : Inhabited Ern := ⟨⟨[], [], 0, 0⟩⟩
def hsi (J : List Hst) (i : Nat) : Hst := J.getD i default
theorem hsi_lt {J : List Hst} {i : Nat} (h : i < J.length) : hsi J i = J[i] := by simp [hsi, h]
theorem hsi_mem {J : List Hst} {i : Nat} (h : i < J.length) : hsi J i ∈ J := by rw [hsi_lt h]; exact List.getElem_mem h
def jobI (J : List Hst) (s : List UInt8) : Nat := J.findIdx (·.block == s)
def hasB (l : List Ern) (s : List UInt8) : Bool := l.any fun x => x.block == s
abbrev Bef := Nat → Nat → Bool
def startF (J : List Hst) (B : Bef) (fr : Int) (l : List Ern) (i : Nat) (c : List UInt8) : Int := l.foldl (fun t x => if x.crane == c || B (jobI J x.block) i then max t x.b else t) fr
def planned (J : List Hst) (B : Bef) (fr : Int) (l : List Ern) (i : Nat) (c : List UInt8) : Ern := ⟨(hsi J i).block, c, startF J B fr l i c, startF J B fr l i c + (hsi J i).hours⟩
def nextB (J : List Hst) (B : Bef) (l : List Ern) (i : Nat) : Bool := !hasB l (hsi J i).block && (List.range J.length).all fun k => !B k i || hasB l (hsi J k).block
inductive Reach (J : List Hst) (B : Bef) (fr : Int) : List Ern → Prop
  | nil : Reach J B fr []
  | snoc {l i c} : Reach J B fr l → i < J.length → nextB J B l i = true → c ∈ (hsi J i).cranes → Reach J B fr (l ++ [planned J B fr l i c])
/-- what is known of jobs that are right -/
structure JobsOK (J : List Hst) : Prop where
  nd : (J.map (·.block)).Nodup
  hr : ∀ j ∈ J, 1 ≤ j.hours ∧ j.hours ≤ 10000
  cr : ∀ j ∈ J, j.cranes ≠ []
theorem jobI_at {J : List Hst} (h : (J.map (·.block)).Nodup) {i : Nat} (hi : i < J.length) : jobI J (hsi J i).block = i := by
  unfold jobI
  rw [List.findIdx_eq hi]
  refine ⟨by rw [hsi_lt hi]; simp, fun j hj => ?_⟩
  rw [beq_eq_false_iff_ne]
  intro e
  rw [hsi_lt hi] at e
  rw [List.nodup_iff_pairwise_ne, List.pairwise_map] at h
  exact List.pairwise_iff_getElem.1 h j i (by omega) hi hj e
theorem jobI_lt {J : List Hst} {s : List UInt8} (h : s ∈ J.map (·.block)) : jobI J s < J.length ∧ (hsi J (jobI J s)).block = s := by
  have h1 : jobI J s < J.length := by
    unfold jobI
    rw [List.findIdx_lt_length]
    obtain ⟨j, hj, rfl⟩ := List.mem_map.1 h
    exact ⟨j, hj, by simp⟩
  refine ⟨h1, ?_⟩
  rw [hsi_lt h1]
  have := List.findIdx_getElem (w := h1)
  exact eq_of_beq this
theorem hasB_iff {l : List Ern} {s : List UInt8} : hasB l s = true ↔ s ∈ l.map (·.block) := by
  unfold hasB
  rw [List.any_eq_true, List.mem_map]
  exact ⟨fun ⟨x, h1, h2⟩ => ⟨x, h1, eq_of_beq h2⟩, fun ⟨x, h1, h2⟩ => ⟨x, h1, by simp [h2]⟩⟩
/-- starts: above the bound and the ends of those that matter -/
theorem start_fold (J : List Hst) (B : Bef) (i : Nat) (c : List UInt8) : ∀ (l : List Ern) (t : Int), t ≤ startF J B t l i c ∧ ∀ x ∈ l, (x.crane == c || B (jobI J x.block) i) = true → x.b ≤ startF J B t l i c
  | [], t => ⟨Int.le_refl _, fun x hx => by cases hx⟩
  | y :: l, t => by
    have e : startF J B t (y :: l) i c = startF J B (if (y.crane == c || B (jobI J y.block) i) = true then max t y.b else t) l i c := rfl
    obtain ⟨h1, h2⟩ := start_fold J B i c l (if (y.crane == c || B (jobI J y.block) i) = true then max t y.b else t)
    rw [e]
    refine ⟨Int.le_trans ?_ h1, fun x hx hq => ?_⟩
    · split <;> omega
    · rcases List.mem_cons.1 hx with rfl | hx
      · rw [if_pos hq] at h1 ⊢; omega
      · exact h2 x hx hq
theorem start_le (J : List Hst) (B : Bef) (i : Nat) (c : List UInt8) {N : Int} : ∀ (l : List Ern) (t : Int), t ≤ N → (∀ x ∈ l, x.b ≤ N) → startF J B t l i c ≤ N
  | [], t, h, _ => h
  | y :: l, t, h, hl => by
    have e : startF J B t (y :: l) i c = startF J B (if (y.crane == c || B (jobI J y.block) i) = true then max t y.b else t) l i c := rfl
    rw [e]
    refine start_le J B i c l _ ?_ fun x hx => hl x (List.mem_cons_of_mem _ hx)
    have := hl y (List.mem_cons_self ..)
    split <;> omega
/-- what holds of an entry -/
structure EntW (J : List Hst) (fr : Int) (n : Nat) (x : Ern) : Prop where
  job : ∃ i, i < J.length ∧ x.block = (hsi J i).block ∧ x.crane ∈ (hsi J i).cranes ∧ x.b = x.a + (hsi J i).hours
  ge : fr ≤ x.a
  le : x.b ≤ fr + n * 10000
def Apart (J : List Hst) (B : Bef) (x y : Ern) : Prop := (x.crane = y.crane → x.b ≤ y.a) ∧ (B (jobI J x.block) (jobI J y.block) = true → x.b ≤ y.a) ∧ B (jobI J y.block) (jobI J x.block) = false
structure RInv (J : List Hst) (B : Bef) (fr : Int) (l : List Ern) : Prop where
  ent : ∀ x ∈ l, EntW J fr l.length x
  nd : (l.map (·.block)).Nodup
  ap : l.Pairwise (Apart J B)
theorem EntW.mono {J : List Hst} {fr : Int} {n m : Nat} {x : Ern} (h : EntW J fr n x) (hm : n ≤ m) : EntW J fr m x := ⟨h.job, h.ge, by have := h.le; omega⟩
theorem EntW.block {J : List Hst} {fr : Int} {n : Nat} {x : Ern} (h : EntW J fr n x) : x.block ∈ J.map (·.block) := by
  obtain ⟨i, hi, e, _⟩ := h.job
  rw [e]; exact List.mem_map_of_mem (hsi_mem hi)
theorem Reach.inv {J : List Hst} {B : Bef} {fr : Int} (hJ : JobsOK J) {l : List Ern} (h : Reach J B fr l) : RInv J B fr l := by
  induction h with
  | nil => exact ⟨fun x hx => (by cases hx), List.nodup_nil, .nil⟩
  | @snoc l i c h hi hn hc ih =>
    have hlen : (l ++ [planned J B fr l i c]).length = l.length + 1 := by simp
    obtain ⟨s1, s2⟩ := start_fold J B i c l fr
    have hhr := hJ.hr _ (hsi_mem hi)
    have hle := start_le J B i c (N := fr + l.length * 10000) l fr (by omega) fun x hx => (ih.ent x hx).le
    unfold nextB at hn
    rw [Bool.and_eq_true, Bool.not_eq_true', List.all_eq_true] at hn
    obtain ⟨hn1, hn2⟩ := hn
    have hnew : (hsi J i).block ∉ l.map (·.block) := by
      intro h; rw [hasB_iff.2 h] at hn1; cases hn1
    refine ⟨fun x hx => ?_, ?_, ?_⟩
    · rw [hlen]
      rcases List.mem_append.1 hx with hx | hx
      · exact (ih.ent x hx).mono (by omega)
      · rw [List.mem_singleton.1 hx]
        refine ⟨⟨i, hi, rfl, hc, rfl⟩, s1, ?_⟩
        show startF J B fr l i c + (hsi J i).hours ≤ _
        omega
    · rw [List.map_append]
      exact List.nodup_append.2 ⟨ih.nd, by simp, fun x hx y hy => by simp at hy; subst hy; intro e; subst e; exact hnew hx⟩
    · rw [List.pairwise_append]
      refine ⟨ih.ap, by simp, fun x hx y hy => ?_⟩
      rw [List.mem_singleton.1 hy]
      have hjob : jobI J (planned J B fr l i c).block = i := jobI_at hJ.nd hi
      refine ⟨fun e => s2 x hx (by rw [show (x.crane == c) = true from by rw [e]; exact beq_self_eq_true c]; rfl), fun e => s2 x hx (by rw [hjob] at e; rw [e, Bool.or_true]), ?_⟩
      rw [hjob]
      cases hb : B i (jobI J x.block)
      · rfl
      · -- x was planned ahead of i, so that all before x were
        exfalso
        have key : ∀ {l : List Ern}, Reach J B fr l → ∀ x ∈ l, ∀ k, k < J.length → B k (jobI J x.block) = true → (hsi J k).block ∈ l.map (·.block) := by
          intro l hl
          induction hl with
          | nil => intro x hx; cases hx
          | @snoc l j d hl hj hnj hd ihl =>
            intro x hx k hk hB
            rw [List.map_append]
            rcases List.mem_append.1 hx with hx | hx
            · exact List.mem_append_left _ (ihl x hx k hk hB)
            · rw [List.mem_singleton.1 hx] at hB
              have hj2 : jobI J (planned J B fr l j d).block = j := jobI_at hJ.nd hj
              rw [hj2] at hB
              unfold nextB at hnj
              rw [Bool.and_eq_true, List.all_eq_true] at hnj
              have := hnj.2 k (List.mem_range.2 hk)
              rw [hB] at this
              exact List.mem_append_left _ (hasB_iff.1 (by simpa using this))
        exact hnew (key h x hx i hi hb)
theorem Reach.len {J : List Hst} {B : Bef} {fr : Int} (hJ : JobsOK J) {l : List Ern} (h : Reach J B fr l) : l.length ≤ J.length := by
  have hi := h.inv hJ
  have key : ∀ (xs ys : List (List UInt8)), xs.Nodup → (∀ x ∈ xs, x ∈ ys) → xs.length ≤ ys.length := by
    intro xs
    induction xs with
    | nil => intro ys _ _; simp
    | cons x xs ih =>
      intro ys hn hs
      rw [List.nodup_cons] at hn
      have hx := hs x (List.mem_cons_self ..)
      have := ih (ys.erase x) hn.2 fun y hy => (List.mem_erase_of_ne (fun e => hn.1 (by rw [← e]; exact hy))).2 (hs y (List.mem_cons_of_mem _ hy))
      rw [List.length_erase_of_mem hx] at this
      have hp : 0 < ys.length := List.length_pos_of_mem hx
      simp only [List.length_cons]; omega
  have := key (l.map (·.block)) (J.map (·.block)) hi.nd fun s hs => by
    obtain ⟨x, hx, rfl⟩ := List.mem_map.1 hs
    exact (hi.ent x hx).block
  simpa using this
theorem full_mem : ∀ (xs ys : List (List UInt8)), xs.Nodup → (∀ x ∈ xs, x ∈ ys) → ys.length ≤ xs.length → ∀ y ∈ ys, y ∈ xs
  | [], ys, _, _, hl => fun y hy => by
    have := List.length_pos_of_mem hy
    simp at hl; rw [hl] at hy; cases hy
  | x :: xs, ys, hn, hs, hl => fun y hy => by
    rw [List.nodup_cons] at hn
    have hx := hs x (List.mem_cons_self ..)
    by_cases e : y = x
    · rw [e]; exact List.mem_cons_self ..
    refine List.mem_cons_of_mem _ (full_mem xs (ys.erase x) hn.2 (fun z hz => (List.mem_erase_of_ne (fun e => hn.1 (by rw [← e]; exact hz))).2 (hs z (List.mem_cons_of_mem _ hz))) ?_ y ((List.mem_erase_of_ne e).2 hy))
    rw [List.length_erase_of_mem hx]
    simp only [List.length_cons] at hl; omega
/-- all jobs are planned -/
theorem Reach.all {J : List Hst} {B : Bef} {fr : Int} (hJ : JobsOK J) {l : List Ern} (h : Reach J B fr l) (hl : l.length = J.length) {i : Nat} (hi : i < J.length) : ∃ x ∈ l, x.block = (hsi J i).block := by
  have hv := h.inv hJ
  have := full_mem (l.map (·.block)) (J.map (·.block)) hv.nd (fun s hs => by
    obtain ⟨x, hx, rfl⟩ := List.mem_map.1 hs
    exact (hv.ent x hx).block) (by simp [hl]) (hsi J i).block (List.mem_map_of_mem (hsi_mem hi))
  obtain ⟨x, h1, h2⟩ := List.mem_map.1 this
  exact ⟨x, h1, h2⟩
theorem apart_all {J : List Hst} {B : Bef} (hirr : ∀ i, B i i = false) {l : List Ern} (h : l.Pairwise (Apart J B)) {x y : Ern} (hx : x ∈ l) (hy : y ∈ l) (hB : B (jobI J x.block) (jobI J y.block) = true) : x.b ≤ y.a := by
  induction l with
  | nil => cases hx
  | cons z l ih =>
    rw [List.pairwise_cons] at h
    rcases List.mem_cons.1 hx with rfl | hx'
    · rcases List.mem_cons.1 hy with rfl | hy'
      · rw [hirr] at hB; cases hB
      · exact (h.1 y hy').2.1 hB
    · rcases List.mem_cons.1 hy with rfl | hy'
      · have := (h.1 x hx').2.2; rw [hB] at this; cases this
      · exact ih h.2 hx' hy'
/-! the end -/
def endF : List Ern → Int
  | [] => 0
  | x :: l => l.foldl (fun m y => max m y.b) x.b
theorem fold_end : ∀ (l : List Ern) (m : Int), m ≤ l.foldl (fun m y => max m y.b) m ∧ (∀ x ∈ l, x.b ≤ l.foldl (fun m y => max m y.b) m) ∧ ∀ N, m ≤ N → (∀ x ∈ l, x.b ≤ N) → l.foldl (fun m y => max m y.b) m ≤ N
  | [], m => ⟨Int.le_refl _, fun x hx => (by cases hx), fun N h _ => h⟩
  | y :: l, m => by
    obtain ⟨h1, h2, h3⟩ := fold_end l (max m y.b)
    rw [List.foldl_cons]
    refine ⟨by omega, fun x hx => ?_, fun N hN hx => ?_⟩
    · rcases List.mem_cons.1 hx with rfl | hx
      · omega
      · exact h2 x hx
    · have := hx y (List.mem_cons_self ..)
      exact h3 N (by omega) fun x h => hx x (List.mem_cons_of_mem _ h)
theorem end_ge {l : List Ern} {x : Ern} (h : x ∈ l) : x.b ≤ endF l := by
  cases l with
  | nil => cases h
  | cons y l =>
    obtain ⟨h1, h2, _⟩ := fold_end l y.b
    rcases List.mem_cons.1 h with rfl | h
    · exact h1
    · exact h2 x h
theorem end_le {l : List Ern} {N : Int} (hN : 0 ≤ N) (h : ∀ x ∈ l, x.b ≤ N) : endF l ≤ N := by
  cases l with
  | nil => exact hN
  | cons y l => exact (fold_end l y.b).2.2 N (h y (List.mem_cons_self ..)) fun x hx => h x (List.mem_cons_of_mem _ hx)
theorem end_snoc (l : List Ern) (x : Ern) : endF (l ++ [x]) = if l = [] then x.b else max (endF l) x.b := by
  cases l with
  | nil => rfl
  | cons y l => rw [if_neg (by simp)]; show (l ++ [x]).foldl _ _ = _; rw [List.foldl_append]; rfl
theorem end_nonneg {J : List Hst} {B : Bef} {fr : Int} (hJ : JobsOK J) (hf : 0 ≤ fr) {l : List Ern} (h : Reach J B fr l) : 0 ≤ endF l := by
  cases l with
  | nil => exact Int.le_refl _
  | cons y l =>
    have h1 := (h.inv hJ).ent y (List.mem_cons_self ..)
    obtain ⟨i, hi, _, _, e⟩ := h1.job
    have := hJ.hr _ (hsi_mem hi)
    have := h1.ge
    have := end_ge (l := y :: l) (List.mem_cons_self ..)
    omega
theorem end_prefix {J : List Hst} {B : Bef} {fr : Int} (hJ : JobsOK J) (hf : 0 ≤ fr) {l a : List Ern} (ha : Reach J B fr a) (hp : l <+: a) : endF l ≤ endF a :=
  end_le (end_nonneg hJ hf ha) fun x hx => end_ge (hp.subset hx)
theorem Reach.back {J : List Hst} {B : Bef} {fr : Int} : ∀ {a : List Ern}, Reach J B fr a → ∀ {l : List Ern}, l <+: a → Reach J B fr l := by
  intro a h
  induction h with
  | nil => intro l hl; rw [List.prefix_nil.1 hl]; exact .nil
  | @snoc l' i c h hi hn hc ih =>
    intro l hl
    rcases List.prefix_concat_iff.1 hl with rfl | hl
    · exact .snoc h hi hn hc
    · exact ih hl
/-- the next entry of what begins with a list -/
theorem Reach.child {J : List Hst} {B : Bef} {fr : Int} {a l : List Ern} (h : Reach J B fr a) (hl : l <+: a) (hne : l ≠ a) : ∃ i c, i < J.length ∧ nextB J B l i = true ∧ c ∈ (hsi J i).cranes ∧ (l ++ [planned J B fr l i c]) <+: a := by
  obtain ⟨r, rfl⟩ := hl
  cases r with
  | nil => exact absurd (List.append_nil l).symm hne
  | cons x r =>
    have hp : (l ++ [x]) <+: (l ++ x :: r) := ⟨r, by simp⟩
    have h1 := h.back hp
    generalize hq : l ++ [x] = q at h1
    cases h1 with
    | nil => simp at hq
    | @snoc l' i c h2 hi hn hc =>
      obtain ⟨rfl, hx⟩ := List.append_inj' hq rfl
      simp only [List.cons.injEq, and_true] at hx
      subst hx
      exact ⟨i, c, hi, hn, hc, hp⟩
/-! the bound -/
theorem sum_perm {α : Type} (f : α → Int) {l m : List α} (h : l.Perm m) : (l.map f).sum = (m.map f).sum := by
  induction h with
  | nil => rfl
  | cons x _ ih => simp [ih]
  | swap x y l => simp; omega
  | trans _ _ h1 h2 => exact h1.trans h2
theorem sum_mono {α : Type} {f g : α → Int} : ∀ {l : List α}, (∀ x ∈ l, f x ≤ g x) → (l.map f).sum ≤ (l.map g).sum
  | [], _ => Int.le_refl _
  | y :: l, h => by
    have := sum_mono (l := l) fun x hx => h x (List.mem_cons_of_mem _ hx)
    have := h y (List.mem_cons_self ..)
    simp only [List.map_cons, List.sum_cons]; omega
def sumC (l : List Ern) (c : List UInt8) : Int := (l.map fun x => if x.crane = c then x.b - x.a else 0).sum
theorem sumC_le {J : List Hst} {B : Bef} {fr : Int} (c : List UInt8) {l : List Ern} (h : Reach J B fr l) : ∀ i, fr + sumC l c ≤ startF J B fr l i c := by
  induction h with
  | nil => intro i; exact Int.le_of_eq (Int.add_zero _)
  | @snoc l j d h hj hn hd ih =>
    intro i
    have e : startF J B fr (l ++ [planned J B fr l j d]) i c = if (d == c || B (jobI J (hsi J j).block) i) = true then max (startF J B fr l i c) (startF J B fr l j d + (hsi J j).hours) else startF J B fr l i c := by
      unfold startF; rw [List.foldl_append]; rfl
    have e2 : sumC (l ++ [planned J B fr l j d]) c = sumC l c + if d = c then (hsi J j).hours else 0 := by
      unfold sumC; rw [List.map_append, List.sum_append]
      simp only [List.map_cons, List.map_nil, List.sum_cons, List.sum_nil, planned]
      split <;> omega
    rw [e, e2]
    by_cases hdc : d = c
    · subst hdc
      have := ih j
      rw [if_pos rfl, if_pos (by simp)]
      omega
    · have := ih i
      rw [if_neg hdc]
      split <;> omega
/-- hours of those of the first k jobs that have this crane alone -/
def aloneF (J : List Hst) (k : Nat) (c : List UInt8) : Int := ((J.take k).map fun j => if j.cranes = [c] then j.hours else 0).sum
theorem alone_take {J : List Hst} {k : Nat} (hk : k < J.length) (c : List UInt8) : aloneF J (k + 1) c = aloneF J k c + if (hsi J k).cranes = [c] then (hsi J k).hours else 0 := by
  unfold aloneF
  rw [List.take_succ_eq_append_getElem hk, List.map_append, List.sum_append, hsi_lt hk]
  simp
theorem alone_le {J : List Hst} {B : Bef} {fr : Int} (hJ : JobsOK J) {l : List Ern} (h : Reach J B fr l) (hl : l.length = J.length) (h0 : l ≠ []) (k : Nat) (c : List UInt8) : fr + aloneF J k c ≤ endF l := by
  have hv := h.inv hJ
  let f : Hst → Int := fun j => if j.cranes = [c] then j.hours else 0
  have hf0 : ∀ j ∈ J, 0 ≤ f j := fun j hj => by have := hJ.hr j hj; show 0 ≤ (if j.cranes = [c] then j.hours else 0); split <;> omega
  have h1 : aloneF J k c ≤ (J.map f).sum := by
    have e : (J.map f).sum = ((J.take k).map f).sum + ((J.drop k).map f).sum := by rw [← List.sum_append, ← List.map_append, List.take_append_drop]
    have : 0 ≤ ((J.drop k).map f).sum := by
      have := sum_mono (f := fun _ => (0 : Int)) (g := f) (l := J.drop k) fun x hx => hf0 x (List.mem_of_mem_drop hx)
      have z : ((J.drop k).map fun _ => (0 : Int)).sum = 0 := by
        generalize J.drop k = m
        induction m with
        | nil => rfl
        | cons x m ih => simpa using ih
      omega
    show ((J.take k).map f).sum ≤ _
    omega
  -- jobs by their entries
  have h2 : (J.map f).sum = (l.map fun x => f (hsi J (jobI J x.block))).sum := by
    have hp : (l.map (·.block)).Perm (J.map (·.block)) := by
      refine (List.perm_ext_iff_of_nodup hv.nd hJ.nd).2 fun s => ⟨fun hs => ?_, fun hs => ?_⟩
      · obtain ⟨x, hx, rfl⟩ := List.mem_map.1 hs
        exact (hv.ent x hx).block
      · exact full_mem _ _ hv.nd (fun s hs => by
          obtain ⟨x, hx, rfl⟩ := List.mem_map.1 hs
          exact (hv.ent x hx).block) (by simp [hl]) s hs
    have h3 := sum_perm (fun s => f (hsi J (jobI J s))) hp
    rw [List.map_map, List.map_map] at h3
    have h4 : (J.map ((fun s => f (hsi J (jobI J s))) ∘ fun x => x.block)) = J.map f := by
      refine List.map_congr_left fun j hj => ?_
      show f (hsi J (jobI J j.block)) = f j
      obtain ⟨i, hi, rfl⟩ := List.mem_iff_getElem.1 hj
      have := jobI_at hJ.nd hi
      rw [hsi_lt hi] at this
      rw [this, hsi_lt hi]
    rw [h4] at h3
    rw [← h3]; rfl
  have h3 : (l.map fun x => f (hsi J (jobI J x.block))).sum ≤ sumC l c := by
    refine sum_mono fun x hx => ?_
    obtain ⟨i, hi, e1, e2, e3⟩ := (hv.ent x hx).job
    show (if (hsi J (jobI J x.block)).cranes = [c] then (hsi J (jobI J x.block)).hours else 0) ≤ (if x.crane = c then x.b - x.a else 0)
    rw [e1, jobI_at hJ.nd hi]
    have hh := hJ.hr _ (hsi_mem hi)
    split
    · rename_i hc
      rw [hc, List.mem_singleton] at e2
      rw [if_pos e2]; omega
    · split <;> omega
  obtain ⟨x, hx⟩ := List.exists_mem_of_ne_nil l h0
  have h4 := sumC_le c h 0
  -- the start behind all is not later than the end
  have h5 : startF J B fr l 0 c ≤ endF l := start_le J B 0 c l fr (by
    have := (hv.ent x hx).ge
    obtain ⟨i, hi, _, _, e⟩ := (hv.ent x hx).job
    have := hJ.hr _ (hsi_mem hi)
    have := end_ge hx
    omega) fun y hy => end_ge hy
  omega
/-- c hours are at the end behind the start of job i, in each schedule of all jobs -/
def Tail (J : List Hst) (B : Bef) (fr : Int) (i : Nat) (c : Int) : Prop := ∀ l, Reach J B fr l → l.length = J.length → ∀ x ∈ l, x.block = (hsi J i).block → x.a + c ≤ endF l
def Tail2 (J : List Hst) (B : Bef) (fr : Int) (i : Nat) (c : Int) : Prop := ∀ l, Reach J B fr l → l.length = J.length → ∀ x ∈ l, x.block = (hsi J i).block → x.b + c ≤ endF l
section
variable {J : List Hst} {B : Bef} {fr : Int} (hJ : JobsOK J)
theorem tail2_zero (i : Nat) : Tail2 J B fr i 0 := fun l _ _ x hx _ => by have := end_ge hx; omega
include hJ
theorem tail2_next {i k : Nat} {c d : Int} (hi : i < J.length) (hk : k < J.length) (hirr : ∀ i, B i i = false) (h1 : Tail2 J B fr i c) (h2 : Tail J B fr k d) (hB : B i k = true) : Tail2 J B fr i (max c d) := fun l hl hn x hx he => by
  have a1 := h1 l hl hn x hx he
  obtain ⟨y, hy, e⟩ := hl.all hJ hn hk
  have a2 := h2 l hl hn y hy e
  have a3 := apart_all hirr (hl.inv hJ).ap hx hy (by rw [he, e, jobI_at hJ.nd hi, jobI_at hJ.nd hk]; exact hB)
  omega
theorem tail_of {i : Nat} {c : Int} (hi : i < J.length) (h : Tail2 J B fr i c) : Tail J B fr i (c + (hsi J i).hours) := fun l hl hn x hx he => by
  have a1 := h l hl hn x hx he
  obtain ⟨j, hj, e1, _, e3⟩ := ((hl.inv hJ).ent x hx).job
  have : j = i := by
    have := jobI_at hJ.nd hj
    rw [← e1, he, jobI_at hJ.nd hi] at this
    exact this.symm
  subst this
  omega
theorem tail_le {i : Nat} {c : Int} (hi : i < J.length) (h : Tail J B fr i c) {l : List Ern} (hl : Reach J B fr l) (hn : l.length = J.length) : fr + c ≤ endF l := by
  obtain ⟨x, hx, e⟩ := hl.all hJ hn hi
  have := h l hl hn x hx e
  have := ((hl.inv hJ).ent x hx).ge
  omega
end
end Go.Proofs.YtfpnjbomlmhlpaaGreat
