/- Objects of named cells in memory; frames that leave out one block. -/
import Derived.Test.YtlmfcigabojbmaaGreatDoorOwn
import Derived.RangeFuncBox
import Derived.RangeFuncRecord
set_option linter.unusedSimpArgs false
set_option linter.unusedVariables false
namespace Go.Proofs.YtlmfcigabojbmaaGreatDoor
open Go.RowKit

/-- the object b has the cells xs -/
def ObjAt (w : World) (b : Nat) (xs : Array Value) (e : TypeId) : Prop := w.heap[b]? = some (.cells xs e (0, 0))
theorem ObjAt.new (w : World) (xs : Array Value) (e : TypeId) : ObjAt (w.alloc (.cells xs e)) w.heap.size xs e := World.alloc_heap_new w _
section
variable {w w' : World} {b : Nat} {xs : Array Value} {e : TypeId}
theorem ObjAt.lt (h : ObjAt w b xs e) : b < w.heap.size := (Array.getElem?_eq_some_iff.1 h).1
theorem ObjAt.cell (h : ObjAt w b xs e) (k : Nat) : w.cell? ⟨b, k, none⟩ = xs[k]? := by simp [World.cell?, show w.heap[b]? = _ from h]
theorem ObjAt.frozen (h : ObjAt w b xs e) (k : Nat) : w.frozen? ⟨b, k, none⟩ = false := by simp [World.frozen?, show w.heap[b]? = _ from h]
theorem ObjAt.below {n : Nat} (h : ObjAt w b xs e) (hb : Below n w w') (hn : b < n) : ObjAt w' b xs e := (hb.block b hn).trans h
theorem ObjAt.keep (h : ObjAt w b xs e) (hb : Below w.heap.size w w') : ObjAt w' b xs e := h.below hb h.lt
theorem ObjAt.alloc (h : ObjAt w b xs e) (o : Obj) : ObjAt (w.alloc o) b xs e := h.keep ((Below.refl _ _).alloc (Nat.le_refl _) _)
theorem ObjAt.drewN (h : ObjAt w b xs e) (m : Nat) : ObjAt (w.drewN m) b xs e := h
theorem ObjAt.set (h : ObjAt w b xs e) (k : Nat) (x : Value) : ObjAt (w.setCell ⟨b, k, none⟩ x) b (xs.setIfInBounds k x) e := by
  obtain ⟨hlt, hk⟩ := Array.getElem?_eq_some_iff.1 h
  show (w.heap.modify b _)[b]? = _
  rw [Array.getElem?_eq_getElem (by rw [Array.size_modify]; exact hlt), Array.getElem_modify_self, hk]
  rfl
theorem ObjAt.other (h : ObjAt w b xs e) {b' : Nat} (hne : b ≠ b') (k : Nat) (x : Value) : ObjAt (w.setCell ⟨b', k, none⟩ x) b xs e := (Below.heap_setCell _ _ _ _ hne).trans h
theorem ObjAt.ne (h : ObjAt w b xs e) {B : Nat} {v : Value} {e' : TypeId} {s n : Nat} {ys : List Value} (ho : w.ownsRow B e' s v n ys) (he : e' ≠ e) : v.ownBlock ≠ some b := by
  intro hv
  rcases ho.2 with ⟨rfl, _⟩ | ⟨g, cap, cur, rfl, _, hg, _⟩
  · cases hv
  · cases hv
    rw [show w.heap[g]? = _ from h] at hg
    simp at hg
    exact he hg.2.symm
theorem ObjAt.rowSet (h : ObjAt w b xs e) {B : Nat} {v : Value} {e' : TypeId} {s n : Nat} {ys : List Value} (ho : w.ownsRow B e' s v n ys) (he : e' ≠ e) (k : Nat) (x : Value) : (w.setCell ⟨b, k, none⟩ x).ownsRow B e' s v n ys :=
  World.ownsRow.kept ho (row := some b) ⟨rfl, rfl, rfl, by simp [World.setCell], fun j _ hj => Below.heap_setCell _ _ _ _ (fun e => hj (by rw [e]))⟩ (.inr fun e2 => h.ne ho he e2)
theorem ObjAt.grown {row : Option Nat} (h : ObjAt w b xs e) (hg : w.grownBy w' row) (hne : row ≠ some b) : ObjAt w' b xs e := (hg.block b h.lt (fun e2 => hne e2.symm)).trans h
end

/-- but for one block of those that were there at n blocks, all is as it was -/
structure FrV (n : Nat) (vl : Value) (w w' : World) : Prop where
  os : w'.os = w.os
  tape : w'.tape = w.tape
  output : w'.output = w.output
  size : w.heap.size ≤ w'.heap.size
  block : ∀ k, k < n → vl.ownBlock ≠ some k → w'.heap[k]? = w.heap[k]?
/-- the block is where it was, or one of those made since -/
def LnkV (vl vl' : Value) (n : Nat) : Prop := vl'.ownBlock = vl.ownBlock ∨ ∃ k, vl'.ownBlock = some k ∧ n ≤ k
theorem LnkV.refl (vl : Value) (n : Nat) : LnkV vl vl n := .inl rfl
theorem LnkV.trans {u v z : Value} {m n : Nat} (h : LnkV u v m) (g : LnkV v z n) (hm : m ≤ n) : LnkV u z m := by
  rcases g with g | ⟨k, g, gk⟩
  · rcases h with h | ⟨k, h, hk⟩
    · exact .inl (g.trans h)
    · exact .inr ⟨k, g.trans h, hk⟩
  · exact .inr ⟨k, g, by omega⟩
section
variable {n : Nat} {vl vl' : Value} {w x y : World}
theorem FrV.refl (n : Nat) (vl : Value) (w : World) : FrV n vl w w := ⟨rfl, rfl, rfl, Nat.le_refl _, fun _ _ _ => rfl⟩
theorem FrV.of_below (h : Below n w x) : FrV n vl w x := ⟨h.os, h.tape, h.output, h.size, fun k hk _ => h.block k hk⟩
theorem FrV.drewN (h : FrV n vl w x) (m : Nat) : FrV n vl w (x.drewN m) := ⟨h.os, h.tape, h.output, h.size, h.block⟩
theorem FrV.thenB {m : Nat} (h : FrV n vl w x) (hb : Below m x y) (hm : n ≤ m) : FrV n vl w y :=
  ⟨hb.os.trans h.os, hb.tape.trans h.tape, hb.output.trans h.output, Nat.le_trans h.size hb.size, fun k hk h1 => (hb.block k (by omega)).trans (h.block k hk h1)⟩
theorem FrV.then (h : FrV n vl w x) (hx : n ≤ x.heap.size) (l : LnkV vl vl' n) (g : FrV x.heap.size vl' x y) : FrV n vl w y :=
  ⟨g.os.trans h.os, g.tape.trans h.tape, g.output.trans h.output, Nat.le_trans h.size g.size, fun k hk h1 => (g.block k (by omega) (fun e => by
    rcases l with l | ⟨j, l, lj⟩
    · rw [l] at e; exact h1 e
    · rw [l] at e; cases e; omega)).trans (h.block k hk h1)⟩
theorem FrV.set (h : FrV n vl w x) {b : Nat} (hb : n ≤ b) (k : Nat) (v : Value) : FrV n vl w (x.setCell ⟨b, k, none⟩ v) :=
  ⟨h.os, h.tape, h.output, Nat.le_trans h.size (by simp [World.setCell]), fun j hj h1 => (Below.heap_setCell _ _ _ _ (by dsimp only; omega)).trans (h.block j hj h1)⟩
theorem FrV.alloc (h : FrV n vl w x) (hn : n ≤ x.heap.size) (o : Obj) : FrV n vl w (x.alloc o) := h.thenB ((Below.refl n x).alloc hn o) (Nat.le_refl _)
theorem FrV.grown (h : FrV n vl w x) (l : LnkV vl vl' n) (hn : n ≤ x.heap.size) (g : x.grownBy y vl'.ownBlock) : FrV n vl w y :=
  ⟨g.os.trans h.os, g.tape.trans h.tape, g.output.trans h.output, Nat.le_trans h.size g.size, fun k hk h1 => (g.block k (by omega) (fun e => by
    rcases l with l | ⟨j, l, lj⟩
    · rw [l] at e; exact h1 e.symm
    · rw [l] at e; cases e; omega)).trans (h.block k hk h1)⟩
theorem FrV.below {B : Nat} (h : FrV n vl w x) (hv : ∀ k, vl.ownBlock = some k → B ≤ k) (hn : B ≤ n) : Below B w x :=
  ⟨h.os, h.tape, h.output, h.size, fun k hk => h.block k (by omega) (fun e => by have := hv k e; omega)⟩
theorem FrV.obj {b : Nat} {xs : Array Value} {e : TypeId} (h : FrV n vl w x) (o : ObjAt w b xs e) (hn : b < n) (hv : vl.ownBlock ≠ some b) : ObjAt x b xs e := (h.block b hn hv).trans o
theorem FrV.grownBy (h : FrV w.heap.size vl w x) : w.grownBy x vl.ownBlock := ⟨h.os, h.tape, h.output, h.size, fun k hk h1 => h.block k hk (fun e => h1 e.symm)⟩
end
end Go.Proofs.YtlmfcigabojbmaaGreatDoor
