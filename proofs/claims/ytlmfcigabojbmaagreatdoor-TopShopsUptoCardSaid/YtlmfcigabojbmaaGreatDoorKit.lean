/- Small laws of memory for seats without slices of integers: rows that a call owns, the builtin append, strings. -/
import Derived.Test.YtlmfcigabojbmaaGreatDoorGen
import Derived.OneCell
import Derived.WalkSmall
import Derived.IntWalk
set_option linter.unusedSimpArgs false
set_option linter.unusedVariables false
namespace Go.Proofs.YtlmfcigabojbmaaGreatDoor
open Go.RowKit
theorem cell_drew' {w : World} {p : Addr} {v : Value} (h : w.cell? p = some v) : w.drew.cell? p = some v := h
theorem cell_alloc' {w : World} {p : Addr} {v : Value} (h : w.cell? p = some v) (o : Obj) : (w.alloc o).cell? p = some v := cell_keep ((Below.refl _ _).alloc (Nat.le_refl _) _) h
theorem below_alloc {a b : World} (h : Below a.heap.size a b) (o : Obj) : Below a.heap.size a (b.alloc o) := h.alloc h.size o
theorem grownBy_set (w : World) (b o : Nat) (v : Value) : w.grownBy (w.setCell ⟨b, o, none⟩ v) (some b) :=
  ⟨rfl, rfl, rfl, by simp [World.setCell], fun k hk hn => Below.heap_setCell _ _ _ _ (fun e => hn (by simp [e]))⟩
theorem set_far {w : World} {b o k : Nat} {v : Value} (h : k ≠ b) : (w.setCell ⟨b, o, none⟩ v).heap[k]? = w.heap[k]? := Below.heap_setCell _ _ _ _ h
theorem cell_set_far {w : World} {b o : Nat} {x v : Value} {p : Addr} (h : w.cell? p = some v) (hne : p.block ≠ b) : (w.setCell ⟨b, o, none⟩ x).cell? p = some v := (World.cell?_of_block (a := p) (set_far hne)).trans h
end Go.Proofs.YtlmfcigabojbmaaGreatDoor
