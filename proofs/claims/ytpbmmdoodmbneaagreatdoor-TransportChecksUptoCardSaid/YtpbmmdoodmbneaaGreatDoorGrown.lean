/- Small lemmas on worlds that grow. -/
import Derived.Test.YtpbmmdoodmbneaaGreatDoorApp
namespace Go.Proofs.YtpbmmdoodmbneaaGreatDoor
open Go.RowKit

theorem grownBy_trans {a b c : World} {row : Option Nat} (h : a.grownBy b row) (k : b.grownBy c row) : a.grownBy c row :=
  ⟨k.os.trans h.os, k.tape.trans h.tape, k.output.trans h.output, Nat.le_trans h.size k.size, fun i hi hn => (k.block i (Nat.lt_of_lt_of_le hi h.size) hn).trans (h.block i hi hn)⟩
theorem grownBy_of_below {a b : World} (h : Below a.heap.size a b) (row : Option Nat) : a.grownBy b row := ⟨h.os, h.tape, h.output, h.size, fun k hk _ => h.block k hk⟩
theorem grownBy_setCell (w : World) (b o : Nat) (v : Value) : w.grownBy (w.setCell ⟨b, o, none⟩ v) (some b) :=
  ⟨rfl, rfl, rfl, by simp [World.setCell], fun k hk hn => Below.heap_setCell _ _ _ _ (fun e => hn (by simp [e]))⟩
theorem below_of_grownBy {w0 w w' : World} {X : Nat} (h : Below w0.heap.size w0 w) (hg : w.grownBy w' (some X)) (hX : w0.heap.size ≤ X) : Below w0.heap.size w0 w' :=
  h.grown hg h.size (fun k hk => by simp at hk; omega)
end Go.Proofs.YtpbmmdoodmbneaaGreatDoor
