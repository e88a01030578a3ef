/- The reference's search: its state in memory. -/
import Derived.Test.YtijapbfkpmphpaaFlowK
import Derived.Test.YtijapbfkpmphpaaFlowSpec2
import Derived.Test.YtijapbfkpmphpaaApp
namespace Go.Proofs.Ytijapbfkpmphpaa
open Go.RowKit

/-- the block of the search's record -/
def blockX (pv : Value) (left : Nat) (ov : Value) (span : Int) (found : Bool) : Obj := .cells #[pv, .int .i64 left, ov, .int .i64 span, .bool found] 59 (0, 0)
/-- the record at block X reads as the state st -/
def RepX (w : World) (B X : Nat) (pv : Value) (st : St) : Prop := ∃ ov, w.heap[X]? = some (blockX pv st.left ov st.span st.found) ∧ OwnI w B ov st.order

theorem grownBy_trans {a b c : World} {row : Option Nat} (h : a.grownBy b row) (k : b.grownBy c row) : a.grownBy c row :=
  ⟨k.os.trans h.os, k.tape.trans h.tape, k.output.trans h.output, Nat.le_trans h.size k.size, fun i hi hn => (k.block i (Nat.lt_of_lt_of_le hi h.size) hn).trans (h.block i hi hn)⟩
theorem grownBy_of_below {a b : World} (h : Below a.heap.size a b) (row : Option Nat) : a.grownBy b row := ⟨h.os, h.tape, h.output, h.size, fun k hk _ => h.block k hk⟩
theorem grownBy_setCell (w : World) (b o : Nat) (v : Value) : w.grownBy (w.setCell ⟨b, o, none⟩ v) (some b) :=
  ⟨rfl, rfl, rfl, by simp [World.setCell], fun k hk hn => Below.heap_setCell _ _ _ _ (fun e => hn (by simp [e]))⟩
theorem below_of_grownBy {w0 w w' : World} {X : Nat} (h : Below w0.heap.size w0 w) (hg : w.grownBy w' (some X)) (hX : w0.heap.size ≤ X) : Below w0.heap.size w0 w' :=
  h.grown hg h.size (fun k hk => by simp at hk; omega)
theorem own_ne_block {w : World} {B : Nat} {v : Value} {r : List Int} {X : Nat} {cur : Array Value} {T : TypeId} {fr : Nat × Nat} (h : OwnI w B v r) (hX : w.heap[X]? = some (.cells cur T fr)) (hT : 3 ≠ T) : v.ownBlock ≠ some X := by
  have h' : w.ownsRow B 3 1 v r.length (r.map (Value.int .i64)) := h
  rcases h'.2 with ⟨rfl, _⟩ | ⟨g, cap, cur', rfl, _, hg, _⟩
  · simp [Value.ownBlock]
  · simp only [Value.ownBlock, ne_eq, Option.some.injEq]
    intro e
    subst e
    rw [hX] at hg
    simp at hg
    exact hT hg.2.1.symm
theorem OwnI.grown {w w' : World} {B : Nat} {v : Value} {r : List Int} {X : Nat} (h : OwnI w B v r) (hg : w.grownBy w' (some X)) (hne : v.ownBlock ≠ some X) : OwnI w' B v r := World.ownsRow.kept h hg (.inr hne)

theorem RepX.ne {w : World} {B X : Nat} {pv : Value} {st : St} (h : RepX w B X pv st) {v : Value} {r : List Int} (hv : OwnI w B v r) : v.ownBlock ≠ some X := by
  obtain ⟨ov, hx, _⟩ := h
  exact own_ne_block hv hx (by decide)
theorem RepX.below {w w' : World} {B X : Nat} {pv : Value} {st : St} (h : RepX w B X pv st) (hb : Below w.heap.size w w') : RepX w' B X pv st := by
  obtain ⟨ov, hx, ho⟩ := h
  exact ⟨ov, by rw [hb.block X (lt_of_block hx)]; exact hx, ho.below hb⟩
theorem RepX.c0 {w : World} {B X : Nat} {pv : Value} {st : St} (h : RepX w B X pv st) : w.cell? ⟨X, 0, none⟩ = some pv := by obtain ⟨ov, hx, _⟩ := h; simp [World.cell?, hx, blockX]
theorem RepX.c1 {w : World} {B X : Nat} {pv : Value} {st : St} (h : RepX w B X pv st) : w.cell? ⟨X, 1, none⟩ = some (.int .i64 st.left) := by obtain ⟨ov, hx, _⟩ := h; simp [World.cell?, hx, blockX]
theorem RepX.c2 {w : World} {B X : Nat} {pv : Value} {st : St} (h : RepX w B X pv st) : ∃ ov, w.cell? ⟨X, 2, none⟩ = some ov ∧ OwnI w B ov st.order := by obtain ⟨ov, hx, ho⟩ := h; exact ⟨ov, by simp [World.cell?, hx, blockX], ho⟩
theorem RepX.c3 {w : World} {B X : Nat} {pv : Value} {st : St} (h : RepX w B X pv st) : w.cell? ⟨X, 3, none⟩ = some (.int .i64 st.span) := by obtain ⟨ov, hx, _⟩ := h; simp [World.cell?, hx, blockX]
theorem RepX.c4 {w : World} {B X : Nat} {pv : Value} {st : St} (h : RepX w B X pv st) : w.cell? ⟨X, 4, none⟩ = some (.bool st.found) := by obtain ⟨ov, hx, _⟩ := h; simp [World.cell?, hx, blockX]
theorem RepX.fz {w : World} {B X : Nat} {pv : Value} {st : St} (h : RepX w B X pv st) (i : Nat) : w.frozen? ⟨X, i, none⟩ = false := by obtain ⟨ov, hx, _⟩ := h; simp [World.frozen?, hx, blockX]
theorem RepX.setLeft {w : World} {B X : Nat} {pv : Value} {st : St} (h : RepX w B X pv st) (l : Nat) : RepX (w.setCell ⟨X, 1, none⟩ (.int .i64 l)) B X pv { st with left := l } := by
  have hne := fun {v r} (hv : OwnI w B v r) => h.ne hv
  obtain ⟨ov, hx, ho⟩ := h
  exact ⟨ov, heap_setCell_same w X 1 _ _ _ hx, ho.grown (grownBy_setCell _ _ _ _) (hne ho)⟩
theorem RepX.setBest {w : World} {B X : Nat} {pv : Value} {st : St} (h : RepX w B X pv st) {ov : Value} {r : List Int} (hv : OwnI w B ov r) (n : Int) :
    RepX (((w.setCell ⟨X, 2, none⟩ ov).setCell ⟨X, 3, none⟩ (.int .i64 n)).setCell ⟨X, 4, none⟩ (.bool true)) B X pv { st with order := r, span := n, found := true } := by
  have hne := h.ne hv
  obtain ⟨ov', hx, _⟩ := h
  have h1 := heap_setCell_same w X 2 _ _ ov hx
  have h2 := heap_setCell_same _ X 3 _ _ (.int .i64 n) h1
  have h3 := heap_setCell_same _ X 4 _ _ (.bool true) h2
  exact ⟨ov, h3, ((hv.grown (grownBy_setCell _ _ _ _) hne).grown (grownBy_setCell _ _ _ _) hne).grown (grownBy_setCell _ _ _ _) hne⟩

/-- what explore leaves -/
def PostX (w : World) (B X : Nat) (pv : Value) (p : List (List Int)) (f : Nat) (st : St) (pre : List Int) (e : Ending) (w' : World) : Prop :=
  w.grownBy w' (some X) ∧ match expl p f st pre with
    | some st' => e = .returned (.bool true) ∧ RepX w' B X pv st'
    | none => e = .returned (.bool false)
end Go.Proofs.Ytijapbfkpmphpaa
