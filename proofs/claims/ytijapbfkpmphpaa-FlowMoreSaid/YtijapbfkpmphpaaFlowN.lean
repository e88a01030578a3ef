/- flow.Best's search: its captured variables in memory. -/
import Derived.Test.YtijapbfkpmphpaaFlowM
namespace Go.Proofs.Ytijapbfkpmphpaa
open Go.RowKit

/-- the closure -/
def srchF (X : Nat) : Value := .func (.func 43) #[] #[.pointer (some ⟨X, 0, none⟩), .pointer (some ⟨X + 4, 0, none⟩), .pointer (some ⟨X + 2, 0, none⟩), .pointer (some ⟨X + 1, 0, none⟩), .pointer (some ⟨X + 3, 0, none⟩), .pointer (some ⟨X + 5, 0, none⟩)]
/-- the captured variables lie in blocks X .. X + 5: the shop, the order, the span, the steps left, whether there is one, the closure -/
structure RepC (w : World) (X : Nat) (pv : Value) (st : St) (l : Int) (ov : Value) : Prop where
  b0 : w.heap[X]? = some (.cells #[pv] 22 (0, 0))
  b1 : w.heap[X + 1]? = some (.cells #[ov] 23 (0, 0))
  b2 : w.heap[X + 2]? = some (.cells #[.int .i64 st.span] 3 (0, 0))
  b3 : w.heap[X + 3]? = some (.cells #[.int .i64 l] 3 (0, 0))
  b4 : w.heap[X + 4]? = some (.cells #[.bool st.found] 4 (0, 0))
  b5 : w.heap[X + 5]? = some (.cells #[srchF X] 55 (0, 0))
  own : OwnI w (X + 6) ov st.order

/-- of the old blocks those outside X + 1 .. X + 4 are as they were -/
structure Chg (w w' : World) (X : Nat) : Prop where
  os : w'.os = w.os
  tape : w'.tape = w.tape
  output : w'.output = w.output
  size : w.heap.size ≤ w'.heap.size
  block : ∀ k, k < w.heap.size → (k ≤ X ∨ X + 5 ≤ k) → w'.heap[k]? = w.heap[k]?

theorem Chg.refl (w : World) (X : Nat) : Chg w w X := ⟨rfl, rfl, rfl, Nat.le_refl _, fun _ _ _ => rfl⟩
theorem Chg.trans {a b c : World} {X : Nat} (h : Chg a b X) (k : Chg b c X) : Chg a c X :=
  ⟨k.os.trans h.os, k.tape.trans h.tape, k.output.trans h.output, Nat.le_trans h.size k.size, fun i hi hn => (k.block i (Nat.lt_of_lt_of_le hi h.size) hn).trans (h.block i hi hn)⟩
theorem Chg.of_below {a b : World} {X : Nat} (h : Below a.heap.size a b) : Chg a b X := ⟨h.os, h.tape, h.output, h.size, fun k hk _ => h.block k hk⟩
theorem Chg.set (w : World) {X b : Nat} (o : Nat) (v : Value) (h1 : X + 1 ≤ b) (h2 : b < X + 5) : Chg w (w.setCell ⟨b, o, none⟩ v) X :=
  ⟨rfl, rfl, rfl, by simp [World.setCell], fun k hk hn => Below.heap_setCell _ _ _ _ (by simp only; omega)⟩
theorem Chg.below {w0 w w' : World} {X : Nat} (h : Below w0.heap.size w0 w) (hc : Chg w w' X) (hX : w0.heap.size ≤ X) : Below w0.heap.size w0 w' :=
  h.trans ⟨hc.os, hc.tape, hc.output, hc.size, fun k hk => hc.block k (Nat.lt_of_lt_of_le hk h.size) (.inl (by omega))⟩
theorem Chg.cell5 {w w' : World} {X : Nat} (hc : Chg w w' X) {v : Value} (h : w.cell? ⟨X + 5, 0, none⟩ = some v) : w'.cell? ⟨X + 5, 0, none⟩ = some v :=
  (World.cell?_of_block (w := w) (hc.block (X + 5) (World.block_lt_of_cell? w _ h) (.inr (by omega)))).trans h
theorem OwnI.chg {w w' : World} {X : Nat} {v : Value} {r : List Int} (h : OwnI w (X + 6) v r) (hc : Chg w w' X) : OwnI w' (X + 6) v r := by
  have h' : w.ownsRow (X + 6) 3 1 v r.length (r.map (Value.int .i64)) := h
  refine ⟨h'.1, ?_⟩
  rcases h'.2 with hn | ⟨g, cap, cur, hv, hb, hg, rest⟩
  · exact .inl hn
  · exact .inr ⟨g, cap, cur, hv, hb, by rw [hc.block g (lt_of_block hg) (.inr (by omega))]; exact hg, rest⟩
theorem RepC.below {w w' : World} {X : Nat} {pv : Value} {st : St} {l : Int} {ov : Value} (h : RepC w X pv st l ov) (hb : Below w.heap.size w w') : RepC w' X pv st l ov :=
  ⟨by rw [hb.block _ (lt_of_block h.b0)]; exact h.b0, by rw [hb.block _ (lt_of_block h.b1)]; exact h.b1, by rw [hb.block _ (lt_of_block h.b2)]; exact h.b2, by rw [hb.block _ (lt_of_block h.b3)]; exact h.b3,
    by rw [hb.block _ (lt_of_block h.b4)]; exact h.b4, by rw [hb.block _ (lt_of_block h.b5)]; exact h.b5, h.own.below hb⟩
theorem RepC.lt {w : World} {X : Nat} {pv : Value} {st : St} {l : Int} {ov : Value} (h : RepC w X pv st l ov) : X + 6 ≤ w.heap.size := lt_of_block h.b5
theorem set_other {w : World} {b k : Nat} {v : Value} (h : k ≠ b) : (w.setCell ⟨b, 0, none⟩ v).heap[k]? = w.heap[k]? := Below.heap_setCell _ _ _ _ h
theorem RepC.setLeft {w : World} {X : Nat} {pv : Value} {st : St} {l : Int} {ov : Value} (h : RepC w X pv st l ov) (l' : Int) (st' : St) (h1 : st'.span = st.span) (h2 : st'.found = st.found) (h3 : st'.order = st.order) :
    RepC (w.setCell ⟨X + 3, 0, none⟩ (.int .i64 l')) X pv st' l' ov :=
  ⟨by rw [set_other (by omega)]; exact h.b0, by rw [set_other (by omega)]; exact h.b1, by rw [set_other (by omega), h1]; exact h.b2, one_setCell h.b3,
    by rw [set_other (by omega), h2]; exact h.b4, by rw [set_other (by omega)]; exact h.b5, by rw [h3]; exact h.own.chg (Chg.set _ _ _ (by omega) (by omega))⟩
theorem RepC.setBest {w : World} {X : Nat} {pv : Value} {st : St} {l : Int} {ov : Value} (h : RepC w X pv st l ov) {ov' : Value} {r : List Int} (hv : OwnI w (X + 6) ov' r) (n : Int) :
    RepC (((w.setCell ⟨X + 1, 0, none⟩ ov').setCell ⟨X + 2, 0, none⟩ (.int .i64 n)).setCell ⟨X + 4, 0, none⟩ (.bool true)) X pv { st with order := r, span := n, found := true } l ov' := by
  refine ⟨?_, ?_, ?_, ?_, ?_, ?_, ?_⟩
  · rw [set_other (by omega), set_other (by omega), set_other (by omega)]; exact h.b0
  · rw [set_other (by omega), set_other (by omega)]; exact one_setCell h.b1
  · rw [set_other (by omega)]; exact one_setCell (by rw [set_other (by omega)]; exact h.b2)
  · rw [set_other (by omega), set_other (by omega), set_other (by omega)]; exact h.b3
  · exact one_setCell (by rw [set_other (by omega), set_other (by omega)]; exact h.b4)
  · rw [set_other (by omega), set_other (by omega), set_other (by omega)]; exact h.b5
  · exact (hv.chg (Chg.set _ _ _ (by omega) (by omega))).chg (Chg.set _ _ _ (by omega) (by omega)) |>.chg (Chg.set _ _ _ (by omega) (by omega))

section
variable {w : World} {X : Nat} {pv : Value} {st : St} {l : Int} {ov : Value} (h : RepC w X pv st l ov)
include h
theorem RepC.c0 : w.cell? ⟨X, 0, none⟩ = some pv := cell_of_one h.b0
theorem RepC.c1 : w.cell? ⟨X + 1, 0, none⟩ = some ov := cell_of_one h.b1
theorem RepC.c2 : w.cell? ⟨X + 2, 0, none⟩ = some (.int .i64 st.span) := cell_of_one h.b2
theorem RepC.c3 : w.cell? ⟨X + 3, 0, none⟩ = some (.int .i64 l) := cell_of_one h.b3
theorem RepC.c4 : w.cell? ⟨X + 4, 0, none⟩ = some (.bool st.found) := cell_of_one h.b4
theorem RepC.c5 : w.cell? ⟨X + 5, 0, none⟩ = some (.func (.func 43) #[] #[.pointer (some ⟨X, 0, none⟩), .pointer (some ⟨X + 4, 0, none⟩), .pointer (some ⟨X + 2, 0, none⟩), .pointer (some ⟨X + 1, 0, none⟩), .pointer (some ⟨X + 3, 0, none⟩), .pointer (some ⟨X + 5, 0, none⟩)]) := cell_of_one h.b5
theorem RepC.f1 : w.frozen? ⟨X + 1, 0, none⟩ = false := free_of_one h.b1
theorem RepC.f2 : w.frozen? ⟨X + 2, 0, none⟩ = false := free_of_one h.b2
theorem RepC.f3 : w.frozen? ⟨X + 3, 0, none⟩ = false := free_of_one h.b3
theorem RepC.f4 : w.frozen? ⟨X + 4, 0, none⟩ = false := free_of_one h.b4
end
theorem OwnI.some_form {w : World} {B : Nat} {v : Value} {r : List Int} (h : OwnI w B v r) : v = .slice none 0 0 ∨ ∃ a n c, v = .slice (some a) n c := by
  have h' : w.ownsRow B 3 1 v r.length (r.map (Value.int .i64)) := h
  rcases h'.2 with ⟨rfl, _⟩ | ⟨g, cap, cur, rfl, _⟩
  · exact .inl rfl
  · exact .inr ⟨_, _, _, rfl⟩

/-- what the search leaves -/
def PostC (w : World) (X : Nat) (pv : Value) (p : List (List Int)) (f : Nat) (st : St) (pre : List Int) (e : Ending) (w' : World) : Prop :=
  Chg w w' X ∧ match expl p f st pre with
    | some st' => e = .returned (.bool true) ∧ ∃ ov, RepC w' X pv st' st'.left ov
    | none => e = .returned (.bool false) ∧ ∃ stz lz ov, RepC w' X pv stz lz ov

theorem contains_no (v : Value) (x : Int) (xs : List Int) (w : World) (h : SI w v xs) (hn : xs.any (fun y => x == y) = false) :
    Calls Try.prog 45 #[v, .int .i64 x] w fun e w' => e = .returned (.bool false) ∧ ∃ m, w' = w.drewN m := by
  have := contains_int v x xs w h
  rw [hn] at this; exact this
theorem contains_yes (v : Value) (x : Int) (xs : List Int) (w : World) (h : SI w v xs) (hn : xs.any (fun y => x == y) = true) :
    Calls Try.prog 45 #[v, .int .i64 x] w fun e w' => e = .returned (.bool true) ∧ ∃ m, w' = w.drewN m := by
  have := contains_int v x xs w h
  rw [hn] at this; exact this
end Go.Proofs.Ytijapbfkpmphpaa
