/- Shifts and calendars in memory; times. -/
import Derived.Test.YtbjnpiaooehmjaaDoorGen
import Derived.Test.YtbjnpiaooehmjaaDoorCalSpec3
namespace Go.Proofs.YtbjnpiaooehmjaaDoor
open Go.RowKit

theorem cell_alloc' {w : World} {p : Addr} {v : Value} (h : w.cell? p = some v) (o : Obj) : (w.alloc o).cell? p = some v := cell_keep ((Below.refl _ _).alloc (Nat.le_refl _) _) h
theorem below_alloc {a b : World} (h : Below a.heap.size a b) (o : Obj) : Below a.heap.size a (b.alloc o) := h.alloc h.size o
def spCells (x : Sp) : List Value := [.int .i64 x.a, .int .i64 x.b]
theorem spCells_len (x : Sp) : (spCells x).length = 2 := rfl
def pi2 (l : List Sp) (k : Nat) : Sp := l.getD k default
theorem pi2_lt {l : List Sp} {k : Nat} (h : k < l.length) : pi2 l k = l[k] := by simp [pi2, h]
theorem pi2_mem {l : List Sp} {k : Nat} (h : k < l.length) : pi2 l k ∈ l := by rw [pi2_lt h]; exact List.getElem_mem h
theorem take_succ_pi {xs : List Sp} {k : Nat} (h : k < xs.length) : xs.take (k + 1) = xs.take k ++ [pi2 xs k] := by
  rw [List.take_succ_eq_append_getElem h, pi2_lt h]
structure SpAt (w : World) (b off : Nat) (x : Sp) : Prop where
  c0 : w.cell? ⟨b, off, none⟩ = some (.int .i64 x.a)
  c1 : w.cell? ⟨b, off + 1, none⟩ = some (.int .i64 x.b)
theorem SpAt.keep {w w' : World} {b off : Nat} {x : Sp} (h : SpAt w b off x) (hb : Below w.heap.size w w') : SpAt w' b off x := ⟨cell_keep hb h.c0, cell_keep hb h.c1⟩
/-- a slice that reads as shifts -/
def SP (w : World) (v : Value) (l : List Sp) : Prop :=
  ∃ a cap, v = .slice a l.length cap ∧ l.length ≤ cap ∧ cap ≤ maxLen ∧ ∀ i, i < l.length → ∃ b off, a = some ⟨b, off, none⟩ ∧ SpAt w b (off + i * 2) (pi2 l i)
theorem SP.keep {w w' : World} {v : Value} {l : List Sp} (h : SP w v l) (hb : Below w.heap.size w w') : SP w' v l := by
  obtain ⟨a, cap, rfl, h1, h2, h3⟩ := h
  exact ⟨a, cap, rfl, h1, h2, fun i hi => by obtain ⟨b, off, ha, hc⟩ := h3 i hi; exact ⟨b, off, ha, hc.keep hb⟩⟩
theorem SP.len {w : World} {v : Value} {l : List Sp} (h : SP w v l) : l.length ≤ maxLen := by obtain ⟨a, cap, _, h1, h2, _⟩ := h; omega
theorem SP_nil (w : World) : SP w (.slice none 0 0) [] := ⟨none, 0, rfl, Nat.le_refl _, Nat.zero_le _, fun i hi => by simp at hi⟩
theorem SP.form {w : World} {v : Value} {l : List Sp} (h : SP w v l) (hl : 1 ≤ l.length) : ∃ b off cap, v = .slice (some ⟨b, off, none⟩) l.length cap ∧ l.length ≤ cap ∧ cap ≤ maxLen ∧ b < w.heap.size ∧ ∀ i, i < l.length → SpAt w b (off + i * 2) (pi2 l i) := by
  obtain ⟨a, cap, rfl, h1, h2, h3⟩ := h
  obtain ⟨b, off, rfl, hc⟩ := h3 0 (by omega)
  refine ⟨b, off, cap, rfl, h1, h2, World.block_lt_of_cell? w _ hc.c0, fun i hi => ?_⟩
  obtain ⟨b', off', ha, hc'⟩ := h3 i hi
  have ha := Option.some.inj ha
  simp only [Addr.mk.injEq] at ha
  obtain ⟨rfl, rfl, _⟩ := ha
  exact hc'
def OwnSp (w : World) (B : Nat) (v : Value) (l : List Sp) : Prop := w.ownsRow B 42 2 v l.length (l.flatMap spCells)
theorem OwnSp.sp {w : World} {B : Nat} {v : Value} {l : List Sp} (h : OwnSp w B v l) : SP w v l := by
  rcases own_flat_form h with ⟨rfl, rfl⟩ | ⟨g, cap, rfl, _, _, hn, hm, hc⟩
  · exact SP_nil w
  · refine ⟨_, cap, rfl, hn, hm, fun i hi => ⟨g, 0, rfl, ?_⟩⟩
    have key : ∀ j, j < 2 → w.cell? ⟨g, i * 2 + j, none⟩ = (spCells (pi2 l i))[j]? := fun j hj => by
      rw [hc (i * 2 + j) (by omega), flat_get spCells spCells_len l i j hi hj, pi2_lt hi]
    rw [Nat.zero_add]
    exact ⟨key 0 (by omega), key 1 (by omega)⟩

/-- the program's calendar: an address at which its two slices lie -/
def CalP (w : World) (v : Value) (sh : List Sp) (cl : List Int) : Prop :=
  ∃ B sv cv, v = .pointer (some ⟨B, 0, none⟩) ∧ w.cell? ⟨B, 0, none⟩ = some sv ∧ w.cell? ⟨B, 1, none⟩ = some cv ∧ SP w sv sh ∧ SI w cv cl
theorem CalP.keep {w w' : World} {v : Value} {sh : List Sp} {cl : List Int} (h : CalP w v sh cl) (hb : Below w.heap.size w w') : CalP w' v sh cl := by
  obtain ⟨B, sv, cv, rfl, h1, h2, h3, h4⟩ := h
  exact ⟨B, sv, cv, rfl, cell_keep hb h1, cell_keep hb h2, h3.keep hb, h4.keep hb⟩
/-- the reference's calendar: two slices -/
def CalR (w : World) (v : Value) (sh : List Sp) (cl : List Int) : Prop :=
  ∃ sv cv, v = .agg #[sv, cv] ∧ SP w sv sh ∧ SI w cv cl
theorem CalR.keep {w w' : World} {v : Value} {sh : List Sp} {cl : List Int} (h : CalR w v sh cl) (hb : Below w.heap.size w w') : CalR w' v sh cl := by
  obtain ⟨sv, cv, rfl, h3, h4⟩ := h
  exact ⟨sv, cv, rfl, h3.keep hb, h4.keep hb⟩
/-- right shifts and closed days -/
structure Good (sh : List Sp) (cl : List Int) : Prop where
  n1 : 1 ≤ sh.length
  n2 : sh.length ≤ 21
  n3 : cl.length ≤ 400
  os : OkS 0 sh
  oc : OkC (-1) cl
theorem good_of {sh : List Sp} {cl : List Int} (h : newE sh cl = 0) : Good sh cl := by
  obtain ⟨h1, h2, h3, h4, h5⟩ := newE_ok h
  exact ⟨h1, h2, h3, h4, h5⟩

/-- is a number a time? -/
def timeB (t : Int) : Bool := decide (0 ≤ t) && decide (t ≤ 1048576)
theorem time_any (t : Int) (w : World) : Calls Tryd.prog 18 #[.int .i64 t] w fun e w' => e = .returned (.bool (timeB t)) ∧ w' = w := by
  by_cases h1 : 0 ≤ t
  · have d1 : decide (0 ≤ t) = true := by simpa using h1
    have HT := Lib.hid (show timeB t = decide (t ≤ 1048576) by unfold timeB; rw [d1, Bool.true_and])
    go_enter Tryd.func18, Tryd.ntmps18
    go_wp2_with fail
    go_ret
    exact ⟨ret_bool HT.out.symm, rfl⟩
  · have d1 : decide (0 ≤ t) = false := by simpa using h1
    have HT := Lib.hid (show timeB t = false by unfold timeB; rw [d1, Bool.false_and])
    go_enter Tryd.func18, Tryd.ntmps18
    go_wp2_with fail
    go_ret
    exact ⟨ret_bool HT.out.symm, rfl⟩
end Go.Proofs.YtbjnpiaooehmjaaDoor
