/- Base of the walks of this seat: what it means that a slice value reads as a list, and small lemmas on worlds. Nothing of the program is said here. -/
import Derived.Test.YtlmfcigabojbmaaGreatDoorProg
import Derived.WalkKit
import Derived.Lib.Hide
import Derived.Handy
import Derived.Deep.QuietTactic
import Derived.BigQuiet
import Derived.Deep.RegionWith
import Derived.Deep.LoopGhost
import Derived.Deep.Draws
set_option linter.unusedSimpArgs false
set_option linter.unusedVariables false
namespace Go.Proofs.YtlmfcigabojbmaaGreatDoor
open Go.RowKit

/-- An element of a list of integers, closed to the walk. -/
def gi (xs : List Int) (k : Nat) : Int := xs.getD k 0
/-- A row of a list of rows, closed to the walk. -/
def ri (rs : List (List Int)) (k : Nat) : List Int := rs.getD k []

theorem gi_lt {xs : List Int} {k : Nat} (h : k < xs.length) : gi xs k = xs[k] := by simp [gi, h]
theorem gi_mem {xs : List Int} {k : Nat} (h : k < xs.length) : gi xs k ∈ xs := by rw [gi_lt h]; exact List.getElem_mem h
theorem mem_gi {xs : List Int} {x : Int} (h : x ∈ xs) : ∃ k, k < xs.length ∧ gi xs k = x := by
  obtain ⟨k, hk, rfl⟩ := List.mem_iff_getElem.1 h; exact ⟨k, hk, gi_lt hk⟩
theorem ri_lt {rs : List (List Int)} {k : Nat} (h : k < rs.length) : ri rs k = rs[k] := by simp [ri, h]
theorem ri_mem {rs : List (List Int)} {k : Nat} (h : k < rs.length) : ri rs k ∈ rs := by rw [ri_lt h]; exact List.getElem_mem h
theorem mem_ri {rs : List (List Int)} {x : List Int} (h : x ∈ rs) : ∃ k, k < rs.length ∧ ri rs k = x := by
  obtain ⟨k, hk, rfl⟩ := List.mem_iff_getElem.1 h; exact ⟨k, hk, ri_lt hk⟩
theorem gi_take {xs : List Int} {k n : Nat} (h : k < n) : gi (xs.take n) k = gi xs k := by
  simp [gi, List.getElem?_take, h]
theorem gi_drop {xs : List Int} {k n : Nat} : gi (xs.drop n) k = gi xs (n + k) := by
  simp [gi, List.getElem?_drop]
theorem gi_append_left {xs ys : List Int} {k : Nat} (h : k < xs.length) : gi (xs ++ ys) k = gi xs k := by
  simp [gi, List.getElem?_append_left h]
theorem gi_append_one {xs : List Int} {y : Int} : gi (xs ++ [y]) xs.length = y := by simp [gi]
theorem ri_append_left {xs ys : List (List Int)} {k : Nat} (h : k < xs.length) : ri (xs ++ ys) k = ri xs k := by
  simp [ri, List.getElem?_append_left h]
theorem ri_append_one {xs : List (List Int)} {y : List Int} : ri (xs ++ [y]) xs.length = y := by simp [ri]
theorem gi_ext {xs ys : List Int} (h : xs.length = ys.length) (g : ∀ i, i < xs.length → gi xs i = gi ys i) : xs = ys := by
  apply List.ext_getElem h
  intro i h1 h2
  have := g i h1
  rwa [gi_lt h1, gi_lt h2] at this
theorem ri_ext {xs ys : List (List Int)} (h : xs.length = ys.length) (g : ∀ i, i < xs.length → ri xs i = ri ys i) : xs = ys := by
  apply List.ext_getElem h
  intro i h1 h2
  have := g i h1
  rwa [ri_lt h1, ri_lt h2] at this
theorem take_succ_gi {xs : List Int} {k : Nat} (h : k < xs.length) : xs.take (k + 1) = xs.take k ++ [gi xs k] := by
  rw [List.take_succ_eq_append_getElem h, gi_lt h]
theorem take_succ_ri {xs : List (List Int)} {k : Nat} (h : k < xs.length) : xs.take (k + 1) = xs.take k ++ [ri xs k] := by
  rw [List.take_succ_eq_append_getElem h, ri_lt h]

/-- The slice value v has n elements of one cell each; element i holds C i. -/
def Sl (w : World) (v : Value) (n : Nat) (C : Nat → Value) : Prop :=
  ∃ a cap, v = .slice a n cap ∧ n ≤ cap ∧ cap ≤ maxLen ∧ ∀ i, i < n → ∃ b off, a = some ⟨b, off, none⟩ ∧ w.cell? ⟨b, off + i, none⟩ = some (C i)

/-- The slice value v reads as the integers xs. -/
def SI (w : World) (v : Value) (xs : List Int) : Prop := Sl w v xs.length fun i => .int .i64 (gi xs i)
/-- The slice value v reads as the rows rs. -/
def SS (w : World) (v : Value) (rs : List (List Int)) : Prop :=
  ∃ vs : Nat → Value, Sl w v rs.length vs ∧ ∀ i, i < rs.length → SI w (vs i) (ri rs i)

theorem cell_keep {w w' : World} (hb : Below w.heap.size w w') {p : Addr} {v : Value} (h : w.cell? p = some v) : w'.cell? p = some v :=
  (hb.cell (World.block_lt_of_cell? w _ h)).trans h

theorem Sl.keep {w w' : World} {v : Value} {n : Nat} {C : Nat → Value} (h : Sl w v n C) (hb : Below w.heap.size w w') : Sl w' v n C := by
  obtain ⟨a, cap, rfl, h1, h2, h3⟩ := h
  refine ⟨a, cap, rfl, h1, h2, fun i hi => ?_⟩
  obtain ⟨b, off, ha, hc⟩ := h3 i hi
  exact ⟨b, off, ha, cell_keep hb hc⟩
theorem SI.keep {w w' : World} {v : Value} {xs : List Int} (h : SI w v xs) (hb : Below w.heap.size w w') : SI w' v xs := Sl.keep h hb
theorem SS.keep {w w' : World} {v : Value} {rs : List (List Int)} (h : SS w v rs) (hb : Below w.heap.size w w') : SS w' v rs := by
  obtain ⟨vs, h1, h2⟩ := h
  exact ⟨vs, h1.keep hb, fun i hi => (h2 i hi).keep hb⟩

theorem Sl.drewN {w : World} {v : Value} {n : Nat} {C : Nat → Value} (h : Sl w v n C) (m : Nat) : Sl (w.drewN m) v n C := h
theorem SI.drewN {w : World} {v : Value} {xs : List Int} (h : SI w v xs) (m : Nat) : SI (w.drewN m) v xs := h
theorem SS.drewN {w : World} {v : Value} {rs : List (List Int)} (h : SS w v rs) (m : Nat) : SS (w.drewN m) v rs := h
theorem quiet_dd {P : Program} {f : FuncId} {args : Array Value} {w : World} {m n : Nat} {v : Value}
    (h : Calls P f args (w.drewN (m + n)) fun e w' => e = .returned v ∧ ∃ k, w' = (w.drewN (m + n)).drewN k) : Calls P f args (w.drewN (m + n)) fun e w'' => e = .returned v ∧ ∃ k, w'' = w.drewN (m + k) :=
  h.mono fun _ _ ⟨he, k, hk⟩ => ⟨he, n + k, by rw [hk, World.drewN_drewN, Nat.add_assoc]⟩
theorem dn2 (w : World) (m n : Nat) : ∃ k, (w.drewN m).drewN n = w.drewN k := ⟨m + n, by rw [World.drewN_drewN]⟩
theorem below_drewN' {B : Nat} {w w' : World} (h : Below B w w') (m : Nat) : Below B w (w'.drewN m) := ⟨h.os, h.tape, h.output, h.size, h.block⟩

/-- The cells of a slice that has an element. -/
theorem Sl.at {w : World} {a : Option Addr} {n : Nat} {C : Nat → Value} (h3 : ∀ i, i < n → ∃ b off, a = some ⟨b, off, none⟩ ∧ w.cell? ⟨b, off + i, none⟩ = some (C i)) {i : Nat} (hi : i < n) :
    ∃ b off, a = some ⟨b, off, none⟩ ∧ ∀ j, j < n → w.cell? ⟨b, off + j, none⟩ = some (C j) := by
  obtain ⟨b, off, ha, _⟩ := h3 i hi
  refine ⟨b, off, ha, fun j hj => ?_⟩
  obtain ⟨b', off', ha', hc⟩ := h3 j hj
  rw [ha] at ha'
  simp at ha'
  obtain ⟨rfl, rfl⟩ := ha'
  exact hc

theorem SI.len {w : World} {v : Value} {xs : List Int} (h : SI w v xs) : xs.length ≤ maxLen := by
  obtain ⟨a, cap, _, h1, h2, _⟩ := h; omega
theorem SS.len {w : World} {v : Value} {xs : List (List Int)} (h : SS w v xs) : xs.length ≤ maxLen := by
  obtain ⟨_, ⟨a, cap, _, h1, h2, _⟩, _⟩ := h; omega

theorem SI_nil (w : World) : SI w (.slice none 0 0) [] := ⟨none, 0, rfl, Nat.le_refl _, Nat.zero_le _, fun i hi => by simp at hi⟩
theorem SS_nil (w : World) : SS w (.slice none 0 0) [] := ⟨fun _ => undef, ⟨none, 0, rfl, Nat.le_refl _, Nat.zero_le _, fun i hi => by simp at hi⟩, fun i hi => by simp at hi⟩

/-- the beginning of a slice -/
theorem SI.take {w : World} {a : Option Addr} {cap : Nat} {xs : List Int} (h : SI w (.slice a xs.length cap) xs) (k : Nat) (hk : k ≤ xs.length) : SI w (.slice a k cap) (xs.take k) := by
  obtain ⟨a', cap', he, h1, h2, h3⟩ := h
  simp at he
  obtain ⟨rfl, rfl⟩ := he
  have hl : (xs.take k).length = k := by simp; omega
  refine ⟨a, cap, by rw [hl], by omega, h2, fun i hi => ?_⟩
  rw [hl] at hi
  obtain ⟨b, off, ha, hc⟩ := h3 i (by omega)
  exact ⟨b, off, ha, by dsimp only; rw [gi_take hi]; exact hc⟩

/-- the end of a slice -/
theorem SI.drop {w : World} {b off cap n : Nat} {xs : List Int} (h : SI w (.slice (some ⟨b, off, none⟩) n cap) xs) (k : Nat) (hk : k ≤ n) : SI w (.slice (some ⟨b, off + k, none⟩) (n - k) (cap - k)) (xs.drop k) := by
  obtain ⟨a', cap', he, h1, h2, h3⟩ := h
  simp at he
  obtain ⟨rfl, rfl, rfl⟩ := he
  have hl : (xs.drop k).length = xs.length - k := by simp
  refine ⟨some ⟨b, off + k, none⟩, cap - k, by rw [hl], by omega, by omega, fun i hi => ?_⟩
  rw [hl] at hi
  obtain ⟨b', off', ha, hc⟩ := h3 (k + i) (by omega)
  simp at ha
  obtain ⟨rfl, rfl⟩ := ha
  exact ⟨b, off + k, rfl, by dsimp only; rw [gi_drop, Nat.add_assoc]; exact hc⟩

theorem SI.drop_nil {w : World} {a : Option Addr} {n cap cap' : Nat} {xs : List Int} (h : SI w (.slice a n cap) xs) (hc : cap' ≤ cap) (b : Option Addr) : SI w (.slice b 0 cap') (xs.drop n) := by
  obtain ⟨a', cap'', he, h1, h2, h3⟩ := h
  simp at he
  obtain ⟨rfl, rfl, rfl⟩ := he
  have hl : (xs.drop xs.length).length = 0 := by simp
  exact ⟨b, cap', by rw [hl], by omega, by omega, fun i hi => by rw [hl] at hi; omega⟩

theorem ext_trans {a b c : World} (h : Below a.heap.size a b) (k : Below b.heap.size b c) : Below a.heap.size a c := h.trans (k.mono h.size)

theorem upto {q : Nat → Prop} {k : Nat} (h : ∀ j, j < k → q j) (hk : q k) : ∀ j, j < k + 1 → q j := by
  intro j hj
  by_cases e : j = k
  · subst e; exact hk
  · exact h j (by omega)
theorem ret_int {k : IntKind} {a b : Int} (h : a = b) : Ending.returned (.int k a) = .returned (.int k b) := by rw [h]
theorem ret_bool {a b : Bool} (h : a = b) : Ending.returned (.bool a) = .returned (.bool b) := by rw [h]

/-- a row of the call's own reads as a slice -/
theorem Sl_of_owns {w : World} {base : Nat} {e : TypeId} {v : Value} {n : Nat} {xs : List Value} (h : w.ownsRow base e 1 v n xs) : Sl w v n fun i => xs.getD i undef := by
  obtain ⟨hl, h2⟩ := h
  rcases h2 with ⟨rfl, rfl⟩ | ⟨g, cap, cur, rfl, hb, hg, hn, hm, hs, ht⟩
  · exact ⟨none, 0, rfl, Nat.le_refl _, Nat.zero_le _, fun i hi => by omega⟩
  · refine ⟨_, cap, rfl, hn, hm, fun i hi => ⟨g, 0, rfl, ?_⟩⟩
    have hi' : i < xs.length := by omega
    rw [Nat.zero_add, cell_of_row w g i cur e (0, 0) hg]
    rw [← ht]
    simp [List.getElem?_take]
    have : i < cur.size := by omega
    simp [this, hi]

theorem SI_of_owns {w : World} {base : Nat} {e : TypeId} {v : Value} {n : Nat} {xs : List Int} (h : w.ownsRow base e 1 v n (xs.map (Value.int .i64))) : SI w v xs := by
  have hl : xs.length = n := by have := h.1; simpa using this
  obtain ⟨a, cap, rfl, h1, h2, h3⟩ := Sl_of_owns h
  refine ⟨a, cap, by rw [hl], by omega, h2, fun i hi => ?_⟩
  obtain ⟨b, off, ha, hc⟩ := h3 i (by omega)
  refine ⟨b, off, ha, ?_⟩
  rw [hc]
  dsimp only
  rw [gi_lt hi]
  simp [hi]

theorem SS_of_owns {w : World} {base : Nat} {e : TypeId} {v : Value} {n : Nat} {vs : List Value} {rs : List (List Int)} (h : w.ownsRow base e 1 v n vs) (hl : rs.length = n)
    (hr : ∀ i, i < n → SI w (vs.getD i undef) (ri rs i)) : SS w v rs := by
  subst hl
  exact ⟨_, Sl_of_owns h, hr⟩

/-- The end of a function that returns v and keeps all that was there. -/
def Ret (w : World) (v : Value) (e : Ending) (w' : World) : Prop := e = .returned v ∧ Below w.heap.size w w'
/-- It returns a slice of integers. -/
def RetI (w : World) (xs : List Int) (e : Ending) (w' : World) : Prop := ∃ v, e = .returned v ∧ SI w' v xs ∧ Below w.heap.size w w'
def RetIE (w : World) (xs : List Int) (er : Int) (e : Ending) (w' : World) : Prop := ∃ v, e = .returned (.tuple #[v, .int .i64 er]) ∧ SI w' v xs ∧ Below w.heap.size w w'
/-- It returns rows. -/
def RetS (w : World) (rs : List (List Int)) (e : Ending) (w' : World) : Prop := ∃ v, e = .returned v ∧ SS w' v rs ∧ Below w.heap.size w w'
def RetSE (w : World) (rs : List (List Int)) (er : Int) (e : Ending) (w' : World) : Prop := ∃ v, e = .returned (.tuple #[v, .int .i64 er]) ∧ SS w' v rs ∧ Below w.heap.size w w'
theorem retSE {w w' : World} {rs rs' : List (List Int)} {er er' : Int} {e : Ending} {v : Value} (he : e = .returned (.tuple #[v, .int .i64 er'])) (h : er' = er) (hs : SS w' v rs') (hr : rs' = rs) (hb : Below w.heap.size w w') : RetSE w rs er e w' := by
  subst h hr; exact ⟨v, he, hs, hb⟩
theorem retIE {w w' : World} {rs rs' : List Int} {er er' : Int} {e : Ending} {v : Value} (he : e = .returned (.tuple #[v, .int .i64 er'])) (h : er' = er) (hs : SI w' v rs') (hr : rs' = rs) (hb : Below w.heap.size w w') : RetIE w rs er e w' := by
  subst h hr; exact ⟨v, he, hs, hb⟩
/-- It returns a number and an error. -/
def RetNE (w : World) (n er : Int) (e : Ending) (w' : World) : Prop := e = .returned (.tuple #[.int .i64 n, .int .i64 er]) ∧ Below w.heap.size w w'
theorem retNE {w w' : World} {n n' er er' : Int} {e : Ending} (he : e = .returned (.tuple #[.int .i64 n', .int .i64 er'])) (h : er' = er) (hn : n' = n) (hb : Below w.heap.size w w') : RetNE w n er e w' := by
  subst h hn; exact ⟨he, hb⟩
end Go.Proofs.YtlmfcigabojbmaaGreatDoor
