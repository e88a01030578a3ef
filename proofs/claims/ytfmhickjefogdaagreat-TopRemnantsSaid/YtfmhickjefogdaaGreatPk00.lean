/- Contracts of the functions of package slices that this seat calls. -/
import Derived.Test.YtfmhickjefogdaaGreatProg
import Derived.WalkKit
import Derived.Lib.Hide
import Derived.Handy
import Derived.Deep.QuietTactic
import Derived.BigQuiet
import Derived.Deep.RegionWith
import Derived.Deep.LoopGhost
import Derived.Deep.Draws
import Derived.Deep.MidRow
import Derived.Deep.Quiet
set_option linter.unusedSimpArgs false
set_option linter.unusedVariables false

/- Base of the walks of this seat: what it means that a slice value reads as a list, and small lemmas on worlds. Nothing of the program is said here. -/
namespace Go.Proofs.YtfmhickjefogdaaGreat
open Go.RowKit

/-- An element of a list of integers, closed to the walk. -/
def gi (xs : List Int) (k : Nat) : Int := xs.getD k 0
/-- A row of a list of rows, closed to the walk. -/
def ri (rs : List (List Int)) (k : Nat) : List Int := rs.getD k []

theorem gi_lt {xs : List Int} {k : Nat} (h : k < xs.length) : gi xs k = xs[k] := by simp [gi, h]
theorem gi_mem {xs : List Int} {k : Nat} (h : k < xs.length) : gi xs k ∈ xs := by rw [gi_lt h]; exact List.getElem_mem h
theorem mem_gi {xs : List Int} {x : Int} (h : x ∈ xs) : ∃ k, k < xs.length ∧ gi xs k = x := by
  obtain ⟨k, hk, rfl⟩ := List.mem_iff_getElem.1 h; exact ⟨k, hk, gi_lt hk⟩
theorem ri_lt {rs : List (List Int)} {k : Nat} (h : k < rs.length) : ri rs k = rs[k] := by simp [ri, h]
theorem ri_mem {rs : List (List Int)} {k : Nat} (h : k < rs.length) : ri rs k ∈ rs := by rw [ri_lt h]; exact List.getElem_mem h
theorem mem_ri {rs : List (List Int)} {x : List Int} (h : x ∈ rs) : ∃ k, k < rs.length ∧ ri rs k = x := by
  obtain ⟨k, hk, rfl⟩ := List.mem_iff_getElem.1 h; exact ⟨k, hk, ri_lt hk⟩
theorem gi_take {xs : List Int} {k n : Nat} (h : k < n) : gi (xs.take n) k = gi xs k := by
  simp [gi, List.getElem?_take, h]
theorem gi_drop {xs : List Int} {k n : Nat} : gi (xs.drop n) k = gi xs (n + k) := by
  simp [gi, List.getElem?_drop]
theorem gi_append_left {xs ys : List Int} {k : Nat} (h : k < xs.length) : gi (xs ++ ys) k = gi xs k := by
  simp [gi, List.getElem?_append_left h]
theorem gi_append_one {xs : List Int} {y : Int} : gi (xs ++ [y]) xs.length = y := by simp [gi]
theorem ri_append_left {xs ys : List (List Int)} {k : Nat} (h : k < xs.length) : ri (xs ++ ys) k = ri xs k := by
  simp [ri, List.getElem?_append_left h]
theorem ri_append_one {xs : List (List Int)} {y : List Int} : ri (xs ++ [y]) xs.length = y := by simp [ri]
theorem gi_ext {xs ys : List Int} (h : xs.length = ys.length) (g : ∀ i, i < xs.length → gi xs i = gi ys i) : xs = ys := by
  apply List.ext_getElem h
  intro i h1 h2
  have := g i h1
  rwa [gi_lt h1, gi_lt h2] at this
theorem ri_ext {xs ys : List (List Int)} (h : xs.length = ys.length) (g : ∀ i, i < xs.length → ri xs i = ri ys i) : xs = ys := by
  apply List.ext_getElem h
  intro i h1 h2
  have := g i h1
  rwa [ri_lt h1, ri_lt h2] at this
theorem take_succ_gi {xs : List Int} {k : Nat} (h : k < xs.length) : xs.take (k + 1) = xs.take k ++ [gi xs k] := by
  rw [List.take_succ_eq_append_getElem h, gi_lt h]
theorem take_succ_ri {xs : List (List Int)} {k : Nat} (h : k < xs.length) : xs.take (k + 1) = xs.take k ++ [ri xs k] := by
  rw [List.take_succ_eq_append_getElem h, ri_lt h]

/-- The slice value v has n elements of one cell each; element i holds C i. -/
def Sl (w : World) (v : Value) (n : Nat) (C : Nat → Value) : Prop :=
  ∃ a cap, v = .slice a n cap ∧ n ≤ cap ∧ cap ≤ maxLen ∧ ∀ i, i < n → ∃ b off, a = some ⟨b, off, none⟩ ∧ w.cell? ⟨b, off + i, none⟩ = some (C i)

/-- The slice value v reads as the integers xs. -/
def SI (w : World) (v : Value) (xs : List Int) : Prop := Sl w v xs.length fun i => .int .i64 (gi xs i)
/-- The slice value v reads as the rows rs. -/
def SS (w : World) (v : Value) (rs : List (List Int)) : Prop :=
  ∃ vs : Nat → Value, Sl w v rs.length vs ∧ ∀ i, i < rs.length → SI w (vs i) (ri rs i)

theorem cell_keep {w w' : World} (hb : Below w.heap.size w w') {p : Addr} {v : Value} (h : w.cell? p = some v) : w'.cell? p = some v :=
  (hb.cell (World.block_lt_of_cell? w _ h)).trans h

theorem Sl.keep {w w' : World} {v : Value} {n : Nat} {C : Nat → Value} (h : Sl w v n C) (hb : Below w.heap.size w w') : Sl w' v n C := by
  obtain ⟨a, cap, rfl, h1, h2, h3⟩ := h
  refine ⟨a, cap, rfl, h1, h2, fun i hi => ?_⟩
  obtain ⟨b, off, ha, hc⟩ := h3 i hi
  exact ⟨b, off, ha, cell_keep hb hc⟩
theorem SI.keep {w w' : World} {v : Value} {xs : List Int} (h : SI w v xs) (hb : Below w.heap.size w w') : SI w' v xs := Sl.keep h hb
theorem SS.keep {w w' : World} {v : Value} {rs : List (List Int)} (h : SS w v rs) (hb : Below w.heap.size w w') : SS w' v rs := by
  obtain ⟨vs, h1, h2⟩ := h
  exact ⟨vs, h1.keep hb, fun i hi => (h2 i hi).keep hb⟩

theorem Sl.drewN {w : World} {v : Value} {n : Nat} {C : Nat → Value} (h : Sl w v n C) (m : Nat) : Sl (w.drewN m) v n C := h
theorem SI.drewN {w : World} {v : Value} {xs : List Int} (h : SI w v xs) (m : Nat) : SI (w.drewN m) v xs := h
theorem SS.drewN {w : World} {v : Value} {rs : List (List Int)} (h : SS w v rs) (m : Nat) : SS (w.drewN m) v rs := h
theorem quiet_dd {P : Program} {f : FuncId} {args : Array Value} {w : World} {m n : Nat} {v : Value}
    (h : Calls P f args (w.drewN (m + n)) fun e w' => e = .returned v ∧ ∃ k, w' = (w.drewN (m + n)).drewN k) : Calls P f args (w.drewN (m + n)) fun e w'' => e = .returned v ∧ ∃ k, w'' = w.drewN (m + k) :=
  h.mono fun _ _ ⟨he, k, hk⟩ => ⟨he, n + k, by rw [hk, World.drewN_drewN, Nat.add_assoc]⟩
theorem dn2 (w : World) (m n : Nat) : ∃ k, (w.drewN m).drewN n = w.drewN k := ⟨m + n, by rw [World.drewN_drewN]⟩
theorem below_drewN' {B : Nat} {w w' : World} (h : Below B w w') (m : Nat) : Below B w (w'.drewN m) := ⟨h.os, h.tape, h.output, h.size, h.block⟩

/-- The cells of a slice that has an element. -/
theorem Sl.at {w : World} {a : Option Addr} {n : Nat} {C : Nat → Value} (h3 : ∀ i, i < n → ∃ b off, a = some ⟨b, off, none⟩ ∧ w.cell? ⟨b, off + i, none⟩ = some (C i)) {i : Nat} (hi : i < n) :
    ∃ b off, a = some ⟨b, off, none⟩ ∧ ∀ j, j < n → w.cell? ⟨b, off + j, none⟩ = some (C j) := by
  obtain ⟨b, off, ha, _⟩ := h3 i hi
  refine ⟨b, off, ha, fun j hj => ?_⟩
  obtain ⟨b', off', ha', hc⟩ := h3 j hj
  rw [ha] at ha'
  simp at ha'
  obtain ⟨rfl, rfl⟩ := ha'
  exact hc

theorem SI.len {w : World} {v : Value} {xs : List Int} (h : SI w v xs) : xs.length ≤ maxLen := by
  obtain ⟨a, cap, _, h1, h2, _⟩ := h; omega
theorem SS.len {w : World} {v : Value} {xs : List (List Int)} (h : SS w v xs) : xs.length ≤ maxLen := by
  obtain ⟨_, ⟨a, cap, _, h1, h2, _⟩, _⟩ := h; omega

theorem SI_nil (w : World) : SI w (.slice none 0 0) [] := ⟨none, 0, rfl, Nat.le_refl _, Nat.zero_le _, fun i hi => by simp at hi⟩
theorem SS_nil (w : World) : SS w (.slice none 0 0) [] := ⟨fun _ => undef, ⟨none, 0, rfl, Nat.le_refl _, Nat.zero_le _, fun i hi => by simp at hi⟩, fun i hi => by simp at hi⟩

/-- the beginning of a slice -/
theorem SI.take {w : World} {a : Option Addr} {cap : Nat} {xs : List Int} (h : SI w (.slice a xs.length cap) xs) (k : Nat) (hk : k ≤ xs.length) : SI w (.slice a k cap) (xs.take k) := by
  obtain ⟨a', cap', he, h1, h2, h3⟩ := h
  simp at he
  obtain ⟨rfl, rfl⟩ := he
  have hl : (xs.take k).length = k := by simp; omega
  refine ⟨a, cap, by rw [hl], by omega, h2, fun i hi => ?_⟩
  rw [hl] at hi
  obtain ⟨b, off, ha, hc⟩ := h3 i (by omega)
  exact ⟨b, off, ha, by dsimp only; rw [gi_take hi]; exact hc⟩

/-- the end of a slice -/
theorem SI.drop {w : World} {b off cap n : Nat} {xs : List Int} (h : SI w (.slice (some ⟨b, off, none⟩) n cap) xs) (k : Nat) (hk : k ≤ n) : SI w (.slice (some ⟨b, off + k, none⟩) (n - k) (cap - k)) (xs.drop k) := by
  obtain ⟨a', cap', he, h1, h2, h3⟩ := h
  simp at he
  obtain ⟨rfl, rfl, rfl⟩ := he
  have hl : (xs.drop k).length = xs.length - k := by simp
  refine ⟨some ⟨b, off + k, none⟩, cap - k, by rw [hl], by omega, by omega, fun i hi => ?_⟩
  rw [hl] at hi
  obtain ⟨b', off', ha, hc⟩ := h3 (k + i) (by omega)
  simp at ha
  obtain ⟨rfl, rfl⟩ := ha
  exact ⟨b, off + k, rfl, by dsimp only; rw [gi_drop, Nat.add_assoc]; exact hc⟩

theorem SI.drop_nil {w : World} {a : Option Addr} {n cap cap' : Nat} {xs : List Int} (h : SI w (.slice a n cap) xs) (hc : cap' ≤ cap) (b : Option Addr) : SI w (.slice b 0 cap') (xs.drop n) := by
  obtain ⟨a', cap'', he, h1, h2, h3⟩ := h
  simp at he
  obtain ⟨rfl, rfl, rfl⟩ := he
  have hl : (xs.drop xs.length).length = 0 := by simp
  exact ⟨b, cap', by rw [hl], by omega, by omega, fun i hi => by rw [hl] at hi; omega⟩

theorem ext_trans {a b c : World} (h : Below a.heap.size a b) (k : Below b.heap.size b c) : Below a.heap.size a c := h.trans (k.mono h.size)

theorem upto {q : Nat → Prop} {k : Nat} (h : ∀ j, j < k → q j) (hk : q k) : ∀ j, j < k + 1 → q j := by
  intro j hj
  by_cases e : j = k
  · subst e; exact hk
  · exact h j (by omega)
theorem ret_int {k : IntKind} {a b : Int} (h : a = b) : Ending.returned (.int k a) = .returned (.int k b) := by rw [h]
theorem ret_bool {a b : Bool} (h : a = b) : Ending.returned (.bool a) = .returned (.bool b) := by rw [h]

/-- a row of the call's own reads as a slice -/
theorem Sl_of_owns {w : World} {base : Nat} {e : TypeId} {v : Value} {n : Nat} {xs : List Value} (h : w.ownsRow base e 1 v n xs) : Sl w v n fun i => xs.getD i undef := by
  obtain ⟨hl, h2⟩ := h
  rcases h2 with ⟨rfl, rfl⟩ | ⟨g, cap, cur, rfl, hb, hg, hn, hm, hs, ht⟩
  · exact ⟨none, 0, rfl, Nat.le_refl _, Nat.zero_le _, fun i hi => by omega⟩
  · refine ⟨_, cap, rfl, hn, hm, fun i hi => ⟨g, 0, rfl, ?_⟩⟩
    have hi' : i < xs.length := by omega
    rw [Nat.zero_add, cell_of_row w g i cur e (0, 0) hg]
    rw [← ht]
    simp [List.getElem?_take]
    have : i < cur.size := by omega
    simp [this, hi]

theorem SI_of_owns {w : World} {base : Nat} {e : TypeId} {v : Value} {n : Nat} {xs : List Int} (h : w.ownsRow base e 1 v n (xs.map (Value.int .i64))) : SI w v xs := by
  have hl : xs.length = n := by have := h.1; simpa using this
  obtain ⟨a, cap, rfl, h1, h2, h3⟩ := Sl_of_owns h
  refine ⟨a, cap, by rw [hl], by omega, h2, fun i hi => ?_⟩
  obtain ⟨b, off, ha, hc⟩ := h3 i (by omega)
  refine ⟨b, off, ha, ?_⟩
  rw [hc]
  dsimp only
  rw [gi_lt hi]
  simp [hi]

theorem SS_of_owns {w : World} {base : Nat} {e : TypeId} {v : Value} {n : Nat} {vs : List Value} {rs : List (List Int)} (h : w.ownsRow base e 1 v n vs) (hl : rs.length = n)
    (hr : ∀ i, i < n → SI w (vs.getD i undef) (ri rs i)) : SS w v rs := by
  subst hl
  exact ⟨_, Sl_of_owns h, hr⟩

/-- The end of a function that returns v and keeps all that was there. -/
def Ret (w : World) (v : Value) (e : Ending) (w' : World) : Prop := e = .returned v ∧ Below w.heap.size w w'
/-- It returns a slice of integers. -/
def RetI (w : World) (xs : List Int) (e : Ending) (w' : World) : Prop := ∃ v, e = .returned v ∧ SI w' v xs ∧ Below w.heap.size w w'
def RetIE (w : World) (xs : List Int) (er : Int) (e : Ending) (w' : World) : Prop := ∃ v, e = .returned (.tuple #[v, .int .i64 er]) ∧ SI w' v xs ∧ Below w.heap.size w w'
/-- It returns rows. -/
def RetS (w : World) (rs : List (List Int)) (e : Ending) (w' : World) : Prop := ∃ v, e = .returned v ∧ SS w' v rs ∧ Below w.heap.size w w'
def RetSE (w : World) (rs : List (List Int)) (er : Int) (e : Ending) (w' : World) : Prop := ∃ v, e = .returned (.tuple #[v, .int .i64 er]) ∧ SS w' v rs ∧ Below w.heap.size w w'
theorem retSE {w w' : World} {rs rs' : List (List Int)} {er er' : Int} {e : Ending} {v : Value} (he : e = .returned (.tuple #[v, .int .i64 er'])) (h : er' = er) (hs : SS w' v rs') (hr : rs' = rs) (hb : Below w.heap.size w w') : RetSE w rs er e w' := by
  subst h hr; exact ⟨v, he, hs, hb⟩
theorem retIE {w w' : World} {rs rs' : List Int} {er er' : Int} {e : Ending} {v : Value} (he : e = .returned (.tuple #[v, .int .i64 er'])) (h : er' = er) (hs : SI w' v rs') (hr : rs' = rs) (hb : Below w.heap.size w w') : RetIE w rs er e w' := by
  subst h hr; exact ⟨v, he, hs, hb⟩
/-- It returns a number and an error. -/
def RetNE (w : World) (n er : Int) (e : Ending) (w' : World) : Prop := e = .returned (.tuple #[.int .i64 n, .int .i64 er]) ∧ Below w.heap.size w w'
theorem retNE {w w' : World} {n n' er er' : Int} {e : Ending} (he : e = .returned (.tuple #[.int .i64 n', .int .i64 er'])) (h : er' = er) (hn : n' = n) (hb : Below w.heap.size w w') : RetNE w n er e w' := by
  subst h hn; exact ⟨he, hb⟩
end Go.Proofs.YtfmhickjefogdaaGreat

/- Regions whose operations only read, reckon and call: what they leave in their slots, reckoned in one go (no branch at a guard). -/
namespace Go.Proofs.YtfmhickjefogdaaGreat
open Go.RowKit

/-- what a slot holds: a value, or the place of a cell of a known object -/
inductive SW where
  | v (x : Value)
  | p (k o : Nat)
/-- an object in memory: its cells from one place on -/
structure Ob where
  b : Nat
  off : Nat
  cells : List Value
instance : Inhabited Ob := ⟨⟨0, 0, []⟩⟩
def obi (E : List Ob) (k : Nat) : Ob := E.getD k default
def SW.den (E : List Ob) : SW → Value
  | .v x => x
  | .p k o => .pointer (some ⟨(obi E k).b, (obi E k).off + o, none⟩)
/-- what is told of the types: where a field lies; what is loaded as one cell, as several; how many cells an element of a slice has -/
structure QTab where
  fo : TypeId → Nat → Option Nat
  sc : TypeId → Bool
  ag : TypeId → Option Nat
  es : TypeId → Option Nat
  ln : TypeId → Bool
  en : FuncId → Bool
  sl : TypeId → Bool
  /-- sums wrap (no side condition) -/
  wr : Bool := false
inductive Hint where
  | ix (j k : Nat)
  | ret (x : Value)
  | nat (j : Nat)
structure Ent where
  n : Nat
  path : List (Nat × Bool)
  sw : SW
def Bs := List (Nat × Bool)
def onB (H : List (Nat × Bool)) : List (Nat × Bool) → Bool
  | [] => true
  | (j, b) :: p => (match H.lookup j with | some c => c == b | none => false) && onB H p
def eqP : List (Nat × Bool) → List (Nat × Bool) → Bool
  | [], [] => true
  | (j, b) :: p, (k, c) :: q => match Nat.beq j k with
    | true => (match b, c with | true, true => eqP p q | false, false => eqP p q | _, _ => false)
    | false => false
  | _, _ => false
/-- q is the end of p -/
def sufB (q : List (Nat × Bool)) : List (Nat × Bool) → Bool
  | [] => eqP q []
  | x :: p => match eqP q (x :: p) with | true => true | false => sufB q p
def lookS : List Ent → Nat → Option Ent
  | [], _ => none
  | e :: S, n => match Nat.beq e.n n with | true => some e | false => lookS S n
def lookP {α : Type} : List (Nat × α) → Nat → Option α
  | [], _ => none
  | (m, k) :: l, n => match Nat.beq m n with | true => some k | false => lookP l n
def forceV (x : Value) (k : Value → Prop) : Prop := match x with
  | .bool b => k (.bool b)
  | .int i z => k (.int i z)
  | .string s => k (.string s)
  | .pointer a => k (.pointer a)
  | .slice a n c => k (.slice a n c)
  | .agg cs => k (.agg cs)
  | .tuple cs => k (.tuple cs)
  | y => k y
theorem forceV_eq (x : Value) (k : Value → Prop) : forceV x k = k x := by cases x <;> rfl
/-- where the tests of a path say so -/
def under (S : List Ent) : List (Nat × Bool) → Prop → Prop
  | [], q => q
  | (n, b) :: p, q => match lookS S n with
    | some ⟨_, _, .v (.bool c)⟩ => c = b → under S p q
    | _ => under S p q
structure IxOk (j l b off q : Nat) (o : Ob) : Prop where
  lt : j < l
  hb : o.b = b
  ho : o.off = off + j * q
section
variable (a0 : Act) (ps : List (Nat × Nat)) (T : QTab) (E : List Ob) (C : World → Prop) (R : World → World → Prop) (hs : List (Nat × Hint))
/-- which slots point to the objects -/
def psOk : List (Nat × Nat) → Prop
  | [] => True
  | (n, o) :: l => a0.eval (.tmp n) = (SW.p o 0).den E ∧ psOk l
def evX (S : List Ent) (path : List (Nat × Bool)) (x : Operand) (k : SW → Prop) : Prop := match x with
  | .const v => k (.v v)
  | .func f => k (.v (.func (.func f) #[] #[]))
  | .global g => k (.v (.pointer (some ⟨g, 0, none⟩)))
  | .tmp n => match lookS S n with
    | some ⟨_, p, s⟩ => (match sufB p path with | true => k s | false => False)
    | none => match lookP ps n with
      | some o => k (.p o 0)
      | none => forceV (a0.eval (.tmp n)) fun v => k (.v v)
def evXs (S : List Ent) (path : List (Nat × Bool)) : List Operand → (List Value → Prop) → Prop
  | [], k => k []
  | x :: l, k => evX a0 ps S path x fun s => evXs S path l fun vs => k (s.den E :: vs)
def evCmp (wr : Bool) (S : List Ent) (path : List (Nat × Bool)) (op : BinOp) (p q : Int) (k : SW → Prop) : Prop := match op with
  | .lss => k (.v (.bool (decide (p < q))))
  | .leq => k (.v (.bool (decide (p ≤ q))))
  | .gtr => k (.v (.bool (decide (q < p))))
  | .geq => k (.v (.bool (decide (q ≤ p))))
  | .eql => k (.v (.bool (p == q)))
  | .neq => k (.v (.bool (p != q)))
  | .add => (match wr with | true => k (.v (.int .i64 (IntKind.i64.wrap (p + q)))) | false => under S path (-9223372036854775808 ≤ p + q ∧ p + q ≤ 9223372036854775807) ∧ k (.v (.int .i64 (p + q))))
  | .sub => (match wr with | true => k (.v (.int .i64 (IntKind.i64.wrap (p - q)))) | false => under S path (-9223372036854775808 ≤ p - q ∧ p - q ≤ 9223372036854775807) ∧ k (.v (.int .i64 (p - q))))
  | .mul => (match wr with | true => k (.v (.int .i64 (IntKind.i64.wrap (p * q)))) | false => under S path (-9223372036854775808 ≤ p * q ∧ p * q ≤ 9223372036854775807) ∧ k (.v (.int .i64 (p * q))))
  | .quo => under S path (q ≠ 0) ∧ k (.v (.int .i64 (IntKind.i64.wrap (p.tdiv q))))
  | .rem => under S path (q ≠ 0) ∧ k (.v (.int .i64 (p.tmod q)))
  | _ => False
def evBin (wr : Bool) (S : List Ent) (path : List (Nat × Bool)) (op : BinOp) (s u : SW) (k : SW → Prop) : Prop := match s, u with
  | .v (.int .i64 p), .v (.int .i64 q) => evCmp wr S path op p q k
  | .v (.string s), .v (.string u) => (match op with
    | .eql => k (.v (.bool (s.toList == u.toList)))
    | .neq => k (.v (.bool (!(s.toList == u.toList))))
    | .lss => k (.v (.bool (Op.bytesLess s.toList u.toList)))
    | .leq => k (.v (.bool (Op.bytesLess s.toList u.toList || s.toList == u.toList)))
    | .geq => k (.v (.bool (!Op.bytesLess s.toList u.toList)))
    | _ => False)
  | _, _ => False
def evLoad (t : TypeId) (s : SW) (k : SW → Prop) : Prop := match s with
  | .p n d => (match T.sc t with
    | true => (match (obi E n).cells[d]? with | some v => forceV v fun v => k (.v v) | none => False)
    | false => (match T.ag t with
      | some m => d + m ≤ (obi E n).cells.length ∧ k (.v (.agg (((obi E n).cells.drop d).take m).toArray))
      | none => False))
  | _ => False
def evIx (S : List Ent) (path : List (Nat × Bool)) (t : TypeId) (h : Option Hint) (s u : SW) (k : SW → Prop) : Prop := match h with
  | some (.ix j n) => (match s, u with
    | .v (.slice (some ⟨b, off, none⟩) l _), .v (.int .i64 z) => (match T.es t with
      | some q => under S path (z = (j : Int) ∧ IxOk j l b off q (obi E n)) ∧ k (.p n 0)
      | none => False)
    | .p n0 d0, .v (.int .i64 z) => under S path (∀ w, (Instr.indexAt t ((SW.p n0 d0).den E) (.int .i64 z)).run Tryz.prog w = .ok ((SW.p n j).den E) w) ∧ k (.p n j)
    | _, _ => False)
  | _ => False
def evCall (S : List Ent) (path : List (Nat × Bool)) (h : Option Hint) (c : Call) (k : SW → Prop) : Prop := match c.callee with
  | .builtin .len => (match c.args.toList, c.argTypes.toList with
    | [x], [t] => evX a0 ps S path x fun s => (match s with
      | .v (.slice _ n _) => (match T.ln t with | true => k (.v (.int .i64 n)) | false => False)
      | _ => False)
    | _, _ => False)
  | .builtin .max => (match c.args.toList with
    | [x, y] => evX a0 ps S path x fun s => evX a0 ps S path y fun u => (match s, u with
      | .v (.int .i64 p), .v (.int .i64 q) => k (.v (.int .i64 (max p q)))
      | _, _ => False)
    | _ => False)
  | .builtin .min => (match c.args.toList with
    | [x, y] => evX a0 ps S path x fun s => evX a0 ps S path y fun u => (match s, u with
      | .v (.int .i64 p), .v (.int .i64 q) => k (.v (.int .i64 (min p q)))
      | _, _ => False)
    | _ => False)
  | .value (.func f) => (match h with
    | some (.ret v) => (match T.en f with
      | true => evXs a0 ps E S path c.args.toList fun vs => under S path (∀ w, C w → Calls Tryz.prog f vs.toArray w fun e w' => e = .returned v ∧ R w w') ∧ k (.v v)
      | false => False)
    | _ => False)
  | .value (.tmp t) => (match h with
    | some (.ret v) => evX a0 ps S path (.tmp t) fun s => (match s with
      | .v (.func (.func f) ⟨[]⟩ caps) => (match T.en f with
        | true => evXs a0 ps E S path c.args.toList fun vs => under S path (∀ w, C w → Calls Tryz.prog f (vs.toArray ++ caps) w fun e w' => e = .returned v ∧ R w w') ∧ k (.v v)
        | false => False)
      | _ => False)
    | _ => False)
  | _ => False
def evOp (S : List Ent) (path : List (Nat × Bool)) (h : Option Hint) (o : Op) (k : SW → Prop) : Prop := match o with
  | .move x => evX a0 ps S path x k
  | .assign x => evX a0 ps S path x k
  | .load t x => evX a0 ps S path x fun s => (match h with
    | some (.ix d n) => evLoad T E t s fun r => under S path (r.den E = (SW.p n d).den E) ∧ k (.p n d)
    | _ => evLoad T E t s k)
  | .fieldAddr t x f => evX a0 ps S path x fun s => (match s with
    | .p n d => (match T.fo t f with | some q => k (.p n (d + q)) | none => False)
    | _ => False)
  | .indexAddr t x y => evX a0 ps S path x fun s => evX a0 ps S path y fun u => evIx T E S path t h s u k
  | .binOp b t x y _ => evX a0 ps S path x fun s => evX a0 ps S path y fun u => (match h with
    | some (.ret v) => under S path (∀ x y w, (eqGuard b t x y (s.den E) (u.den E)).run Tryz.prog w = .ok () w ∧ (binOp b t (s.den E) (u.den E)).run Tryz.prog w = .ok v w) ∧ k (.v v)
    | _ => evBin T.wr S path b s u k)
  | .unOp .not _ x => evX a0 ps S path x fun s => (match s with | .v (.bool b) => k (.v (.bool (!b))) | _ => False)
  | .unOp .neg _ x => evX a0 ps S path x fun s => (match s with | .v (.int .i64 n) => k (.v (.int .i64 (IntKind.i64.wrap (-n)))) | _ => False)
  | .extract x n => evX a0 ps S path x fun s => (match s with
    | .v (.tuple vs) => (match vs.toList[n]? with | some v => forceV v fun v => k (.v v) | none => False)
    | _ => False)
  | .call c => evCall a0 ps T E C R S path h c k
  | .nilCheck x => evX a0 ps S path x fun s => (match s with | .p n d => k (.p n d) | _ => False)
  | .lookup t x y ok => (match h with
    | some (.ret v) => evX a0 ps S path x fun s => evX a0 ps S path y fun u => under S path (∀ w, C w → (Instr.lookup t (s.den E) (u.den E) ok).run Tryz.prog w = .ok v w) ∧ k (.v v)
    | _ => False)
  | .build t parts => (match h with
    | some (.ret v) => evXs a0 ps E S path (parts.toList.map (·.2)) fun vs => under S path (∀ w, (Instr.build t ((parts.toList.map (·.1)).zip vs).toArray).run Tryz.prog w = .ok v w) ∧ k (.v v)
    | _ => False)
  | .slice t x none (some y) none => evX a0 ps S path x fun s => evX a0 ps S path y fun u => (match h, s, u with
    | some (.nat j), .v (.slice a _ c), .v (.int .i64 z) => (match T.sl t with
      | true => under S path (z = (j : Int) ∧ j ≤ c) ∧ k (.v (.slice a j c))
      | false => False)
    | _, _, _ => False)
  | .pick (.tmp n) (.const (.bool true)) y => (match lookS S n with
    | some e => (match sufB e.path path with
      | true => evX a0 ps S ((n, false) :: path) y fun u => (match e.sw, u with
        | .v (.bool c), .v (.bool d) => k (.v (.bool (c || d)))
        | _, _ => False)
      | false => False)
    | none => False)
  | .pick (.tmp n) x (.const (.bool false)) => (match lookS S n with
    | some e => (match sufB e.path path with
      | true => evX a0 ps S ((n, true) :: path) x fun u => (match e.sw, u with
        | .v (.bool c), .v (.bool d) => k (.v (.bool (c && d)))
        | _, _ => False)
      | false => False)
    | none => False)
  | _ => False
def guardP (ops : List Oper) (S : List Ent) : Option (Nat × Bool) → Option (List (Nat × Bool))
  | none => some []
  | some (j, b) => match (ops[j]?).bind (·.dst) with
    | none => none
    | some m => match lookS S m with
      | some ⟨_, p, .v (.bool _)⟩ => some ((m, b) :: p)
      | _ => none
def evL (ops : List Oper) (Fin : List Ent → Prop) : List Oper → List Ent → Prop
  | [], S => Fin S
  | o :: rest, S => match o.dst with
    | none => False
    | some n => match lookS S n with
      | some _ => False
      | none => match guardP ops S o.guard with
        | none => False
        | some path => evOp a0 ps T E C R S path (lookP hs n) o.op fun s => evL ops Fin rest (⟨n, path, s⟩ :: S)
def setN : List Value → Nat → Value → (List Value → Prop) → Prop
  | [], _, _, k => k []
  | _ :: l, 0, v, k => k (v :: l)
  | x :: l, n + 1, v, k => setN l n v fun l' => k (x :: l')
/-- the frame behind the region -/
def finS (outs : List (Nat × Value)) (f : Nat → Value) : List Ent → List Value → (List Value → Prop) → Prop
  | [], l, k => k l
  | ⟨n, p, s⟩ :: S, l, k => finS outs f S l fun l' => match lookP outs n with
    | some v => (match p, s with
      | [], .v x => x = v ∧ setN l' n v k
      | [], .p a b => SW.den E (.p a b) = v ∧ setN l' n v k
      | _, _ => False)
    | none => setN l' n (f n) k
def evFin (outs : List (Nat × Value)) (Q : Act → World → Prop) (S : List Ent) : Prop := ∀ f : Nat → Value, match a0 with
  | ⟨⟨l⟩, d⟩ => finS E outs f S l fun l' => ∀ w', C w' → Q ⟨l'.toArray, d⟩ w'
end

/-! what it means -/
structure QTab.Ok (T : QTab) : Prop where
  fo : ∀ t f d, T.fo t f = some d → ∀ b off w, (Instr.fieldAt t (.pointer (some ⟨b, off, none⟩)) f).run Tryz.prog w = .ok (.pointer (some ⟨b, off + d, none⟩)) w
  sc : ∀ t, T.sc t = true → ∀ p v w, w.cell? p = some v → (Instr.loadAt t (.pointer (some p))).run Tryz.prog w = .ok v w
  ag : ∀ t m, T.ag t = some m → ∀ b off (cs : List Value) w, cs.length = m → w.rangeAt b off cs → (Instr.loadAt t (.pointer (some ⟨b, off, none⟩))).run Tryz.prog w = .ok (.agg cs.toArray) w
  es : ∀ t q, T.es t = some q → ∀ b off l c (j : Nat) w, j < l → (Instr.indexAt t (.slice (some ⟨b, off, none⟩) l c) (.int .i64 j)).run Tryz.prog w = .ok (.pointer (some ⟨b, off + j * q, none⟩)) w
  ln : ∀ t, T.ln t = true → ∀ a n c ty w, (Builtin.len_ #[t] ty #[.slice a n c]).run Tryz.prog w = .ok (.int .i64 n) w
  en : ∀ f, T.en f = true → ∀ args w, (callFunc f args).run Tryz.prog w = .ok (.enter f args) w
  sl : ∀ t, T.sl t = true → ∀ a n c (j : Nat) w, j ≤ c → (Instr.sliceAt t (.slice a n c) none (some (.int .i64 j)) none).run Tryz.prog w = .ok (.slice a j c) w
def ObsIn (C : World → Prop) (E : List Ob) : Prop := ∀ w, C w → ∀ k, w.rangeAt (obi E k).b (obi E k).off (obi E k).cells
def valE (E : List Ob) (H : List (Nat × Bool)) (e : Ent) : Value := cond (onB H e.path) (e.sw.den E) undef
structure InvQ (a0 a : Act) (E : List Ob) (S : List Ent) (H : List (Nat × Bool)) : Prop where
  df : a.defers = a0.defers
  lst : a.tmps.toList = S.foldr (fun e l => l.set e.n (valE E H e)) a0.tmps.toList
  val : ∀ e ∈ S, a.eval (.tmp e.n) = valE E H e
  bl : ∀ e ∈ S, ∀ c, e.sw = .v (.bool c) → H.lookup e.n = some c
  pth : ∀ e ∈ S, ∀ q ∈ e.path, ∃ e' ∈ S, e'.n = q.1
  nd : ∀ e ∈ S, lookS S e.n = some e
  old : ∀ m, lookS S m = none → a.eval (.tmp m) = a0.eval (.tmp m)
theorem lookS_spec {S : List Ent} {n : Nat} {e : Ent} (h : lookS S n = some e) : e ∈ S ∧ e.n = n := by
  induction S with
  | nil => cases h
  | cons x S ih =>
    unfold lookS at h
    split at h
    · rename_i hq
      cases h
      exact ⟨List.mem_cons_self .., Nat.eq_of_beq_eq_true hq⟩
    · obtain ⟨h1, h2⟩ := ih h; exact ⟨List.mem_cons_of_mem _ h1, h2⟩
theorem lookS_none {S : List Ent} {n : Nat} (h : lookS S n = none) : ∀ e ∈ S, e.n ≠ n := by
  induction S with
  | nil => intro e he; cases he
  | cons x S ih =>
    unfold lookS at h
    split at h
    · cases h
    · rename_i hq
      intro e he
      rcases List.mem_cons.1 he with rfl | he
      · intro hn; subst hn; rw [Nat.beq_refl] at hq; cases hq
      · exact ih h e he
theorem eqP_eq : ∀ {p q : List (Nat × Bool)}, eqP p q = true → p = q
  | [], [], _ => rfl
  | [], _ :: _, h => by simp [eqP] at h
  | _ :: _, [], h => by simp [eqP] at h
  | (j, b) :: p, (k, c) :: q, h => by
    unfold eqP at h
    split at h
    · rename_i hq
      have hj := Nat.eq_of_beq_eq_true hq
      split at h
      · rw [hj, eqP_eq h]
      · rw [hj, eqP_eq h]
      · cases h
    · cases h
theorem onB_suf {H : List (Nat × Bool)} {q p : List (Nat × Bool)} (h : sufB q p = true) (hp : onB H p = true) : onB H q = true := by
  induction p with
  | nil => unfold sufB at h; rw [eqP_eq h]; rfl
  | cons x p ih =>
    unfold sufB at h
    split at h
    · rename_i he; rw [eqP_eq he]; exact hp
    · obtain ⟨j, b⟩ := x
      unfold onB at hp
      rw [Bool.and_eq_true] at hp
      exact ih h hp.2
section
variable {a0 a : Act} {ps : List (Nat × Nat)} {T : QTab} {E : List Ob} {C : World → Prop} {R : World → World → Prop} {hs : List (Nat × Hint)} {S : List Ent} {H : List (Nat × Bool)} {path : List (Nat × Bool)}
theorem InvQ.at (I : InvQ a0 a E S H) {n : Nat} {e : Ent} (h : lookS S n = some e) (ho : onB H e.path = true) : a.eval (.tmp n) = e.sw.den E := by
  obtain ⟨h1, rfl⟩ := lookS_spec h
  rw [I.val e h1]; unfold valE; rw [ho]; rfl
theorem under_sound (I : InvQ a0 a E S H) {q : Prop} : ∀ {path : List (Nat × Bool)}, under S path q → onB H path = true → q
  | [], h, _ => h
  | (n, b) :: p, h, ho => by
    unfold onB at ho
    rw [Bool.and_eq_true] at ho
    unfold under at h
    split at h
    · rename_i e m pp c he
      obtain ⟨h1, h2⟩ := lookS_spec he
      have := I.bl _ h1 c rfl
      dsimp only at h2
      subst h2
      rw [this] at ho
      exact under_sound I (h (by simpa using ho.1)) ho.2
    · exact under_sound I h ho.2
theorem psOk_spec {n o : Nat} : ∀ {l : List (Nat × Nat)}, psOk a0 E l → lookP l n = some o → a0.eval (.tmp n) = (SW.p o 0).den E
  | [], _, h => by cases h
  | (m, q) :: l, h, hl => by
    unfold lookP at hl
    split at hl
    · rename_i hq; cases hl; rw [← Nat.eq_of_beq_eq_true hq]; exact h.1
    · exact psOk_spec h.2 hl
theorem under_of {q : Prop} (h : q) : ∀ {path : List (Nat × Bool)}, under S path q
  | [] => h
  | (n, b) :: p => by
    unfold under
    split
    · exact fun _ => under_of h
    · exact under_of h
theorem evX_sound (I : InvQ a0 a E S H) (P : psOk a0 E ps) {x : Operand} {k : SW → Prop} (h : evX a0 ps S path x k) : ∃ s, k s ∧ (onB H path = true → a.eval x = s.den E) := by
  unfold evX at h
  split at h
  · exact ⟨_, h, fun _ => rfl⟩
  · exact ⟨_, h, fun _ => rfl⟩
  · exact ⟨_, h, fun _ => rfl⟩
  · rename_i n
    split at h
    · rename_i m p s he
      split at h
      · rename_i hsf
        exact ⟨_, h, fun hp => I.at he (onB_suf hsf hp)⟩
      · cases h
    · rename_i hn
      split at h
      · rename_i o ho
        exact ⟨_, h, fun _ => (I.old n hn).trans (psOk_spec P ho)⟩
      · rw [forceV_eq] at h
        exact ⟨_, h, fun _ => I.old n hn⟩
theorem evXs_sound (I : InvQ a0 a E S H) (P : psOk a0 E ps) : ∀ {l : List Operand} {k : List Value → Prop}, evXs a0 ps E S path l k → ∃ vs, k vs ∧ (onB H path = true → l.map a.eval = vs)
  | [], k, h => ⟨[], h, fun _ => rfl⟩
  | x :: l, k, h => by
    unfold evXs at h
    obtain ⟨s, h1, h2⟩ := evX_sound I P h
    obtain ⟨vs, h3, h4⟩ := evXs_sound I P h1
    exact ⟨_, h3, fun hp => by rw [List.map_cons, h2 hp, h4 hp]⟩
/-- an operation yields a value and leaves the world -/
def Yd (o : Oper) (a : Act) (C : World → Prop) (R : World → World → Prop) (v : Value) : Prop := ∀ w, C w → o.quietAt Tryz.prog a (R w) w v
theorem Yd.pure {o : Oper} {v : Value} (h : ∀ w, (execOp a.eval o).run Tryz.prog w = .ok (.value v) w) : Yd o a C R v := fun w _ => by
  unfold Oper.quietAt; rw [h w]; exact ⟨rfl, rfl⟩
theorem Yd.held {o : Oper} {v : Value} (h : ∀ w, C w → (execOp a.eval o).run Tryz.prog w = .ok (.value v) w) : Yd o a C R v := fun w hw => by
  unfold Oper.quietAt; rw [h w hw]; exact ⟨rfl, rfl⟩
theorem Yd.move {o : Oper} {x : Operand} (ho : o.op = .move x) {v : Value} (hx : a.eval x = v) : Yd o a C R v := Yd.pure fun w => by
  unfold execOp; simp only [ho, hx]; rfl
theorem Yd.assign {o : Oper} {x : Operand} (ho : o.op = .assign x) {v : Value} (hx : a.eval x = v) : Yd o a C R v := Yd.pure fun w => by
  unfold execOp; simp only [ho, hx]; rfl
theorem Yd.pick {o : Oper} {c x y : Operand} (ho : o.op = .pick c x y) {b : Bool} {v : Value} (hc : a.eval c = .bool b) (h1 : b = true → a.eval x = v) (h2 : b = false → a.eval y = v) : Yd o a C R v := Yd.pure fun w => by
  unfold execOp; simp only [ho, hc]
  cases b
  · simp only [h2 rfl]; rfl
  · simp only [h1 rfl]; rfl
theorem Yd.load {o : Oper} {t : TypeId} {x : Operand} (ho : o.op = .load t x) {p v : Value} (hx : a.eval x = p) (h : ∀ w, C w → (Instr.loadAt t p).run Tryz.prog w = .ok v w) : Yd o a C R v := Yd.held fun w hw => by
  unfold execOp; simp only [ho, hx, Sem.run_bind, h w hw]; rfl
theorem Yd.field {o : Oper} {t : TypeId} {x : Operand} {f : Nat} (ho : o.op = .fieldAddr t x f) {p v : Value} (hx : a.eval x = p) (h : ∀ w, (Instr.fieldAt t p f).run Tryz.prog w = .ok v w) : Yd o a C R v := Yd.pure fun w => by
  unfold execOp; simp only [ho, hx, Sem.run_bind, h w]; rfl
theorem Yd.index {o : Oper} {t : TypeId} {x y : Operand} (ho : o.op = .indexAddr t x y) {p q v : Value} (hx : a.eval x = p) (hy : a.eval y = q) (h : ∀ w, (Instr.indexAt t p q).run Tryz.prog w = .ok v w) : Yd o a C R v := Yd.pure fun w => by
  unfold execOp; simp only [ho, hx, hy, Sem.run_bind, h w]; rfl
theorem Yd.bin {o : Oper} {b : BinOp} {t t' : TypeId} {x y : Operand} (ho : o.op = .binOp b t x y t') {p q v : Value} (hx : a.eval x = p) (hy : a.eval y = q) (hg : ∀ w, (eqGuard b t x y p q).run Tryz.prog w = .ok () w) (h : ∀ w, (binOp b t p q).run Tryz.prog w = .ok v w) : Yd o a C R v := Yd.pure fun w => by
  unfold execOp; simp only [ho, hx, hy, Sem.run_bind, hg w, Result.andThen_ok, h w]; rfl
theorem Yd.nt {o : Oper} {t : TypeId} {x : Operand} (ho : o.op = .unOp .not t x) {b : Bool} (hx : a.eval x = .bool b) : Yd o a C R (.bool !b) := Yd.pure fun w => by
  unfold execOp; simp only [ho, hx, Sem.run_bind]; rfl
theorem Yd.ng {o : Oper} {t : TypeId} {x : Operand} (ho : o.op = .unOp .neg t x) {n : Int} (hx : a.eval x = .int .i64 n) : Yd o a C R (.int .i64 (IntKind.i64.wrap (-n))) := Yd.pure fun w => by
  unfold execOp; simp only [ho, hx, Sem.run_bind]; go_simp
theorem Yd.extract {o : Oper} {x : Operand} {n : Nat} (ho : o.op = .extract x n) {vs : Array Value} {v : Value} (hx : a.eval x = .tuple vs) (h : vs[n]? = some v) : Yd o a C R v := Yd.pure fun w => by
  unfold execOp; simp only [ho, hx, Sem.run_bind, Instr.extract, h]; rfl
theorem zip_parts : ∀ (l : List (Nat × Operand)) (e : Operand → Value), (l.map (·.1)).zip ((l.map (·.2)).map e) = l.map fun (i, x) => (i, e x)
  | [], _ => rfl
  | _ :: l, e => by rw [List.map_cons, List.map_cons, List.map_cons, List.zip_cons_cons, zip_parts l e, List.map_cons]
theorem Yd.build {o : Oper} {t : TypeId} {parts : Array (Nat × Operand)} (ho : o.op = .build t parts) {vs : List Value} (hx : (parts.toList.map (·.2)).map a.eval = vs) {v : Value} (h : ∀ w, (Instr.build t ((parts.toList.map (·.1)).zip vs).toArray).run Tryz.prog w = .ok v w) : Yd o a C R v := Yd.pure fun w => by
  have e : (parts.map fun (i, x) => (i, a.eval x)) = ((parts.toList.map (·.1)).zip vs).toArray := by
    rw [← hx, zip_parts]; apply Array.ext'; simp
  unfold execOp; simp only [ho, e, Sem.run_bind, h w]; rfl
theorem Yd.len {o : Oper} {x : Operand} {t : TypeId} (ho : o.op = .call { callee := .builtin .len, args := #[x], argTypes := #[t] }) {v u : Value} (hx : a.eval x = u) (h : ∀ w, (Builtin.len_ #[t] o.type #[u]).run Tryz.prog w = .ok v w) : Yd o a C R v := Yd.pure fun w => by
  unfold execOp; simp only [ho, resolve, List.map_toArray, List.map_cons, List.map_nil, hx, Sem.run_bind, Sem.run_pure, Result.andThen_ok, invoke, builtin, h w]
theorem Yd.slice {o : Oper} {t : TypeId} {x y : Operand} (ho : o.op = .slice t x none (some y) none) {p q v : Value} (hx : a.eval x = p) (hy : a.eval y = q) (h : ∀ w, (Instr.sliceAt t p none (some q) none).run Tryz.prog w = .ok v w) : Yd o a C R v := Yd.pure fun w => by
  unfold execOp; simp only [ho, Option.map_none, Option.map_some, hx, hy, Sem.run_bind, h w]; rfl
theorem Yd.call {o : Oper} {c : Call} {f : FuncId} (ho : o.op = .call c) (hc : c.callee = .value (.func f)) {vs : List Value} (hx : c.args.toList.map a.eval = vs) (en : ∀ args w, (callFunc f args).run Tryz.prog w = .ok (.enter f args) w) {v : Value}
    (h : ∀ w, C w → Calls Tryz.prog f vs.toArray w fun e w' => e = .returned v ∧ R w w') : Yd o a C R v := fun w hw => by
  have e1 : c.args.map a.eval = vs.toArray := by rw [← hx]; apply Array.ext'; simp
  have hf : a.eval (.func f) = .func (.func f) #[] #[] := rfl
  have h2 : (execOp a.eval o).run Tryz.prog w = .ok (.enter f vs.toArray) w := by
    unfold execOp
    simp only [ho, resolve, hc, e1, hf, Deferred.ofValue, Sem.run_bind, Sem.run_pure, Result.andThen_ok, invoke, Array.empty_append, Array.append_empty, en]
  unfold Oper.quietAt
  rw [h2]
  exact ⟨rfl, h w hw⟩
theorem Yd.callV {o : Oper} {c : Call} {x : Operand} {f : FuncId} {caps : Array Value} (ho : o.op = .call c) (hc : c.callee = .value x) (hf : a.eval x = .func (.func f) #[] caps) {vs : List Value} (hx : c.args.toList.map a.eval = vs) (en : ∀ args w, (callFunc f args).run Tryz.prog w = .ok (.enter f args) w) {v : Value}
    (h : ∀ w, C w → Calls Tryz.prog f (vs.toArray ++ caps) w fun e w' => e = .returned v ∧ R w w') : Yd o a C R v := fun w hw => by
  have e1 : c.args.map a.eval = vs.toArray := by rw [← hx]; apply Array.ext'; simp
  have h2 : (execOp a.eval o).run Tryz.prog w = .ok (.enter f (vs.toArray ++ caps)) w := by
    unfold execOp
    simp only [ho, resolve, hc, e1, hf, Deferred.ofValue, Sem.run_bind, Sem.run_pure, Result.andThen_ok, invoke, Array.empty_append, en]
  unfold Oper.quietAt
  rw [h2]
  exact ⟨rfl, h w hw⟩
theorem Yd.look {o : Oper} {t : TypeId} {x y : Operand} {ok : Bool} (ho : o.op = .lookup t x y ok) {p q v : Value} (hx : a.eval x = p) (hy : a.eval y = q) (h : ∀ w, C w → (Instr.lookup t p q ok).run Tryz.prog w = .ok v w) : Yd o a C R v := Yd.held fun w hw => by
  unfold execOp; simp only [ho, hx, hy, Sem.run_bind, h w hw]; rfl
theorem Yd.maxi {o : Oper} {x y : Operand} {ats : Array TypeId} (ho : o.op = .call { callee := .builtin .max, args := #[x, y], argTypes := ats }) {p q : Int} (hx : a.eval x = .int .i64 p) (hy : a.eval y = .int .i64 q) : Yd o a C R (.int .i64 (max p q)) := Yd.pure fun w => by
  have e : (Builtin.max_ ats o.type #[.int .i64 p, .int .i64 q]).run Tryz.prog w = .ok (.int .i64 (max p q)) w := by
    have := run_max_int2 (P := Tryz.prog) (w := w) ats o.type .i64 .i64 p q
    rw [this]
    congr 2
    split <;> omega
  unfold execOp; simp only [ho, resolve, List.map_toArray, List.map_cons, List.map_nil, hx, hy, Sem.run_bind, Sem.run_pure, Result.andThen_ok, invoke, builtin, e]
theorem Yd.mini {o : Oper} {x y : Operand} {ats : Array TypeId} (ho : o.op = .call { callee := .builtin .min, args := #[x, y], argTypes := ats }) {p q : Int} (hx : a.eval x = .int .i64 p) (hy : a.eval y = .int .i64 q) : Yd o a C R (.int .i64 (min p q)) := Yd.pure fun w => by
  have e : (Builtin.min_ ats o.type #[.int .i64 p, .int .i64 q]).run Tryz.prog w = .ok (.int .i64 (min p q)) w := by
    have := run_min_int2 (P := Tryz.prog) (w := w) ats o.type .i64 .i64 p q
    rw [this]
    congr 2
    split <;> omega
  unfold execOp; simp only [ho, resolve, List.map_toArray, List.map_cons, List.map_nil, hx, hy, Sem.run_bind, Sem.run_pure, Result.andThen_ok, invoke, builtin, e]
theorem Yd.nilc {o : Oper} {x : Operand} (ho : o.op = .nilCheck x) {p : Addr} (hx : a.eval x = .pointer (some p)) : Yd o a C R (.pointer (some p)) := Yd.pure fun w => by
  unfold execOp; simp only [ho, hx]; rfl
theorem wrap_in {n : Int} (h : -9223372036854775808 ≤ n ∧ n ≤ 9223372036854775807) : IntKind.i64.wrap n = n := IntWalk.i64_in _ h
theorem guard_int (b : BinOp) (t : TypeId) (x y : Operand) (k : IntKind) (p q : Int) (w : World) : (eqGuard b t x y (.int k p) (.int k q)).run Tryz.prog w = .ok () w := by
  unfold eqGuard; cases b <;> rfl
theorem guard_str (b : BinOp) (t : TypeId) (x y : Operand) (p q : ByteArray) (w : World) : (eqGuard b t x y (.string p) (.string q)).run Tryz.prog w = .ok () w := by
  unfold eqGuard; cases b <;> rfl
theorem evCmp_sound (I : InvQ a0 a E S H) {wr : Bool} {b : BinOp} {p q : Int} {k : SW → Prop} (h : evCmp wr S path b p q k) : ∃ s, k s ∧ (onB H path = true → ∀ t w, (binOp b t (.int .i64 p) (.int .i64 q)).run Tryz.prog w = .ok (s.den E) w) := by
  cases b <;> simp only [evCmp] at h
  case lss => exact ⟨_, h, fun _ t w => rfl⟩
  case leq => exact ⟨_, h, fun _ t w => rfl⟩
  case gtr => exact ⟨_, h, fun _ t w => rfl⟩
  case geq => exact ⟨_, h, fun _ t w => rfl⟩
  case eql => exact ⟨_, h, fun _ t w => rfl⟩
  case neq => exact ⟨_, h, fun _ t w => rfl⟩
  case quo => exact ⟨_, h.2, fun hp t w => by
    have e := under_sound I h.1 hp
    show (Op.intDiv .quo .i64 p q).run Tryz.prog w = _
    unfold Op.intDiv; rw [if_neg e]; rfl⟩
  case rem => exact ⟨_, h.2, fun hp t w => by
    have e := under_sound I h.1 hp
    show (Op.intDiv .rem .i64 p q).run Tryz.prog w = _
    unfold Op.intDiv; rw [if_neg e]; rfl⟩
  all_goals cases wr
  case add.true => exact ⟨_, h, fun hp t w => rfl⟩
  case add.false => exact ⟨_, h.2, fun hp t w => by
    have e := wrap_in (under_sound I h.1 hp)
    show (Op.intArith .add .i64 p q).run Tryz.prog w = _
    unfold Op.intArith; dsimp only; rw [e]; rfl⟩
  case sub.true => exact ⟨_, h, fun hp t w => rfl⟩
  case sub.false => exact ⟨_, h.2, fun hp t w => by
    have e := wrap_in (under_sound I h.1 hp)
    show (Op.intArith .sub .i64 p q).run Tryz.prog w = _
    unfold Op.intArith; dsimp only; rw [e]; rfl⟩
  case mul.true => exact ⟨_, h, fun hp t w => rfl⟩
  case mul.false => exact ⟨_, h.2, fun hp t w => by
    have e := wrap_in (under_sound I h.1 hp)
    show (Op.intArith .mul .i64 p q).run Tryz.prog w = _
    unfold Op.intArith; dsimp only; rw [e]; rfl⟩
theorem evBin_sound (I : InvQ a0 a E S H) {wr : Bool} {b : BinOp} {s u : SW} {k : SW → Prop} (h : evBin wr S path b s u k) : ∃ r, k r ∧ (onB H path = true → ∀ t x y w, (eqGuard b t x y (s.den E) (u.den E)).run Tryz.prog w = .ok () w ∧ (binOp b t (s.den E) (u.den E)).run Tryz.prog w = .ok (r.den E) w) := by
  unfold evBin at h
  split at h
  · obtain ⟨r, h1, h2⟩ := evCmp_sound I h
    exact ⟨r, h1, fun hp t x y w => ⟨guard_int _ _ _ _ _ _ _ _, h2 hp t w⟩⟩
  · split at h
    · exact ⟨_, h, fun hp t x y w => ⟨guard_str _ _ _ _ _ _ _, rfl⟩⟩
    · exact ⟨_, h, fun hp t x y w => ⟨guard_str _ _ _ _ _ _ _, rfl⟩⟩
    · exact ⟨_, h, fun hp t x y w => ⟨guard_str _ _ _ _ _ _ _, rfl⟩⟩
    · exact ⟨_, h, fun hp t x y w => ⟨guard_str _ _ _ _ _ _ _, rfl⟩⟩
    · exact ⟨_, h, fun hp t x y w => ⟨guard_str _ _ _ _ _ _ _, rfl⟩⟩
    · cases h
  · cases h
theorem evLoad_sound (hT : T.Ok) (hE : ObsIn C E) {t : TypeId} {s : SW} {k : SW → Prop} (h : evLoad T E t s k) : ∃ r, k r ∧ ∀ w, C w → (Instr.loadAt t (s.den E)).run Tryz.prog w = .ok (r.den E) w := by
  unfold evLoad at h
  split at h
  · rename_i n d
    split at h
    · rename_i hsc
      split at h
      · rename_i v hv
        rw [forceV_eq] at h
        exact ⟨_, h, fun w hw => hT.sc t hsc _ _ w (hE w hw n d v hv)⟩
      · cases h
    · split at h
      · rename_i m hm
        refine ⟨_, h.2, fun w hw => hT.ag t m hm _ _ _ w (by rw [List.length_take, List.length_drop]; omega) (fun j v hv => ?_)⟩
        have hj : j < m := by
          rcases Nat.lt_or_ge j m with hj | hj
          · exact hj
          · rw [List.getElem?_eq_none (by rw [List.length_take]; omega)] at hv; cases hv
        rw [List.getElem?_take_of_lt hj, List.getElem?_drop] at hv
        rw [Nat.add_assoc]
        exact hE w hw n _ v hv
      · cases h
  · cases h
theorem evIx_sound (I : InvQ a0 a E S H) (hT : T.Ok) {t : TypeId} {h' : Option Hint} {s u : SW} {k : SW → Prop} (h : evIx T E S path t h' s u k) : ∃ r, k r ∧ (onB H path = true → ∀ w, (Instr.indexAt t (s.den E) (u.den E)).run Tryz.prog w = .ok (r.den E) w) := by
  unfold evIx at h
  split at h
  · split at h
    · split at h
      · rename_i q hq
        refine ⟨_, h.2, fun hp w => ?_⟩
        obtain ⟨rfl, h1, h2, h3⟩ := under_sound I h.1 hp
        show (Instr.indexAt _ (.slice _ _ _) (.int _ _)).run _ _ = .ok (.pointer (some ⟨_, _ + 0, none⟩)) w
        rw [h2, h3, Nat.add_zero]
        exact hT.es _ _ hq _ _ _ _ _ w h1
      · cases h
    · exact ⟨_, h.2, fun hp w => under_sound I h.1 hp w⟩
    · cases h
  · cases h
theorem evCall_sound (I : InvQ a0 a E S H) (P : psOk a0 E ps) (hT : T.Ok) {h' : Option Hint} {c : Call} {k : SW → Prop} (h : evCall a0 ps T E C R S path h' c k) {o : Oper} (ho : o.op = .call c) : ∃ r, k r ∧ (onB H path = true → Yd o a C R (r.den E)) := by
  unfold evCall at h
  obtain ⟨cal, args, ats⟩ := c
  dsimp only at h
  split at h
  · split at h
    · rename_i x t e1 e2
      obtain ⟨s, h1, h2⟩ := evX_sound I P h
      split at h1
      · split at h1
        · rename_i hl
          refine ⟨_, h1, fun hp => ?_⟩
          have ea : args = #[x] := by apply Array.ext'; simpa using e1
          have et : ats = #[t] := by apply Array.ext'; simpa using e2
          subst ea et
          exact Yd.len ho (h2 hp) fun w => hT.ln t hl _ _ _ _ w
        · cases h1
      · cases h1
    · cases h
  · split at h
    · rename_i x y e1
      obtain ⟨s, h1, h2⟩ := evX_sound I P h
      obtain ⟨u, h3, h4⟩ := evX_sound I P h1
      split at h3
      · refine ⟨_, h3, fun hp => ?_⟩
        have ea : args = #[x, y] := by apply Array.ext'; simpa using e1
        subst ea
        exact Yd.maxi ho (h2 hp) (h4 hp)
      · cases h3
    · cases h
  · split at h
    · rename_i x y e1
      obtain ⟨s, h1, h2⟩ := evX_sound I P h
      obtain ⟨u, h3, h4⟩ := evX_sound I P h1
      split at h3
      · refine ⟨_, h3, fun hp => ?_⟩
        have ea : args = #[x, y] := by apply Array.ext'; simpa using e1
        subst ea
        exact Yd.mini ho (h2 hp) (h4 hp)
      · cases h3
    · cases h
  · rename_i f
    split at h
    · split at h
      · rename_i hen
        obtain ⟨vs, h1, h2⟩ := evXs_sound I P h
        exact ⟨_, h1.2, fun hp => Yd.call ho rfl (h2 hp) (hT.en f hen) (under_sound I h1.1 hp)⟩
      · cases h
    · cases h
  · rename_i t
    split at h
    · obtain ⟨s, h1, h2⟩ := evX_sound I P h
      split at h1
      · rename_i f caps
        split at h1
        · rename_i hen
          obtain ⟨vs, h3, h4⟩ := evXs_sound I P h1
          exact ⟨_, h3.2, fun hp => Yd.callV ho rfl (h2 hp) (h4 hp) (hT.en f hen) (under_sound I h3.1 hp)⟩
        · cases h1
      · cases h1
    · cases h
  · cases h
theorem onB_cons {n : Nat} {b c : Bool} {p : List (Nat × Bool)} (h : H.lookup n = some c) : onB H ((n, b) :: p) = (c == b && onB H p) := by
  rw [onB, h]
theorem evOp_sound (I : InvQ a0 a E S H) (P : psOk a0 E ps) (hT : T.Ok) (hE : ObsIn C E) {h' : Option Hint} {o : Oper} {k : SW → Prop} (h : evOp a0 ps T E C R S path h' o.op k) : ∃ r, k r ∧ (onB H path = true → Yd o a C R (r.den E)) := by
  unfold evOp at h
  split at h
  · rename_i x ho
    obtain ⟨s, h1, h2⟩ := evX_sound I P h
    exact ⟨s, h1, fun hp => Yd.move ho (h2 hp)⟩
  · rename_i x ho
    obtain ⟨s, h1, h2⟩ := evX_sound I P h
    exact ⟨s, h1, fun hp => Yd.assign ho (h2 hp)⟩
  · rename_i t x ho
    obtain ⟨s, h1, h2⟩ := evX_sound I P h
    split at h1
    · obtain ⟨r, ⟨h3, h5⟩, h4⟩ := evLoad_sound hT hE h1
      exact ⟨_, h5, fun hp => by
        have e := under_sound I h3 hp
        exact Yd.load ho (h2 hp) fun w hw => by rw [← e]; exact h4 w hw⟩
    · obtain ⟨r, h3, h4⟩ := evLoad_sound hT hE h1
      exact ⟨r, h3, fun hp => Yd.load ho (h2 hp) h4⟩
  · rename_i t x f ho
    obtain ⟨s, h1, h2⟩ := evX_sound I P h
    split at h1
    · split at h1
      · rename_i q hq
        exact ⟨_, h1, fun hp => Yd.field ho (h2 hp) fun w => by
          show (Instr.fieldAt _ (.pointer (some ⟨_, _, none⟩)) _).run _ _ = .ok (.pointer (some ⟨_, _ + (_ + q), none⟩)) w
          rw [← Nat.add_assoc]
          exact hT.fo _ _ _ hq _ _ w⟩
      · cases h1
    · cases h1
  · rename_i t x y ho
    obtain ⟨s, h1, h2⟩ := evX_sound I P h
    obtain ⟨u, h3, h4⟩ := evX_sound I P h1
    obtain ⟨r, h5, h6⟩ := evIx_sound I hT h3
    exact ⟨r, h5, fun hp => Yd.index ho (h2 hp) (h4 hp) (h6 hp)⟩
  · rename_i b t x y t' ho
    obtain ⟨s, h1, h2⟩ := evX_sound I P h
    obtain ⟨u, h3, h4⟩ := evX_sound I P h1
    split at h3
    · exact ⟨_, h3.2, fun hp => Yd.bin ho (h2 hp) (h4 hp) (fun w => (under_sound I h3.1 hp x y w).1) (fun w => (under_sound I h3.1 hp x y w).2)⟩
    · obtain ⟨r, h5, h6⟩ := evBin_sound I h3
      exact ⟨r, h5, fun hp => Yd.bin ho (h2 hp) (h4 hp) (fun w => (h6 hp t x y w).1) (fun w => (h6 hp t x y w).2)⟩
  · rename_i t x ho
    obtain ⟨s, h1, h2⟩ := evX_sound I P h
    split at h1
    · exact ⟨_, h1, fun hp => Yd.nt ho (h2 hp)⟩
    · cases h1
  · rename_i t x ho
    obtain ⟨s, h1, h2⟩ := evX_sound I P h
    split at h1
    · exact ⟨_, h1, fun hp => Yd.ng ho (h2 hp)⟩
    · cases h1
  · rename_i x n ho
    obtain ⟨s, h1, h2⟩ := evX_sound I P h
    split at h1
    · split at h1
      · rename_i vs v hv
        rw [forceV_eq] at h1
        exact ⟨_, h1, fun hp => Yd.extract ho (h2 hp) (by rw [← Array.getElem?_toList]; exact hv)⟩
      · cases h1
    · cases h1
  · rename_i c ho
    exact evCall_sound I P hT h ho
  · rename_i x ho
    obtain ⟨s, h1, h2⟩ := evX_sound I P h
    split at h1
    · exact ⟨_, h1, fun hp => Yd.nilc ho (h2 hp)⟩
    · cases h1
  · rename_i t x y ok ho
    split at h
    · obtain ⟨s, h1, h2⟩ := evX_sound I P h
      obtain ⟨u, h3, h4⟩ := evX_sound I P h1
      exact ⟨_, h3.2, fun hp => Yd.look ho (h2 hp) (h4 hp) (under_sound I h3.1 hp)⟩
    · cases h
  · rename_i t parts ho
    split at h
    · obtain ⟨vs, h1, h2⟩ := evXs_sound I P h
      exact ⟨_, h1.2, fun hp => Yd.build ho (h2 hp) (under_sound I h1.1 hp)⟩
    · cases h
  · rename_i t x y ho
    obtain ⟨s, h1, h2⟩ := evX_sound I P h
    obtain ⟨u, h3, h4⟩ := evX_sound I P h1
    split at h3
    · split at h3
      · rename_i hsl
        refine ⟨_, h3.2, fun hp => Yd.slice ho (h2 hp) (h4 hp) fun w => ?_⟩
        obtain ⟨rfl, hj⟩ := under_sound I h3.1 hp
        exact hT.sl _ hsl _ _ _ _ w hj
      · cases h3
    · cases h3
  · rename_i n y ho
    split at h
    · rename_i e he
      split at h
      · rename_i hsf
        obtain ⟨u, h1, h2⟩ := evX_sound I P h
        obtain ⟨m1, m2⟩ := lookS_spec he
        split at h1
        · rename_i c d hc
          have hb := I.bl e m1 c hc
          rw [m2] at hb
          refine ⟨_, h1, fun hp => ?_⟩
          have hv := I.at he (onB_suf hsf hp)
          rw [hc] at hv
          refine Yd.pick ho hv (fun hcb => by subst hcb; rfl) (fun hcb => ?_)
          subst hcb
          exact h2 (by rw [onB_cons hb, hp]; rfl)
        · cases h1
      · cases h
    · cases h
  · rename_i n x hx ho
    split at h
    · rename_i e he
      split at h
      · rename_i hsf
        obtain ⟨u, h1, h2⟩ := evX_sound I P h
        obtain ⟨m1, m2⟩ := lookS_spec he
        split at h1
        · rename_i c d hc
          have hb := I.bl e m1 c hc
          rw [m2] at hb
          refine ⟨_, h1, fun hp => ?_⟩
          have hv := I.at he (onB_suf hsf hp)
          rw [hc] at hv
          refine Yd.pick ho hv (fun hcb => ?_) (fun hcb => by subst hcb; rfl)
          subst hcb
          exact h2 (by rw [onB_cons hb, hp]; rfl)
        · cases h1
      · cases h
    · cases h
  · cases h
def bsOf (n : Nat) (s : SW) (H : List (Nat × Bool)) : List (Nat × Bool) := match s with
  | .v (.bool c) => (n, c) :: H
  | _ => H
theorem bsOf_other {n m : Nat} {s : SW} (h : m ≠ n) : (bsOf n s H).lookup m = H.lookup m := by
  unfold bsOf
  split
  · rw [List.lookup_cons, beq_false_of_ne h]
  · rfl
theorem onB_same {n : Nat} {s : SW} : ∀ {p : List (Nat × Bool)}, (∀ q ∈ p, q.1 ≠ n) → onB (bsOf n s H) p = onB H p
  | [], _ => rfl
  | (j, b) :: p, h => by
    unfold onB
    rw [bsOf_other (h (j, b) (List.mem_cons_self ..)), onB_same fun q hq => h q (List.mem_cons_of_mem _ hq)]
theorem foldr_same {α β : Type} {f g : α → β → β} {l : List α} {b : β} (h : ∀ x ∈ l, ∀ y, f x y = g x y) : l.foldr f b = l.foldr g b := by
  induction l with
  | nil => rfl
  | cons x l ih => rw [List.foldr_cons, List.foldr_cons, ih fun y hy => h y (List.mem_cons_of_mem _ hy), h x (List.mem_cons_self ..)]
theorem evalQ_same {n : Nat} (h : n < a.tmps.size) (v : Value) : (a.put (some n) v).eval (.tmp n) = v := by
  simp [Act.put, Act.eval, Array.getD, h]
theorem evalQ_other {n m : Nat} (h : m ≠ n) (v : Value) : (a.put (some n) v).eval (.tmp m) = a.eval (.tmp m) := by
  simp [Act.put, Act.eval, Array.getD_eq_getD_getElem?, Array.getElem?_setIfInBounds_ne (Ne.symm h)]
theorem InvQ.start : InvQ a0 a0 E [] [] := ⟨rfl, rfl, fun e he => (by cases he), fun e he => (by cases he), fun e he => (by cases he), fun e he => (by cases he), fun _ _ => rfl⟩
theorem InvQ.size (I : InvQ a0 a E S H) : a.tmps.size = a0.tmps.size := by
  have h := congrArg List.length I.lst
  rw [Array.length_toList] at h
  rw [h]
  clear h I
  induction S with
  | nil => simp
  | cons e S ih => rw [List.foldr_cons, List.length_set]; exact ih
theorem InvQ.next (I : InvQ a0 a E S H) {n : Nat} {s : SW} (hn : lookS S n = none) (hp : ∀ q ∈ path, ∃ e' ∈ S, e'.n = q.1) (hz : n < a0.tmps.size) : InvQ a0 (a.put (some n) (valE E H ⟨n, path, s⟩)) E (⟨n, path, s⟩ :: S) (bsOf n s H) := by
  have hne := lookS_none hn
  have hpn : ∀ q ∈ path, q.1 ≠ n := fun q hq => by obtain ⟨e', h1, h2⟩ := hp q hq; rw [← h2]; exact hne e' h1
  have old : ∀ e ∈ S, valE E (bsOf n s H) e = valE E H e := fun e he => by
    unfold valE
    rw [onB_same fun q hq => by obtain ⟨e', h1, h2⟩ := I.pth e he q hq; rw [← h2]; exact hne e' h1]
  have new : valE E (bsOf n s H) ⟨n, path, s⟩ = valE E H ⟨n, path, s⟩ := by
    unfold valE
    rw [onB_same hpn]
  have hzz : n < a.tmps.size := by rw [I.size]; exact hz
  refine ⟨I.df, ?_, ?_, ?_, ?_, ?_, ?_⟩
  · rw [List.foldr_cons, new, foldr_same (g := fun e l => l.set e.n (valE E H e)) fun e he y => by rw [old e he], ← I.lst]
    simp [Act.put]
  · intro e he
    rcases List.mem_cons.1 he with rfl | he
    · rw [new]; exact evalQ_same hzz _
    · rw [old e he, evalQ_other (hne e he)]; exact I.val e he
  · intro e he c hc
    rcases List.mem_cons.1 he with rfl | he
    · dsimp only at hc; subst hc
      show ((n, c) :: H).lookup n = some c
      rw [List.lookup_cons, beq_self_eq_true]
    · rw [bsOf_other (hne e he)]; exact I.bl e he c hc
  · intro e he q hq
    rcases List.mem_cons.1 he with rfl | he
    · obtain ⟨e', h1, h2⟩ := hp q hq; exact ⟨e', List.mem_cons_of_mem _ h1, h2⟩
    · obtain ⟨e', h1, h2⟩ := I.pth e he q hq; exact ⟨e', List.mem_cons_of_mem _ h1, h2⟩
  · intro e he
    rcases List.mem_cons.1 he with rfl | he
    · unfold lookS; rw [show Nat.beq (Ent.n ⟨n, path, s⟩) (Ent.n ⟨n, path, s⟩) = true from Nat.beq_refl _]
    · unfold lookS
      rw [show Nat.beq (Ent.n ⟨n, path, s⟩) e.n = false from by
        cases hq : Nat.beq n e.n with
        | false => rfl
        | true => exact absurd (Nat.eq_of_beq_eq_true hq).symm (hne e he)]
      exact I.nd e he
  · intro m hm
    unfold lookS at hm
    split at hm
    · cases hm
    · rename_i hq
      rw [evalQ_other (fun e => by subst e; rw [show Nat.beq (Ent.n ⟨m, path, s⟩) m = true from Nat.beq_refl _] at hq; cases hq)]
      exact I.old m hm
theorem guardP_sound (I : InvQ a0 a E S H) {ops : List Oper} {o : Oper} (h : guardP ops S o.guard = some path) (hz : (ops.all fun o => match o.dst with | some n => decide (n < a0.tmps.size) | none => true) = true) :
    Region.wanted o (yielded ops.toArray a.tmps) = onB H path ∧ ∀ q ∈ path, ∃ e' ∈ S, e'.n = q.1 := by
  unfold Region.wanted
  unfold guardP at h
  split at h
  · rename_i hg
    rw [hg]
    cases h
    exact ⟨rfl, fun q hq => by cases hq⟩
  · rename_i j b hg
    rw [hg]
    dsimp only
    split at h
    · cases h
    · rename_i m hm
      split at h
      · rename_i e n p c he
        cases h
        obtain ⟨h1, h2⟩ := lookS_spec he
        dsimp only at h2
        subst h2
        have hv := I.val _ h1
        have hb := I.bl _ h1 c rfl
        dsimp only at hv hb
        refine ⟨?_, ?_⟩
        · rw [onB_cons hb]
          unfold yielded
          rw [List.getElem?_toArray, hm]
          simp only [Option.bind_some]
          have hlt : n < a.tmps.size := by
            rw [I.size]
            cases ho : ops[j]? with
            | none => rw [ho] at hm; cases hm
            | some oj =>
              rw [ho] at hm
              simp only [Option.bind_some] at hm
              have := List.all_eq_true.1 hz oj (List.mem_of_getElem? ho)
              rw [hm] at this
              exact of_decide_eq_true this
          rw [Array.getElem?_eq_getElem hlt]
          have ev : a.tmps[n] = valE E H ⟨n, p, .v (.bool c)⟩ := by
            rw [← hv]
            simp [Act.eval, Array.getD, hlt]
          rw [ev]
          unfold valE
          dsimp only
          cases onB H p <;> simp [SW.den, undef]
        · intro q hq
          rcases List.mem_cons.1 hq with rfl | hq
          · exact ⟨_, h1, rfl⟩
          · exact I.pth _ h1 q hq
      · cases h
theorem quietAt_mono {P : Program} {o : Oper} {a : Act} {C D : World → Prop} {w : World} {v : Value} (h : ∀ w', C w' → D w') (g : o.quietAt P a C w v) : o.quietAt P a D w v := by
  unfold Oper.quietAt Oper.quietUpon at *
  split at g
  · exact g
  · exact g
  · exact ⟨g.1, g.2.mono fun e w'' ⟨h1, h2⟩ => ⟨h1, h _ h2⟩⟩
  · exact g
theorem evL_sound (P : psOk a0 E ps) (hT : T.Ok) (hE : ObsIn C E) (hR : ∀ w w', C w → R w w' → C w') {ops : List Oper} (hz : (ops.all fun o => match o.dst with | some n => decide (n < a0.tmps.size) | none => true) = true) {Fin : List Ent → Prop} {Qf : Act → Prop} (hfin : ∀ S H a, InvQ a0 a E S H → Fin S → Qf a) :
    ∀ (rest : List Oper) (S : List Ent) (H : List (Nat × Bool)) (a : Act), (∀ o ∈ rest, o ∈ ops) → InvQ a0 a E S H → evL a0 ps T E C R hs ops Fin rest S → wpQuiet Tryz.prog ops.toArray C Qf rest a
  | [], S, H, a, _, I, h => hfin S H a I h
  | o :: rest, S, H, a, hm, I, h => by
    unfold evL at h
    split at h
    · cases h
    · rename_i n hd
      split at h
      · cases h
      · rename_i hn
        split at h
        · cases h
        · rename_i path hg
          obtain ⟨g1, g2⟩ := guardP_sound I hg hz
          obtain ⟨r, h1, h2⟩ := evOp_sound I P hT hE h
          have hlt : n < a0.tmps.size := by
            have := List.all_eq_true.1 hz o (hm o (List.mem_cons_self ..))
            rw [hd] at this
            exact of_decide_eq_true this
          have I' := I.next (s := r) hn g2 hlt
          have K := evL_sound P hT hE hR hz hfin rest _ _ _ (fun o' ho' => hm o' (List.mem_cons_of_mem _ ho')) I' h1
          unfold wpQuiet
          rw [g1, hd]
          by_cases hp : onB H path = true
          · rw [if_pos hp]
            refine ⟨r.den E, fun w hw => quietAt_mono (fun w' => hR w w' hw) (h2 hp w hw), ?_⟩
            have e : valE E H ⟨n, path, r⟩ = r.den E := by unfold valE; rw [hp]; rfl
            rw [e] at K
            rw [hd]
            exact K
          · rw [if_neg hp]
            have e : valE E H ⟨n, path, r⟩ = undef := by unfold valE; simp only [Bool.not_eq_true] at hp; rw [hp]; rfl
            rw [e] at K
            exact K
theorem setN_eq : ∀ (l : List Value) (n : Nat) (v : Value) (k : List Value → Prop), setN l n v k = k (l.set n v)
  | [], _, _, _ => rfl
  | x :: l, 0, v, k => rfl
  | x :: l, n + 1, v, k => by rw [setN, setN_eq l n v, List.set_cons_succ]
theorem finS_eq {outs : List (Nat × Value)} {f : Nat → Value} {H : List (Nat × Bool)} : ∀ (S : List Ent) (l : List Value) (k : List Value → Prop), (∀ e ∈ S, f e.n = valE E H e) → finS E outs f S l k → k (S.foldr (fun e l => l.set e.n (valE E H e)) l)
  | [], l, k, _, h => h
  | ⟨n, p, s⟩ :: S, l, k, hf, h => by
    unfold finS at h
    have := finS_eq S l _ (fun e' he' => hf e' (List.mem_cons_of_mem _ he')) h
    rw [List.foldr_cons]
    split at this
    · split at this
      · obtain ⟨rfl, this⟩ := this
        rw [setN_eq] at this
        exact this
      · obtain ⟨rfl, this⟩ := this
        rw [setN_eq] at this
        exact this
      · cases this
    · rw [setN_eq, hf ⟨n, p, s⟩ (List.mem_cons_self ..)] at this
      exact this
theorem evFin_sound {outs : List (Nat × Value)} {Q : Act → World → Prop} (I : InvQ a0 a E S H) (h : evFin a0 E C outs Q S) : ∀ w', C w' → Q a w' := by
  unfold evFin at h
  have h1 := h fun n => match lookS S n with | some e => valE E H e | none => undef
  obtain ⟨⟨l⟩, d⟩ := a0
  dsimp only at h1
  have h2 := finS_eq (H := H) S l _ (fun e he => by rw [I.nd e he]) h1
  have e : (⟨(S.foldr (fun e l => l.set e.n (valE E H e)) l).toArray, d⟩ : Act) = a := by
    obtain ⟨⟨l'⟩, d'⟩ := a
    have h3 := I.lst
    have h4 := I.df
    dsimp only at h3 h4
    rw [← h3, h4]
  rw [e] at h2
  exact h2
/-- a region that draws its order -/
theorem wp_region_ev {id : Nat} {Q : Exit → Act → World → Prop} {w : World} {ops : List Oper} (T : QTab) (hT : T.Ok) (E : List Ob) (C : World → Prop) (ps : List (Nat × Nat)) (hs : List (Nat × Hint)) (outs : List (Nat × Value))
    (hz : (ops.all fun o => match o.dst with | some n => decide (n < a0.tmps.size) | none => true) = true) (hm : Tryz.prog.follows .mixedOrders = true) (hB : Region.lexB .any ops.toArray = true) (hC : C w.drew) (hE : ObsIn C E) (P : psOk a0 E ps)
    (h : evL a0 ps T E C (fun _ => C) hs ops (evFin a0 E C outs (Q .normal)) ops []) : (Code.region id ops.toArray true).wp Tryz.prog Q a0 w :=
  wp_region_quiet (C := C) hm hB hC (evL_sound P hT hE (fun _ _ _ h => h) hz (fun S H a I h => evFin_sound I h) ops [] [] a0 (fun _ h => h) InvQ.start h)
theorem wpList_of_quiet {P : Program} {ops : Array Oper} {C : World → Prop} {Q : Exit → Act → World → Prop} : ∀ (l : List Oper) (a : Act) (w : World), C w → wpQuiet P ops C (fun a' => ∀ w', C w' → Q .normal a' w') l a → wpList P ops Q l a w
  | [], a, w, hw, h => h w hw
  | o :: l, a, w, hw, h => by
    unfold wpQuiet at h
    unfold wpList
    split at h
    · rename_i hq
      rw [if_pos hq]
      exact .inl (Oper.wp_of_quiet hw (fun a' w' hw' h' => wpList_of_quiet l a' w' hw' h') h)
    · rename_i hq
      rw [if_neg hq]
      exact wpList_of_quiet l _ w hw h
/-- a region that keeps the text's order -/
theorem wp_region_et {id : Nat} {Q : Exit → Act → World → Prop} {w : World} {ops : List Oper} (T : QTab) (hT : T.Ok) (E : List Ob) (C : World → Prop) (ps : List (Nat × Nat)) (hs : List (Nat × Hint)) (outs : List (Nat × Value))
    (hz : (ops.all fun o => match o.dst with | some n => decide (n < a0.tmps.size) | none => true) = true) (hC : C w) (hE : ObsIn C E) (P : psOk a0 E ps)
    (h : evL a0 ps T E C (fun _ => C) hs ops (evFin a0 E C outs (Q .normal)) ops []) : (Code.region id ops.toArray false).wp Tryz.prog Q a0 w :=
  wp_region_list (wpList_of_quiet _ a0 w hC (by rw [List.toList_toArray]; exact evL_sound P hT hE (fun _ _ _ h => h) hz (fun S H a I h => evFin_sound I h) ops [] [] a0 (fun _ h => h) InvQ.start h))
end
end Go.Proofs.YtfmhickjefogdaaGreat

/- Contracts of the functions of package slices that this seat calls. -/
namespace Go.Proofs.YtfmhickjefogdaaGreat
open Go.RowKit

/-- A function value that answers a predicate of one integer, in every world that keeps what W0 has. -/
def FnP (fv : Value) (W0 : World) (D : Int → Prop) (p : Int → Bool) : Prop :=
  ∃ F caps, fv = .func (.func F) #[] caps ∧ (∀ args w, (callFunc F args).run Tryz.prog w = .ok (.enter F args) w) ∧
    ∀ x n, D x → Calls Tryz.prog F (#[.int .i64 x] ++ caps) (W0.drewN n) fun e w'' => e = .returned (.bool (p x)) ∧ ∃ m, w'' = W0.drewN m

/-- the first index at which p holds, else -1 -/
def findI (p : Int → Bool) (xs : List Int) : Int := match xs.findIdx? p with | some i => i | none => -1

theorem findI_hit (p : Int → Bool) (xs : List Int) (k : Nat) (hk : k < xs.length) (h1 : ∀ j, j < k → p (gi xs j) = false) (h2 : p (gi xs k) = true) : findI p xs = k := by
  have : xs.findIdx? p = some k := by
    rw [List.findIdx?_eq_some_iff_getElem]
    refine ⟨hk, ?_, ?_⟩
    · simpa [gi, hk] using h2
    · intro j hj
      have := h1 j hj
      simp [gi, show j < xs.length by omega] at this
      simp [this]
  simp [findI, this]

theorem findI_miss (p : Int → Bool) (xs : List Int) (h1 : ∀ j, j < xs.length → p (gi xs j) = false) : findI p xs = -1 := by
  have : xs.findIdx? p = none := by
    rw [List.findIdx?_eq_none_iff]
    intro x hx
    obtain ⟨j, hj, rfl⟩ := mem_gi hx
    exact h1 j hj
  simp [findI, this]

theorem findI_any (p : Int → Bool) (xs : List Int) : decide (0 ≤ findI p xs) = xs.any p := by
  rw [Bool.eq_iff_iff, decide_eq_true_eq]
  simp only [findI]
  cases hh : xs.findIdx? p with
  | none => rw [List.findIdx?_eq_none_iff] at hh; simp; intro x hx; simpa using hh x hx
  | some i => rw [List.findIdx?_eq_some_iff_getElem] at hh; obtain ⟨h1, h2, _⟩ := hh; simp; exact ⟨_, List.getElem_mem h1, h2⟩

end Go.Proofs.YtfmhickjefogdaaGreat
