/- Rows of rows that a call has made itself. -/
import Derived.Test.YtlmfcigabojbmaaGreatDoorLib
set_option linter.unusedSimpArgs false
set_option linter.unusedVariables false
namespace Go.Proofs.YtlmfcigabojbmaaGreatDoor
open Go.RowKit

theorem Tryz_infoInt : (Tryz.prog.info? 3).map (fun i => (i.zero, i.size, i.bytes)) = some (some (.int .i64 0), 1, 8) := by kernel_rfl
theorem Tryz_infoInts : (Tryz.prog.info? 81).map (fun i => (i.zero, i.size, i.bytes)) = some (some (.slice none 0 0), 1, 24) := by kernel_rfl

/-- a row of integers that the call owns -/
def OwnI (w : World) (B : Nat) (v : Value) (r : List Int) : Prop := w.ownsRow B 3 1 v r.length (r.map (Value.int .i64))
/-- rows that the call owns -/
def OwnT (w : World) (B : Nat) (t : Value) (rs : List (List Int)) : Prop :=
  ∃ vs : List Value, w.ownsRow B 81 1 t rs.length vs ∧ ∀ i, i < rs.length → OwnI w B (vs.getD i undef) (ri rs i)

theorem OwnI_nil (w : World) (B : Nat) : OwnI w B (.slice none 0 0) [] := World.ownsRow_nil _ _ _ _
theorem OwnT_nil (w : World) (B : Nat) : OwnT w B (.slice none 0 0) [] := ⟨[], World.ownsRow_nil _ _ _ _, fun i hi => by simp at hi⟩

theorem owns_below {w w' : World} {base : Nat} {e : TypeId} {size : Nat} {v : Value} {n : Nat} {xs : List Value} (h : w.ownsRow base e size v n xs) (hb : Below w.heap.size w w') : w'.ownsRow base e size v n xs := by
  refine ⟨h.1, ?_⟩
  rcases h.2 with hn | ⟨g, cap, cur, hv, hb1, hg, r⟩
  · exact .inl hn
  · exact .inr ⟨g, cap, cur, hv, hb1, by rw [hb.block g (lt_of_block hg)]; exact hg, r⟩
theorem OwnI.below {w w' : World} {B : Nat} {v : Value} {r : List Int} (h : OwnI w B v r) (hb : Below w.heap.size w w') : OwnI w' B v r := owns_below h hb
theorem OwnT.below {w w' : World} {B : Nat} {v : Value} {r : List (List Int)} (h : OwnT w B v r) (hb : Below w.heap.size w w') : OwnT w' B v r := by
  obtain ⟨vs, h1, h2⟩ := h
  exact ⟨vs, owns_below h1 hb, fun i hi => (h2 i hi).below hb⟩

theorem owns_ne {w : World} {b b' : Nat} {e e' : TypeId} {s s' : Nat} {v v' : Value} {n n' : Nat} {xs xs' : List Value} (h : w.ownsRow b e s v n xs) (h' : w.ownsRow b' e' s' v' n' xs') (hne : e ≠ e') :
    v.ownBlock = none ∨ v.ownBlock ≠ v'.ownBlock := by
  rcases h.2 with ⟨rfl, _⟩ | ⟨g, cap, cur, rfl, _, hg, _⟩
  · exact .inl rfl
  · rcases h'.2 with ⟨rfl, _⟩ | ⟨g', cap', cur', rfl, _, hg', _⟩
    · exact .inr (by simp [Value.ownBlock])
    · refine .inr ?_
      simp only [Value.ownBlock, ne_eq, Option.some.injEq]
      intro e1
      subst e1
      rw [hg] at hg'
      simp at hg'
      exact hne hg'.2

theorem owns_mono {w : World} {b b' : Nat} {e : TypeId} {s : Nat} {v : Value} {n : Nat} {xs : List Value} (h : w.ownsRow b e s v n xs) (hb : b' ≤ b) : w.ownsRow b' e s v n xs := by
  refine ⟨h.1, ?_⟩
  rcases h.2 with hn | ⟨g, cap, cur, hv, hb1, r⟩
  · exact .inl hn
  · exact .inr ⟨g, cap, cur, hv, by omega, r⟩

theorem grownBy_below {w w' : World} (h : w.grownBy w' none) : Below w.heap.size w w' := ⟨h.os, h.tape, h.output, h.size, fun k hk => h.block k hk (by simp)⟩

/-- one row more -/
theorem OwnT.push {w w1 w3 : World} {B : Nat} {t t' v : Value} {rs : List (List Int)} {r : List Int} {vs : List Value} (h1 : w.ownsRow B 81 1 t rs.length vs) (h2 : ∀ i, i < rs.length → OwnI w B (vs.getD i undef) (ri rs i))
    (hr : OwnI w B v r) (hw : Below w.heap.size w w1) (hg : w1.grownBy w3 t.ownBlock) (hown' : w3.ownsRow B 81 1 t' (rs.length + 1) (vs ++ [v])) : OwnT w3 B t' (rs ++ [r]) := by
  have hl : vs.length = rs.length := by have := h1.1; simpa using this
  refine ⟨vs ++ [v], by simpa using hown', fun i hi => ?_⟩
  have keep : ∀ u q, OwnI w B u q → OwnI w3 B u q := fun u q hu => by
    have a1 := owns_below hu hw
    have a2 := owns_below h1 hw
    exact a1.kept hg (owns_ne a1 a2 (by decide))
  by_cases hi' : i < rs.length
  · rw [ri_append_left hi', show (vs ++ [v]).getD i undef = vs.getD i undef by simp [List.getElem?_append_left (show i < vs.length by omega)]]
    exact keep _ _ (h2 i hi')
  · have : i = rs.length := by simp at hi; omega
    subst this
    rw [ri_append_one, show (vs ++ [v]).getD rs.length undef = v by rw [← hl]; simp]
    exact keep _ _ hr

theorem OwnT.ss {w : World} {B : Nat} {t : Value} {rs : List (List Int)} (h : OwnT w B t rs) : SS w t rs := by
  obtain ⟨vs, h1, h2⟩ := h
  exact SS_of_owns h1 rfl fun i hi => SI_of_owns (h2 i hi)

/-- the form of an owned row that has an element -/
theorem owns_form {w : World} {b : Nat} {e : TypeId} {v : Value} {n : Nat} {xs : List Value} (h : w.ownsRow b e 1 v n xs) (hn : 0 < n) :
    ∃ g cap, v = .slice (some ⟨g, 0, none⟩) n cap ∧ n ≤ cap ∧ cap ≤ maxLen ∧ b ≤ g ∧ g < w.heap.size ∧ (∀ j, j < n → w.cell? ⟨g, j, none⟩ = some (xs.getD j undef)) ∧ ∀ j, w.frozen? ⟨g, j, none⟩ = false := by
  have h0 := h
  rcases h.2 with ⟨rfl, hn0⟩ | ⟨g, cap, cur, rfl, hb, hg, hnc, hcm, hcs, ht⟩
  · omega
  · refine ⟨g, cap, rfl, hnc, hcm, hb, lt_of_block hg, fun j hj => ?_, fun j => h0.frozenAt j⟩
    rw [h0.cellAt j (by omega)]
    have : j < xs.length := by have := h0.1; omega
    simp [this]

theorem OwnT.look {w : World} {B : Nat} {t : Value} {rs : List (List Int)} (h : OwnT w B t rs) {i : Nat} (hi : i < rs.length) (hn : 0 < (ri rs i).length) :
    ∃ gt capt gr capr, t = .slice (some ⟨gt, 0, none⟩) rs.length capt ∧ rs.length ≤ capt ∧ capt ≤ maxLen ∧ w.cell? ⟨gt, i, none⟩ = some (.slice (some ⟨gr, 0, none⟩) (ri rs i).length capr) ∧ (ri rs i).length ≤ capr ∧
      ∀ s, s < (ri rs i).length → w.cell? ⟨gr, s, none⟩ = some (.int .i64 (gi (ri rs i) s)) := by
  obtain ⟨vs, h1, h2⟩ := h
  obtain ⟨gt, capt, et, c1, c2, _, _, hc, _⟩ := owns_form h1 (by omega)
  obtain ⟨gr, capr, er, d1, _, _, _, hd, _⟩ := owns_form (h2 i hi) hn
  refine ⟨gt, capt, gr, capr, et, c1, c2, ?_, d1, fun s hs => ?_⟩
  · rw [hc i hi, er]
  · rw [hd s hs, gi_lt hs]; simp [hs]
theorem one_new (w : World) (v : Value) (e : TypeId) : ∀ j u, [v][j]? = some u → (w.alloc (.cells #[v] e)).cell? ((⟨w.heap.size, 0, none⟩ : Addr).add j) = some u := by
  intro j u hj
  match j, hj with
  | 0, hj => simp at hj; subst hj; simp [Addr.add]
theorem one_ok (v : Value) (h : v.oneCell' = true) : ∀ u ∈ [v], u.oneCell' = true := by intro u hu; simp at hu; subst hu; exact h
theorem gmax (a b : Int) : (if a < b then b else a) = max a b := by split <;> omega

/-- the first s values of f, then zeros, n in all -/
def part (f : Nat → Int) (s n : Nat) : List Int := (List.range n).map fun i => if i < s then f i else 0
theorem part_length (f s n) : (part f s n).length = n := by simp [part]
theorem part_zero (f n) : (part f 0 n).map (Value.int .i64) = (madeCells #[Value.int .i64 0] n).toList := by
  rw [toList_madeCells_one]
  apply List.ext_getElem
  · simp [part]
  · intro i h1 h2; simp [part]
theorem part_set (f : Nat → Int) (s n : Nat) : ((part f s n).map (Value.int .i64)).set s (.int .i64 (f s)) = (part f (s + 1) n).map (Value.int .i64) := by
  apply List.ext_getElem
  · simp [part]
  · intro i h1 h2
    simp [part, List.getElem_set]
    by_cases e : s = i
    · subst e; simp
    · rw [if_neg e]
      by_cases e2 : i < s
      · rw [if_pos e2, if_pos (by omega)]
      · rw [if_neg e2, if_neg (by omega)]
theorem part_get (f : Nat → Int) {s n i : Nat} (hi : i < s) (hn : i < n) : ((part f s n).map (Value.int .i64)).getD i undef = .int .i64 (f i) := by
  simp [part, hn, hi]
theorem part_cell {w : World} {B : Nat} {e : TypeId} {f : Nat → Int} {s n g cap : Nat} (h : w.ownsRow B e 1 (.slice (some ⟨g, 0, none⟩) n cap) n ((part f s n).map (Value.int .i64))) {i : Nat} (hi : i < n) :
    w.cell? ⟨g, i, none⟩ = some (.int .i64 (if i < s then f i else 0)) := by
  rw [h.cellAt i (by omega)]
  simp [part, hi]
theorem part_store {w : World} {B : Nat} {e : TypeId} {f : Nat → Int} {s n g cap : Nat} (h : w.ownsRow B e 1 (.slice (some ⟨g, 0, none⟩) n cap) n ((part f s n).map (Value.int .i64))) {x : Int} (hx : x = f s) :
    (w.setCell ⟨g, s, none⟩ (.int .i64 x)).ownsRow B e 1 (.slice (some ⟨g, 0, none⟩) n cap) n ((part f (s + 1) n).map (Value.int .i64)) := by
  subst hx
  rw [← part_set]
  exact (h.stored s _).1
/-- a row being filled whose element s holds x for now -/
def PartS (w : World) (B g n cap : Nat) (f : Nat → Int) (s : Nat) (x : Int) : Prop := w.ownsRow B 3 1 (.slice (some ⟨g, 0, none⟩) n cap) n (((part f s n).map (Value.int .i64)).set s (.int .i64 x))
theorem PartS.start {w : World} {B g n cap : Nat} {f : Nat → Int} {s : Nat} (h : w.ownsRow B 3 1 (.slice (some ⟨g, 0, none⟩) n cap) n ((part f s n).map (Value.int .i64))) (hs : s < n) : PartS w B g n cap f s 0 := by
  unfold PartS
  have : ((part f s n).map (Value.int .i64)).set s (.int .i64 0) = (part f s n).map (Value.int .i64) := by
    apply List.ext_getElem
    · simp
    · intro i h1 h2
      rw [List.getElem_set]
      split
      · rename_i e; subst e; simp [part]
      · rfl
  rw [this]; exact h
theorem PartS.store {w : World} {B g n cap : Nat} {f : Nat → Int} {s : Nat} {x : Int} (h : PartS w B g n cap f s x) (y : Int) : PartS (w.setCell ⟨g, s, none⟩ (.int .i64 y)) B g n cap f s y := by
  have := (World.ownsRow.stored h s (.int .i64 y)).1
  rw [List.set_set] at this
  exact this
theorem PartS.drew {w : World} {B g n cap : Nat} {f : Nat → Int} {s : Nat} {x : Int} (h : PartS w B g n cap f s x) : PartS w.drew B g n cap f s x := h
theorem PartS.done {w : World} {B g n cap : Nat} {f : Nat → Int} {s : Nat} {x : Int} (h : PartS w B g n cap f s x) (hx : x = f s) : w.ownsRow B 3 1 (.slice (some ⟨g, 0, none⟩) n cap) n ((part f (s + 1) n).map (Value.int .i64)) := by
  subst hx; unfold PartS at h; rw [part_set] at h; exact h
theorem PartS.cell {w : World} {B g n cap : Nat} {f : Nat → Int} {s : Nat} {x : Int} (h : PartS w B g n cap f s x) (hs : s < n) : w.cell? ⟨g, s, none⟩ = some (.int .i64 x) := by
  rw [World.ownsRow.cellAt h s (by omega)]
  simp [part, hs]
theorem PartS.cell' {w : World} {B g n cap : Nat} {f : Nat → Int} {s : Nat} {x : Int} (h : PartS w B g n cap f s x) {i : Nat} (hi : i < s) (hs : i < n) : w.cell? ⟨g, i, none⟩ = some (.int .i64 (f i)) := by
  rw [World.ownsRow.cellAt h i (by omega)]
  rw [List.getElem?_set_ne (by omega)]
  simp [part, hs, hi]
theorem PartS.frozen {w : World} {B g n cap : Nat} {f : Nat → Int} {s : Nat} {x : Int} (h : PartS w B g n cap f s x) (j : Nat) : w.frozen? ⟨g, j, none⟩ = false := World.ownsRow.frozenAt h j
theorem part_full (f : Nat → Int) (n : Nat) : part f n n = (List.range n).map f := by
  unfold part
  apply List.map_congr_left
  intro i hi
  simp at hi
  simp [hi]
end Go.Proofs.YtlmfcigabojbmaaGreatDoor
