/- A table of rows that the call owns, each row in a block of its own, so that rows can be changed in place. -/
import Derived.Test.YtlgepggmgfnneaaAppRow
import Derived.OneCell
import Derived.WalkSmall
namespace Go.Proofs.Ytlgepggmgfnneaa
open Go.RowKit

/-- two slices lie in different blocks -/
def Sep (u v : Value) : Prop := ∀ g, u.ownBlock = some g → v.ownBlock ≠ some g
theorem Sep.symm {u v : Value} (h : Sep u v) : Sep v u := fun g hv hu => h g hu hv
theorem Sep.row {u v : Value} (h : Sep u v) : u.ownBlock = none ∨ u.ownBlock ≠ v.ownBlock := by
  cases e : u.ownBlock with
  | none => exact .inl rfl
  | some g => exact .inr fun h2 => h g e h2.symm
theorem sep_of_types {w : World} {b b' : Nat} {e e' : TypeId} {s s' : Nat} {v v' : Value} {n n' : Nat} {xs xs' : List Value} (h : w.ownsRow b e s v n xs) (h' : w.ownsRow b' e' s' v' n' xs') (hne : e ≠ e') : Sep v v' := by
  intro g h1 h2
  rcases owns_ne h h' hne with h3 | h3
  · rw [h3] at h1; cases h1
  · exact h3 (h1.trans h2.symm)

/-- the rows of a table, by their slice values -/
structure TabV (w : World) (B : Nat) (t : Value) (rs : List (List Int)) (vs : List Value) : Prop where
  own : w.ownsRow B 36 1 t rs.length vs
  row : ∀ i, i < rs.length → OwnI w B (vs.getD i undef) (ri rs i)
  sep : ∀ i k, i < rs.length → k < rs.length → i ≠ k → Sep (vs.getD i undef) (vs.getD k undef)
def Tab (w : World) (B : Nat) (t : Value) (rs : List (List Int)) : Prop := ∃ vs, TabV w B t rs vs

theorem TabV.len {w : World} {B : Nat} {t : Value} {rs : List (List Int)} {vs : List Value} (h : TabV w B t rs vs) : vs.length = rs.length := by have := h.own.1; simpa using this
theorem TabV.nil (w : World) (B : Nat) : TabV w B (.slice none 0 0) [] [] := ⟨World.ownsRow_nil _ _ _ _, fun i hi => by simp at hi, fun i k hi => by simp at hi⟩
theorem Tab.nil (w : World) (B : Nat) : Tab w B (.slice none 0 0) [] := ⟨[], TabV.nil w B⟩
theorem TabV.ownT {w : World} {B : Nat} {t : Value} {rs : List (List Int)} {vs : List Value} (h : TabV w B t rs vs) : OwnT w B t rs := ⟨vs, h.own, h.row⟩
theorem Tab.ss {w : World} {B : Nat} {t : Value} {rs : List (List Int)} (h : Tab w B t rs) : SS w t rs := by obtain ⟨vs, h⟩ := h; exact h.ownT.ss
theorem TabV.below {w w' : World} {B : Nat} {t : Value} {rs : List (List Int)} {vs : List Value} (h : TabV w B t rs vs) (hb : Below w.heap.size w w') : TabV w' B t rs vs :=
  ⟨owns_below h.own hb, fun i hi => (h.row i hi).below hb, h.sep⟩
theorem Tab.below {w w' : World} {B : Nat} {t : Value} {rs : List (List Int)} (h : Tab w B t rs) (hb : Below w.heap.size w w') : Tab w' B t rs := by obtain ⟨vs, h⟩ := h; exact ⟨vs, h.below hb⟩
theorem TabV.kept {w w' : World} {B : Nat} {t : Value} {rs : List (List Int)} {vs : List Value} {row : Option Nat} (h : TabV w B t rs vs) (hg : w.grownBy w' row) (h1 : t.ownBlock = none ∨ t.ownBlock ≠ row)
    (h2 : ∀ i, i < rs.length → (vs.getD i undef).ownBlock = none ∨ (vs.getD i undef).ownBlock ≠ row) : TabV w' B t rs vs :=
  ⟨h.own.kept hg h1, fun i hi => World.ownsRow.kept (h.row i hi) hg (h2 i hi), h.sep⟩
theorem TabV.mono {w : World} {B B' : Nat} {t : Value} {rs : List (List Int)} {vs : List Value} (h : TabV w B t rs vs) (hb : B' ≤ B) : TabV w B' t rs vs :=
  ⟨owns_mono h.own hb, fun i hi => (h.row i hi).mono hb, h.sep⟩

theorem getD_append_left {vs : List Value} {v : Value} {i : Nat} (h : i < vs.length) : (vs ++ [v]).getD i undef = vs.getD i undef := by simp [List.getElem?_append_left h]
theorem getD_append_one {vs : List Value} {v : Value} : (vs ++ [v]).getD vs.length undef = v := by simp

/-- one row more, in a block of its own -/
theorem TabV.push {wo w1 w3 : World} {B : Nat} {t t' v : Value} {rs : List (List Int)} {r : List Int} {vs : List Value} (h : TabV wo B t rs vs) (hB : B ≤ wo.heap.size) (hb : Below wo.heap.size wo w1)
    (hr : OwnI w1 wo.heap.size v r) (hg : w1.grownBy w3 t.ownBlock) (hown' : w3.ownsRow B 36 1 t' (rs.length + 1) (vs ++ [v])) : TabV w3 B t' (rs ++ [r]) (vs ++ [v]) := by
  have hl := h.len
  have hT := h.below hb
  have keep : ∀ u q, OwnI w1 B u q → OwnI w3 B u q := fun u q hu => World.ownsRow.kept hu hg (owns_ne hu hT.own (by decide))
  have hv : ∀ i, i < rs.length → Sep (vs.getD i undef) v := by
    intro i hi g h1 h2
    have a := (World.ownsRow.lt (h.row i hi) g h1).2
    have b := (World.ownsRow.lt hr g h2).1
    omega
  refine ⟨by simpa using hown', fun i hi => ?_, fun i k hi hk hne => ?_⟩
  · by_cases hi' : i < rs.length
    · rw [ri_append_left hi', getD_append_left (by omega)]
      exact keep _ _ (hT.row i hi')
    · have : i = rs.length := by simp at hi; omega
      subst this
      rw [ri_append_one, ← hl, getD_append_one]
      exact keep _ _ (hr.mono hB)
  · simp only [List.length_append, List.length_singleton] at hi hk
    by_cases hi' : i < rs.length
    · rw [getD_append_left (show i < vs.length by omega)]
      by_cases hk' : k < rs.length
      · rw [getD_append_left (show k < vs.length by omega)]; exact h.sep i k hi' hk' hne
      · obtain rfl : k = vs.length := by omega
        rw [getD_append_one]; exact hv i hi'
    · obtain rfl : i = vs.length := by omega
      rw [getD_append_one, getD_append_left (show k < vs.length by omega)]
      exact (hv k (by omega)).symm

theorem ri_set {rs : List (List Int)} {k i : Nat} {r : List Int} (hk : k < rs.length) : ri (rs.set k r) i = if i = k then r else ri rs i := by
  unfold ri
  rw [List.getD_eq_getElem?_getD, List.getElem?_set]
  by_cases e : k = i
  · subst e; simp [hk]
  · rw [if_neg e, if_neg (fun h => e h.symm), List.getD_eq_getElem?_getD]
theorem getD_set {vs : List Value} {k i : Nat} {r : Value} (hk : k < vs.length) : (vs.set k r).getD i undef = if i = k then r else vs.getD i undef := by
  rw [List.getD_eq_getElem?_getD, List.getElem?_set]
  by_cases e : k = i
  · subst e; simp [hk]
  · rw [if_neg e, if_neg (fun h => e h.symm), List.getD_eq_getElem?_getD]

/-- a number of a row is stored anew -/
theorem TabV.store {w : World} {B g n cap : Nat} {t : Value} {rs : List (List Int)} {vs : List Value} (h : TabV w B t rs vs) {k : Nat} (hk : k < rs.length) (hv : vs.getD k undef = .slice (some ⟨g, 0, none⟩) n cap) (s : Nat) (x : Int) :
    TabV (w.setCell ⟨g, s, none⟩ (.int .i64 x)) B t (rs.set k ((ri rs k).set s x)) vs := by
  have hr := h.row k hk
  have hs := h.sep
  rw [hv] at hr
  have hn : n = (ri rs k).length := by obtain ⟨a, c, he, _⟩ := hr.si; simp at he; exact he.2.1
  subst hn
  have hst := World.ownsRow.stored hr s (.int .i64 x)
  have ht : Sep t (.slice (some ⟨g, 0, none⟩) (ri rs k).length cap) := sep_of_types h.own hr (by decide)
  refine ⟨?_, fun i hi => ?_, fun i j hi hj hne => h.sep i j (by simpa using hi) (by simpa using hj) hne⟩
  · rw [List.length_set]
    exact h.own.kept hst.2 ht.row
  · rw [List.length_set] at hi
    rw [ri_set hk]
    by_cases e : i = k
    · subst e
      rw [if_pos rfl, hv]
      unfold OwnI
      rw [List.length_set, List.map_set]
      exact hst.1
    · rw [if_neg e]
      have := h.sep i k hi hk e
      rw [hv] at this
      exact World.ownsRow.kept (h.row i hi) hst.2 this.row

/-- a row is replaced: by one in the same block or in a new one -/
theorem TabV.put {w w' : World} {B gt capt n : Nat} {t v' : Value} {rs : List (List Int)} {vs : List Value} {r' : List Int} (h : TabV w B t rs vs) (ht : t = .slice (some ⟨gt, 0, none⟩) n capt) {k : Nat} (hk : k < rs.length)
    (hg : w.grownBy w' (vs.getD k undef).ownBlock) (ho : OwnI w' B v' r') (hv : v'.ownBlock = (vs.getD k undef).ownBlock ∨ v'.ownBlock = some w.heap.size ∨ v'.ownBlock = none) :
    TabV (w'.setCell ⟨gt, k, none⟩ v') B t (rs.set k r') (vs.set k v') := by
  have hl := h.len
  subst ht
  have hn : n = rs.length := by
    rcases h.own.2 with ⟨e, _⟩ | ⟨g, cap, cur, e, _⟩
    · simp at e
    · simp at e; exact e.2.1
  subst hn
  have hsepT : ∀ i, i < rs.length → Sep (vs.getD i undef) (.slice (some ⟨gt, 0, none⟩) rs.length capt) := fun i hi => sep_of_types (h.row i hi) h.own (by decide)
  have h1 : w'.ownsRow B 36 1 (.slice (some ⟨gt, 0, none⟩) rs.length capt) rs.length vs := h.own.kept hg ((hsepT k hk).symm.row)
  have hst := World.ownsRow.stored h1 k v'
  have hsv : Sep v' (.slice (some ⟨gt, 0, none⟩) rs.length capt) := sep_of_types ho h1 (by decide)
  have hold : ∀ i, i < rs.length → i ≠ k → Sep (vs.getD i undef) v' := by
    intro i hi hne g e1 e2
    rcases hv with e | e | e
    · exact h.sep i k hi hk hne g e1 (e ▸ e2)
    · have := (World.ownsRow.lt (h.row i hi) g e1).2
      rw [e] at e2; simp at e2; omega
    · rw [e] at e2; cases e2
  refine ⟨?_, fun i hi => ?_, fun i j hi hj hne => ?_⟩
  · rw [List.length_set]; exact hst.1
  · rw [List.length_set] at hi
    rw [ri_set hk, getD_set (by omega)]
    by_cases e : i = k
    · rw [if_pos e, if_pos e]
      exact World.ownsRow.kept ho hst.2 hsv.row
    · rw [if_neg e, if_neg e]
      exact World.ownsRow.kept (World.ownsRow.kept (h.row i hi) hg (h.sep i k hi hk e).row) hst.2 (hsepT i hi).row
  · rw [List.length_set] at hi hj
    rw [getD_set (by omega), getD_set (by omega)]
    by_cases e : i = k
    · rw [if_pos e, if_neg (by omega)]
      exact (hold j hj (by omega)).symm
    · rw [if_neg e]
      by_cases e2 : j = k
      · rw [if_pos e2]; exact hold i hi e
      · rw [if_neg e2]; exact h.sep i j hi hj hne

/-- the last row is left out -/
theorem TabV.pop {w : World} {B g cap n : Nat} {rs : List (List Int)} {r : List Int} {vs : List Value} {v : Value} (h : TabV w B (.slice (some ⟨g, 0, none⟩) (n + 1) cap) (rs ++ [r]) (vs ++ [v])) (hn : rs.length = n) :
    TabV w B (.slice (some ⟨g, 0, none⟩) n cap) rs vs := by
  subst hn
  have hl : vs.length = rs.length := by have := h.len; simpa using this
  refine ⟨?_, fun i hi => ?_, fun i k hi hk hne => ?_⟩
  · have ho := h.own
    rw [List.length_append, List.length_singleton] at ho
    exact ownsRow_pop (by omega) ho
  · have := h.row i (by simp; omega)
    rwa [ri_append_left hi, getD_append_left (by omega)] at this
  · have := h.sep i k (by simp; omega) (by simp; omega) hne
    rwa [getD_append_left (by omega), getD_append_left (by omega)] at this

theorem TabV.form {w : World} {B : Nat} {t : Value} {rs : List (List Int)} {vs : List Value} (h : TabV w B t rs vs) (hn : 0 < rs.length) :
    ∃ g cap, t = .slice (some ⟨g, 0, none⟩) rs.length cap ∧ rs.length ≤ cap ∧ cap ≤ maxLen ∧ B ≤ g ∧ g < w.heap.size ∧ (∀ j, j < rs.length → w.cell? ⟨g, j, none⟩ = some (vs.getD j undef)) ∧ ∀ j, w.frozen? ⟨g, j, none⟩ = false :=
  owns_form h.own hn
theorem OwnI.form {w : World} {B : Nat} {v : Value} {r : List Int} (h : OwnI w B v r) (hn : 0 < r.length) :
    ∃ g cap, v = .slice (some ⟨g, 0, none⟩) r.length cap ∧ r.length ≤ cap ∧ cap ≤ maxLen ∧ B ≤ g ∧ g < w.heap.size ∧ (∀ j, j < r.length → w.cell? ⟨g, j, none⟩ = some (.int .i64 (gi r j))) ∧ ∀ j, w.frozen? ⟨g, j, none⟩ = false := by
  obtain ⟨g, cap, e, h1, h2, h3, h4, h5, h6⟩ := owns_form h hn
  refine ⟨g, cap, e, h1, h2, h3, h4, fun j hj => ?_, h6⟩
  rw [h5 j hj, gi_lt hj]; simp [hj]
/-- the builtin append of one row onto a table -/
theorem wpList_app_tab {ops : Array Oper} {rest : List Oper} {o : Oper} {a : Act} {Q : Exit → Act → World → Prop} {wo w : World} (hgd : o.guard = none) (s x : Operand)
    (ho : o.op = .call { callee := .builtin .append, args := #[s, x], argTypes := #[40, 40] })
    (B : Nat) (t v : Value) (rs : List (List Int)) (r : List Int) (vs : List Value) (e : TypeId) (hs : a.eval s = t) (hx : a.eval x = .slice (some ⟨w.heap.size, 0, none⟩) 1 1)
    (hown : TabV wo B t rs vs) (hB : B ≤ wo.heap.size) (hb : Below wo.heap.size wo w) (hr : OwnI w wo.heap.size v r) (h1c : v.oneCell' = true) (hlen : rs.length ≤ 1000000)
    (h : ∀ t' w', TabV w' B t' (rs ++ [r]) (vs ++ [v]) → (w.alloc (.cells #[v] e)).grownBy w' t.ownBlock → (∀ k, t.ownBlock = some k → B ≤ k) → wpList Try.prog ops Q rest (a.put o.dst t') w') :
    wpList Try.prog ops Q (o :: rest) a (w.alloc (.cells #[v] e)) := by
  obtain ⟨i, hi, hz0, hz1, hz2⟩ := info_parts Try_infoInts
  have ht := hown.below hb
  refine wpList_append_own _ hgd s x 40 ho B 36 i (.slice none 0 0) 1 24 Try.underlying40 hi hz0 hz1 hz2 rfl (by decide) t rs.length vs hs (ht.own.alloc _) ⟨w.heap.size, 0, none⟩ 1 1 [v] hx rfl (one_new _ _ _) (one_ok _ h1c) (by unfold maxLen; omega) (by omega) (by have := hb.size; simp; omega) ?_
  intro t' w' hown' hgrow _
  exact h t' w' (TabV.push hown hB (hb.alloc hb.size _) (hr.alloc _) hgrow hown') hgrow (fun k hk => (ht.own.lt k hk).1)
/-- the cells of a row with an element -/
theorem TabV.look {w : World} {B : Nat} {t : Value} {rs : List (List Int)} {vs : List Value} (h : TabV w B t rs vs) {i : Nat} (hi : i < rs.length) (hn : 0 < (ri rs i).length) :
    ∃ gt capt gr capr, t = .slice (some ⟨gt, 0, none⟩) rs.length capt ∧ rs.length ≤ capt ∧ w.cell? ⟨gt, i, none⟩ = some (.slice (some ⟨gr, 0, none⟩) (ri rs i).length capr) ∧ (ri rs i).length ≤ capr ∧ B ≤ gr ∧ gr < w.heap.size ∧
      vs.getD i undef = .slice (some ⟨gr, 0, none⟩) (ri rs i).length capr ∧ (∀ s, s < (ri rs i).length → w.cell? ⟨gr, s, none⟩ = some (.int .i64 (gi (ri rs i) s))) ∧ ∀ s, w.frozen? ⟨gr, s, none⟩ = false := by
  obtain ⟨gt, capt, et, c1, _, _, _, c5, _⟩ := h.form (by omega)
  obtain ⟨gr, capr, er, d1, _, d3, d4, d5, d6⟩ := (h.row i hi).form hn
  exact ⟨gt, capt, gr, capr, et, c1, by rw [c5 i hi, er], d1, d3, d4, er, d5, d6⟩
end Go.Proofs.Ytlgepggmgfnneaa
