/- All ways of putting pieces into bars, in the order of the search, and what the two searches find; in plain Lean. -/
import Derived.Test.YtlgepggmgfnneaaBarSpec
namespace Go.Proofs.Ytlgepggmgfnneaa

/-- all completions, in the order of the search: the bars of the pieces that are left, and the number of bars at the end; c: what a new bar has -/
def alls (c : Int) : List Int → List Int → List (List Nat × Nat)
  | [], fr => [([], fr.length)]
  | x :: xs, fr => ((List.range fr.length).flatMap fun k => if x ≤ gi fr k then (alls c xs (fr.set k (gi fr k - x))).map fun r => (k :: r.1, r.2) else [])
      ++ (alls c xs (fr ++ [c - x])).map fun r => (fr.length :: r.1, r.2)

theorem alls_nil (c fr) : alls c [] fr = [([], fr.length)] := rfl
theorem alls_cons (c x xs fr) : alls c (x :: xs) fr = ((List.range fr.length).flatMap fun k => if x ≤ gi fr k then (alls c xs (fr.set k (gi fr k - x))).map fun r => (k :: r.1, r.2) else [])
      ++ (alls c xs (fr ++ [c - x])).map fun r => (fr.length :: r.1, r.2) := rfl

theorem mem_alls_cons {c x : Int} {xs fr : List Int} {r : List Nat × Nat} : r ∈ alls c (x :: xs) fr ↔
    (∃ k q, k < fr.length ∧ x ≤ gi fr k ∧ q ∈ alls c xs (fr.set k (gi fr k - x)) ∧ r = (k :: q.1, q.2)) ∨ ∃ q, q ∈ alls c xs (fr ++ [c - x]) ∧ r = (fr.length :: q.1, q.2) := by
  rw [alls_cons, List.mem_append, List.mem_flatMap, List.mem_map]
  constructor
  · rintro (⟨k, hk, h⟩ | ⟨q, hq, rfl⟩)
    · rw [List.mem_range] at hk
      by_cases hx : x ≤ gi fr k
      · rw [if_pos hx, List.mem_map] at h
        obtain ⟨q, hq, rfl⟩ := h
        exact .inl ⟨k, q, hk, hx, hq, rfl⟩
      · rw [if_neg hx] at h; cases h
    · exact .inr ⟨q, hq, rfl⟩
  · rintro (⟨k, q, hk, hx, hq, rfl⟩ | ⟨q, hq, rfl⟩)
    · exact .inl ⟨k, List.mem_range.2 hk, by rw [if_pos hx, List.mem_map]; exact ⟨q, hq, rfl⟩⟩
    · exact .inr ⟨q, hq, rfl⟩

/-- the number of bars does not fall -/
theorem alls_ge {c : Int} {xs : List Int} : ∀ {fr : List Int} {r}, r ∈ alls c xs fr → fr.length ≤ r.2 ∧ r.2 ≤ fr.length + xs.length ∧ r.1.length = xs.length := by
  induction xs with
  | nil => intro fr r h; rw [alls_nil, List.mem_singleton] at h; subst h; simp
  | cons x xs ih =>
    intro fr r h
    rw [mem_alls_cons] at h
    rcases h with ⟨k, q, hk, _, hq, rfl⟩ | ⟨q, hq, rfl⟩
    · have := ih hq
      simp at this
      simp; omega
    · have := ih hq
      simp at this
      simp; omega

/-! what the program's search finds -/
/-- the first completion with at most n bars -/
def dv (c : Int) (n : Nat) (xs fr : List Int) : Option (List Nat × Nat) := (alls c xs fr).find? fun r => decide (r.2 ≤ n)
def consB (k : Nat) (r : List Nat × Nat) : List Nat × Nat := (k :: r.1, r.2)

theorem dv_nil {c : Int} {n : Nat} {fr : List Int} (h : fr.length ≤ n) : dv c n [] fr = some ([], fr.length) := by
  simp [dv, alls_nil, h]

theorem find_map_cons {k n : Nat} (L : List (List Nat × Nat)) : ((L.map fun r => (k :: r.1, r.2)).find? fun r => decide (r.2 ≤ n)) = (L.find? fun r => decide (r.2 ≤ n)).map (consB k) := by
  induction L with
  | nil => rfl
  | cons a L ih =>
    simp only [List.map_cons, List.find?_cons]
    by_cases h : a.2 ≤ n
    · simp [h, consB]
    · simp only [h, decide_false]; exact ih

/-- into the k-th bar -/
def dvAt (c : Int) (n : Nat) (x : Int) (xs fr : List Int) (k : Nat) : Option (List Nat × Nat) := if x ≤ gi fr k then (dv c n xs (fr.set k (gi fr k - x))).map (consB k) else none

theorem dv_find {c : Int} {n : Nat} {x : Int} {xs fr : List Int} (k : Nat) :
    ((if x ≤ gi fr k then (alls c xs (fr.set k (gi fr k - x))).map fun r => (k :: r.1, r.2) else []).find? fun r => decide (r.2 ≤ n)) = dvAt c n x xs fr k := by
  unfold dvAt
  by_cases h : x ≤ gi fr k
  · rw [if_pos h, if_pos h]; exact find_map_cons _
  · rw [if_neg h, if_neg h]; rfl
theorem find_flatMap_none {c : Int} {n : Nat} {x : Int} {xs fr : List Int} : ∀ (m : Nat), (∀ j, j < m → dvAt c n x xs fr j = none) →
    ((List.range m).flatMap fun k => if x ≤ gi fr k then (alls c xs (fr.set k (gi fr k - x))).map fun r => (k :: r.1, r.2) else []).find? (fun r => decide (r.2 ≤ n)) = none := by
  intro m
  induction m with
  | zero => intro _; rfl
  | succ m ih =>
    intro h
    rw [List.range_succ, List.flatMap_append, List.find?_append, ih fun j hj => h j (by omega)]
    have := dv_find (c := c) (n := n) (x := x) (xs := xs) (fr := fr) m
    rw [h m (by omega)] at this
    simpa using this
theorem find_flatMap_some {c : Int} {n : Nat} {x : Int} {xs fr : List Int} {r : List Nat × Nat} {k m : Nat} (hk : k < m) (h : ∀ j, j < k → dvAt c n x xs fr j = none) (hr : dvAt c n x xs fr k = some r) :
    ((List.range m).flatMap fun k => if x ≤ gi fr k then (alls c xs (fr.set k (gi fr k - x))).map fun r => (k :: r.1, r.2) else []).find? (fun r => decide (r.2 ≤ n)) = some r := by
  induction m with
  | zero => omega
  | succ m ih =>
    rw [List.range_succ, List.flatMap_append, List.find?_append]
    by_cases e : k = m
    · subst e
      rw [find_flatMap_none k h]
      have := dv_find (c := c) (n := n) (x := x) (xs := xs) (fr := fr) k
      rw [hr] at this
      simpa using this
    · rw [ih (by omega)]; rfl
theorem dv_hit {c : Int} {n : Nat} {x : Int} {xs fr : List Int} {r : List Nat × Nat} {k : Nat} (hk : k < fr.length) (h : ∀ j, j < k → dvAt c n x xs fr j = none) (hr : dvAt c n x xs fr k = some r) : dv c n (x :: xs) fr = some r := by
  unfold dv
  rw [alls_cons, List.find?_append, find_flatMap_some (m := fr.length) hk h hr]; rfl
theorem dv_new {c : Int} {n : Nat} {x : Int} {xs fr : List Int} (h : ∀ j, j < fr.length → dvAt c n x xs fr j = none) : dv c n (x :: xs) fr = (dv c n xs (fr ++ [c - x])).map (consB fr.length) := by
  unfold dv
  rw [alls_cons, List.find?_append, find_flatMap_none _ h]
  simpa using find_map_cons _
theorem dv_full {c : Int} {n : Nat} {xs fr : List Int} (h : n < fr.length) : dv c n xs fr = none := by
  unfold dv
  rw [List.find?_eq_none]
  intro r hr
  have := alls_ge hr
  simp; omega
theorem dv_stop {c : Int} {n : Nat} {x : Int} {xs fr : List Int} (h : ∀ j, j < fr.length → dvAt c n x xs fr j = none) (hn : fr.length = n) : dv c n (x :: xs) fr = none := by
  rw [dv_new h, dv_full (by simp; omega)]; rfl

/-! two bars with the same room -/
def swpB (k k' j : Nat) : Nat := if j = k then k' else if j = k' then k else j
def swF (fr : List Int) (k k' : Nat) : List Int := (fr.set k (gi fr k')).set k' (gi fr k)
theorem swpB_lt {k k' j n : Nat} (h1 : k < n) (h2 : k' < n) (h : j < n) : swpB k k' j < n := by unfold swpB; split; exact h2; split; exact h1; exact h
theorem swF_length (fr k k') : (swF fr k k').length = fr.length := by simp [swF]
theorem gi_setB {fr : List Int} {k j : Nat} {v : Int} (h : k < fr.length) : gi (fr.set k v) j = if j = k then v else gi fr j := by
  unfold gi
  rw [List.getD_eq_getElem?_getD, List.getD_eq_getElem?_getD, List.getElem?_set]
  by_cases e : k = j
  · subst e; simp [h]
  · rw [if_neg e, if_neg (fun h => e h.symm)]
theorem gi_swF {fr : List Int} {k k' j : Nat} (h1 : k < fr.length) (h2 : k' < fr.length) : gi (swF fr k k') (swpB k k' j) = gi fr j := by
  unfold swF swpB
  rw [gi_setB (by simpa using h2), gi_setB h1]
  by_cases e : j = k
  · subst e; simp
  · rw [if_neg e]
    by_cases e2 : j = k'
    · subst e2
      by_cases e3 : k = j
      · exact absurd e3.symm e
      · simp [e3]
    · rw [if_neg e2, if_neg e2, if_neg e]
theorem swF_set {fr : List Int} {k k' j : Nat} (h1 : k < fr.length) (h2 : k' < fr.length) (hj : j < fr.length) (v : Int) : swF (fr.set j v) k k' = (swF fr k k').set (swpB k k' j) v := by
  apply gi_ext
  · simp [swF]
  · intro i hi
    rw [swF_length, List.length_set] at hi
    rw [gi_setB (by rw [swF_length]; exact swpB_lt h1 h2 hj)]
    unfold swF swpB
    simp only [gi_setB, List.length_set, h1, h2, hj]
    by_cases e1 : i = k <;> by_cases e2 : i = k' <;> by_cases e3 : j = k <;> by_cases e4 : j = k' <;> simp_all <;> omega
theorem swF_append {fr : List Int} {k k' : Nat} (h1 : k < fr.length) (h2 : k' < fr.length) (v : Int) : swF (fr ++ [v]) k k' = swF fr k k' ++ [v] := by
  unfold swF
  rw [gi_append_left h1, gi_append_left h2, List.set_append_left _ _ h1, List.set_append_left _ _ (by simpa using h2)]
theorem swpB_big {k k' n : Nat} (h1 : k < n) (h2 : k' < n) : swpB k k' n = n := by unfold swpB; rw [if_neg (by omega), if_neg (by omega)]

theorem alls_swap {c : Int} {xs : List Int} : ∀ {fr : List Int} {k k' : Nat} {r}, k < fr.length → k' < fr.length → r ∈ alls c xs fr → (r.1.map (swpB k k'), r.2) ∈ alls c xs (swF fr k k') := by
  induction xs with
  | nil => intro fr k k' r _ _ h; rw [alls_nil, List.mem_singleton] at h; subst h; simp [alls_nil, swF_length]
  | cons x xs ih =>
    intro fr k k' r h1 h2 h
    rw [mem_alls_cons] at h ⊢
    rcases h with ⟨j, q, hj, hx, hq, rfl⟩ | ⟨q, hq, rfl⟩
    · refine .inl ⟨swpB k k' j, (q.1.map (swpB k k'), q.2), by rw [swF_length]; exact swpB_lt h1 h2 hj, by rw [gi_swF h1 h2]; exact hx, ?_, by simp⟩
      have := ih (k := k) (k' := k') (by simpa using h1) (by simpa using h2) hq
      rw [swF_set h1 h2 hj] at this
      rw [gi_swF h1 h2]; exact this
    · refine .inr ⟨(q.1.map (swpB k k'), q.2), ?_, by simp [swF_length, swpB_big h1 h2]⟩
      have := ih (k := k) (k' := k') (by simp; omega) (by simp; omega) hq
      rwa [swF_append h1 h2] at this

theorem dv_none {c : Int} {n : Nat} {xs fr : List Int} : dv c n xs fr = none ↔ ∀ r ∈ alls c xs fr, n < r.2 := by
  unfold dv
  rw [List.find?_eq_none]
  simp

/-- a bar with the same room as an earlier one need not be tried -/
theorem dvAt_same {c : Int} {n : Nat} {x : Int} {xs fr : List Int} {k k' : Nat} (h1 : k < fr.length) (h2 : k' < k) (he : gi fr k' = gi fr k) (h : dvAt c n x xs fr k' = none) : dvAt c n x xs fr k = none := by
  unfold dvAt at *
  rw [he] at h
  by_cases hx : x ≤ gi fr k
  · rw [if_pos hx] at h ⊢
    rw [Option.map_eq_none_iff, dv_none] at h ⊢
    intro r hr
    have := alls_swap (k := k) (k' := k') (by simpa using h1) (by simp; omega) hr
    have e : swF (fr.set k (gi fr k - x)) k k' = fr.set k' (gi fr k - x) := by
      apply gi_ext
      · simp [swF]
      · intro i hi
        have h3 : k' < fr.length := by omega
        unfold swF
        simp only [gi_setB, List.length_set, h1, h3]
        by_cases e1 : i = k <;> by_cases e2 : i = k' <;> simp_all <;> omega
    rw [e] at this
    have := h _ this
    exact this
  · rw [if_neg hx]

/-! what the reference's search finds -/
abbrev BestS := List Nat × Nat
def better (st : BestS) (r : List Nat × Nat) : BestS := if r.2 < st.2 then r else st
/-- the best of what was there and of all that begins with a list of bars -/
def plB (c : Int) (xs fr : List Int) (bar : List Nat) (st : BestS) : BestS := ((alls c xs fr).map fun r => (bar ++ r.1, r.2)).foldl better st
theorem better_fold_none (L : List (List Nat × Nat)) (st : BestS) (h : ∀ r ∈ L, st.2 ≤ r.2) : L.foldl better st = st := by
  induction L with
  | nil => rfl
  | cons a L ih =>
    rw [List.foldl_cons, better, if_neg (by have := h a (by simp); omega)]
    exact ih fun r hr => h r (by simp [hr])
theorem plB_cut {c : Int} {xs fr : List Int} {bar : List Nat} {st : BestS} (h : st.2 ≤ fr.length) : plB c xs fr bar st = st := by
  apply better_fold_none
  intro r hr
  rw [List.mem_map] at hr
  obtain ⟨q, hq, rfl⟩ := hr
  have := alls_ge hq
  simp; omega
theorem plB_nil {c : Int} {fr : List Int} {bar : List Nat} {st : BestS} (h : fr.length < st.2) : plB c [] fr bar st = (bar, fr.length) := by
  simp [plB, alls_nil, better, h]
/-- behind the first m bars -/
def plT (c : Int) (x : Int) (xs fr : List Int) (bar : List Nat) (st : BestS) : Nat → BestS
  | 0 => st
  | m + 1 => if x ≤ gi fr m then plB c xs (fr.set m (gi fr m - x)) (bar ++ [m]) (plT c x xs fr bar st m) else plT c x xs fr bar st m
theorem plT_fold {c x : Int} {xs fr : List Int} {bar : List Nat} {st : BestS} : ∀ m, plT c x xs fr bar st m =
    ((((List.range m).flatMap fun k => if x ≤ gi fr k then (alls c xs (fr.set k (gi fr k - x))).map fun r => (k :: r.1, r.2) else [])).map fun r => (bar ++ r.1, r.2)).foldl better st := by
  intro m
  induction m with
  | zero => rfl
  | succ m ih =>
    rw [plT, ih, List.range_succ, List.flatMap_append, List.map_append, List.foldl_append]
    by_cases h : x ≤ gi fr m
    · rw [if_pos h]
      simp only [List.flatMap_cons, List.flatMap_nil, List.append_nil, if_pos h, List.map_map, plB]
      congr 1
      apply List.map_congr_left
      intro r _
      simp
    · rw [if_neg h]
      simp [if_neg h]
theorem plB_cons {c x : Int} {xs fr : List Int} {bar : List Nat} {st : BestS} : plB c (x :: xs) fr bar st = plB c xs (fr ++ [c - x]) (bar ++ [fr.length]) (plT c x xs fr bar st fr.length) := by
  rw [plT_fold, plB, alls_cons, List.map_append, List.foldl_append, plB]
  congr 1
  simp only [List.map_map]
  apply List.map_congr_left
  intro r _
  simp
theorem better_le (st : BestS) (r) : (better st r).2 ≤ st.2 := by unfold better; split <;> omega
theorem fold_le (L : List (List Nat × Nat)) : ∀ st : BestS, (L.foldl better st).2 ≤ st.2 := by
  induction L with
  | nil => intro st; exact Nat.le_refl _
  | cons a L ih => intro st; rw [List.foldl_cons]; exact Nat.le_trans (ih _) (better_le _ _)
theorem plB_le {c : Int} {xs fr : List Int} {bar : List Nat} {st : BestS} : (plB c xs fr bar st).2 ≤ st.2 := fold_le _ _
theorem plT_le {c x : Int} {xs fr : List Int} {bar : List Nat} {st : BestS} (m : Nat) : (plT c x xs fr bar st m).2 ≤ st.2 := by rw [plT_fold]; exact fold_le _ _

/-- the fold finds the first with the least number -/
theorem fold_first (L : List (List Nat × Nat)) : ∀ st : BestS, (∀ r ∈ L, st.2 ≤ r.2) ∧ L.foldl better st = st ∨
    ∃ m, m < st.2 ∧ (L.foldl better st).2 = m ∧ (L.find? fun r => decide (r.2 ≤ m)) = some (L.foldl better st) ∧ ∀ r ∈ L, m ≤ r.2 := by
  induction L with
  | nil => intro st; exact .inl ⟨fun r hr => absurd hr (by simp), rfl⟩
  | cons a L ih =>
    intro st
    rw [List.foldl_cons]
    by_cases h : a.2 < st.2
    · have e : better st a = a := if_pos h
      rw [e]
      rcases ih a with ⟨h1, h2⟩ | ⟨m, h1, h2, h3, h4⟩
      · exact .inr ⟨a.2, h, by rw [h2], by rw [h2]; simp, fun r hr => by
          rcases List.mem_cons.1 hr with rfl | hr
          · exact Nat.le_refl _
          · exact h1 r hr⟩
      · refine .inr ⟨m, by omega, h2, ?_, fun r hr => ?_⟩
        · rw [List.find?_cons, show decide (a.2 ≤ m) = false by simp; omega]; exact h3
        · rcases List.mem_cons.1 hr with rfl | hr
          · omega
          · exact h4 r hr
    · have e : better st a = st := if_neg h
      rw [e]
      rcases ih st with ⟨h1, h2⟩ | ⟨m, h1, h2, h3, h4⟩
      · exact .inl ⟨fun r hr => by
          rcases List.mem_cons.1 hr with rfl | hr
          · omega
          · exact h1 r hr, h2⟩
      · refine .inr ⟨m, h1, h2, ?_, fun r hr => ?_⟩
        · rw [List.find?_cons, show decide (a.2 ≤ m) = false by simp; omega]; exact h3
        · rcases List.mem_cons.1 hr with rfl | hr
          · omega
          · exact h4 r hr
end Go.Proofs.Ytlgepggmgfnneaa
