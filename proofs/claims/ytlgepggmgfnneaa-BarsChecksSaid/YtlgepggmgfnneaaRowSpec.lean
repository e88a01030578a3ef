/- Plans as rows: what a list of bars of the pieces makes, and right plans; in plain Lean. -/
import Derived.Test.YtlgepggmgfnneaaPackSpec
import Derived.Test.YtlgepggmgfnneaaGreSpec2
namespace Go.Proofs.Ytlgepggmgfnneaa

/-- the pieces below t in the bar b -/
def rowOf (r : List Nat) (b t : Nat) : List Int := ((List.range t).filter fun i => r.getD i 0 == b).map fun i : Nat => (i : Int)
def rowsN (r : List Nat) (m t : Nat) : List (List Int) := (List.range m).map fun b => rowOf r b t
theorem rowsN_length (r m t) : (rowsN r m t).length = m := by simp [rowsN]
theorem ri_rowsN {r : List Nat} {m t b : Nat} (h : b < m) : ri (rowsN r m t) b = rowOf r b t := by
  rw [ri_lt (by rw [rowsN_length]; exact h)]; simp [rowsN]
theorem rowOf_succ (r b t) : rowOf r b (t + 1) = if r.getD t 0 = b then rowOf r b t ++ [(t : Int)] else rowOf r b t := by
  unfold rowOf
  rw [List.range_succ, List.filter_append, List.map_append]
  by_cases h : r.getD t 0 = b
  · rw [if_pos h]; simp only [List.filter_cons, List.filter_nil]; rw [if_pos (by simp only [beq_iff_eq]; exact h)]; rfl
  · rw [if_neg h]; simp only [List.filter_cons, List.filter_nil]; rw [if_neg (by simp only [beq_iff_eq]; exact h)]; simp
theorem ri_setR {rs : List (List Int)} {k j : Nat} {v : List Int} (h : k < rs.length) : ri (rs.set k v) j = if j = k then v else ri rs j := by
  unfold ri
  rw [List.getD_eq_getElem?_getD, List.getD_eq_getElem?_getD, List.getElem?_set]
  by_cases e : k = j
  · subst e; simp [h]
  · rw [if_neg e, if_neg (fun h => e h.symm)]
theorem rowsN_set {r : List Nat} {m t : Nat} (h : r.getD t 0 < m) : rowsN r m (t + 1) = (rowsN r m t).set (r.getD t 0) (ri (rowsN r m t) (r.getD t 0) ++ [(t : Int)]) := by
  apply ri_ext
  · simp [rowsN_length]
  · intro i hi
    rw [rowsN_length] at hi
    rw [ri_rowsN hi, ri_setR (by rw [rowsN_length]; exact h), ri_rowsN h, ri_rowsN hi, rowOf_succ]
    by_cases e : i = r.getD t 0
    · subst e; simp
    · rw [if_neg (fun h => e h.symm), if_neg e]
theorem rowOf_none {r : List Nat} {b t : Nat} (h : ∀ i, i < t → r.getD i 0 ≠ b) : rowOf r b t = [] := by
  unfold rowOf
  have : (List.range t).filter (fun i => r.getD i 0 == b) = [] := by
    rw [List.filter_eq_nil_iff]
    intro i hi
    rw [List.mem_range] at hi
    simp only [beq_iff_eq]; exact h i hi
  rw [this]; rfl
theorem rowsN_new {r : List Nat} {m t : Nat} (h : r.getD t 0 = m) (h2 : ∀ i, i < t → r.getD i 0 < m) : rowsN r (m + 1) (t + 1) = rowsN r m t ++ [[(t : Int)]] := by
  apply ri_ext
  · simp [rowsN_length]
  · intro i hi
    rw [rowsN_length] at hi
    rw [ri_rowsN hi, rowOf_succ]
    by_cases e : i = m
    · subst e
      have := ri_append_one (xs := rowsN r (r.getD t 0) t) (y := [(t : Int)])
      rw [rowsN_length] at this
      rw [h] at this
      rw [if_pos h, this, rowOf_none (fun j hj => by have := h2 j hj; omega)]; rfl
    · rw [if_neg (by omega), ri_append_left (by rw [rowsN_length]; omega), ri_rowsN (by omega)]
theorem rowOf_congr {r r' : List Nat} {b t : Nat} (h : ∀ i, i < t → r.getD i 0 = r'.getD i 0) : rowOf r b t = rowOf r' b t := by
  unfold rowOf
  congr 1
  apply List.filter_congr
  intro i hi
  rw [List.mem_range] at hi
  rw [h i hi]
theorem rowsN_congr {r r' : List Nat} {m t : Nat} (h : ∀ i, i < t → r.getD i 0 = r'.getD i 0) : rowsN r m t = rowsN r' m t := by
  unfold rowsN
  apply List.map_congr_left
  intro b _
  exact rowOf_congr h
theorem rowOf_length (r b t) : (rowOf r b t).length ≤ t := by
  unfold rowOf
  rw [List.length_map]
  have := List.length_filter_le (fun i => r.getD i 0 == b) (List.range t)
  simpa using this
/-- the rows of a list of bars -/
def rowsB (bar : List Nat) (m : Nat) : List (List Int) := rowsN bar m bar.length
theorem rowsB_length (bar m) : (rowsB bar m).length = m := rowsN_length _ _ _
theorem getD_app {bar : List Nat} {k i : Nat} (h : i < bar.length) : (bar ++ [k]).getD i 0 = bar.getD i 0 := by simp [List.getElem?_append_left h]
theorem getD_one {bar : List Nat} {k : Nat} : (bar ++ [k]).getD bar.length 0 = k := by simp
theorem rowsB_set {bar : List Nat} {m k : Nat} (h : k < m) : rowsB (bar ++ [k]) m = (rowsB bar m).set k (ri (rowsB bar m) k ++ [(bar.length : Int)]) := by
  have e : (bar ++ [k]).length = bar.length + 1 := by simp
  unfold rowsB
  rw [e, rowsN_set (by rw [getD_one]; exact h), getD_one, rowsN_congr (r := bar ++ [k]) (r' := bar) (fun i hi => getD_app hi)]
theorem rowsB_new {bar : List Nat} {m : Nat} (h : ∀ j ∈ bar, j < m) : rowsB (bar ++ [m]) (m + 1) = rowsB bar m ++ [[(bar.length : Int)]] := by
  have e : (bar ++ [m]).length = bar.length + 1 := by simp
  unfold rowsB
  rw [e, rowsN_new getD_one (fun i hi => by rw [getD_app hi]; exact h _ (by rw [List.getD_eq_getElem?_getD, List.getElem?_eq_getElem hi]; exact List.getElem_mem hi)), rowsN_congr (r := bar ++ [m]) (r' := bar) (fun i hi => getD_app hi)]
theorem rowsB_row {bar : List Nat} {m b : Nat} (h : b < m) : (ri (rowsB bar m) b).length ≤ bar.length := by
  unfold rowsB; rw [ri_rowsN h]; exact rowOf_length _ _ _

/-! right plans -/
def usedOf (l : List Int) (k : Int) (row : List Int) : Int := (row.map fun x => glI l x + k).sum - k
structure RightP (plan : List (List Int)) (l : List Int) (s k : Int) : Prop where
  rows : ∀ row ∈ plan, row ≠ [] ∧ usedOf l k row ≤ s
  rng : ∀ x ∈ plan.flatten, 0 ≤ x ∧ x < l.length
  nd : plan.flatten.Nodup
  len : plan.flatten.length = l.length

theorem nodup_boundI {l : List Int} {m : Nat} (h : l.Nodup) (hb : ∀ x ∈ l, 0 ≤ x ∧ x < m) : l.length ≤ m := by
  have := List.Nodup.length_le_of_subset h (l₂ := (List.range m).map fun i : Nat => (i : Int)) (fun x hx => by
    rw [List.mem_map]; have := hb x hx; exact ⟨x.toNat, List.mem_range.2 (by omega), by omega⟩)
  simpa using this
theorem nodup_all {l : List Int} {m : Nat} (h : l.Nodup) (hb : ∀ x ∈ l, 0 ≤ x ∧ x < m) (hl : l.length = m) {i : Nat} (hi : i < m) : (i : Int) ∈ l := by
  refine Classical.byContradiction fun hn => ?_
  have := nodup_boundI (l := (i : Int) :: l) (m := m) (List.nodup_cons.2 ⟨hn, h⟩) (fun x hx => by
    rcases List.mem_cons.1 hx with rfl | hx
    · omega
    · exact hb x hx)
  simp at this; omega
theorem range_nodup (m : Nat) : ((List.range m).map fun i : Nat => (i : Int)).Nodup := by
  rw [List.nodup_iff_pairwise_ne, List.pairwise_iff_getElem]
  intro i j hi hj hij
  simp; omega
theorem rowOf_nodup (r b t) : (rowOf r b t).Nodup := by
  have : (rowOf r b t).Sublist ((List.range t).map fun i : Nat => (i : Int)) := (List.filter_sublist).map _
  exact this.nodup (range_nodup t)
theorem mem_rowOf {r : List Nat} {b t : Nat} {x : Int} : x ∈ rowOf r b t ↔ ∃ i : Nat, i < t ∧ r.getD i 0 = b ∧ x = i := by
  unfold rowOf
  simp only [List.mem_map, List.mem_filter, List.mem_range, beq_iff_eq]
  constructor
  · rintro ⟨i, ⟨h1, h2⟩, rfl⟩; exact ⟨i, h1, h2, rfl⟩
  · rintro ⟨i, h1, h2, rfl⟩; exact ⟨i, ⟨h1, h2⟩, rfl⟩

theorem load_row {xs : List Int} : ∀ {ls : List Nat} {b : Nat}, ls.length = xs.length → load xs ls b = (((List.range xs.length).filter fun i => ls.getD i 0 == b).map fun i => gi xs i).sum := by
  induction xs with
  | nil => intro ls b _; rw [load_nil]; rfl
  | cons x xs ih =>
    intro ls b h
    cases ls with
    | nil => simp at h
    | cons k ks =>
      rw [load_cons, ih (by simpa using h), List.length_cons, List.range_succ_eq_map, List.filter_cons]
      have e : ((List.map Nat.succ (List.range xs.length)).filter fun i => (k :: ks).getD i 0 == b) = ((List.range xs.length).filter fun i => ks.getD i 0 == b).map Nat.succ := by
        rw [List.filter_map]; rfl
      rw [e]
      by_cases hk : k = b
      · rw [if_pos hk, if_pos (by simp [hk]), List.map_cons, List.sum_cons, List.map_map]
        rfl
      · rw [if_neg hk, if_neg (by simp [hk]), List.map_map, Int.zero_add]
        rfl
theorem sum_permB {a b : List Int} (h : a.Perm b) : a.sum = b.sum := by
  induction h with
  | nil => rfl
  | cons x _ ih => simp [ih]
  | swap x y l => simp; omega
  | trans _ _ h1 h2 => exact h1.trans h2
theorem load_rowOf {l : List Int} {k : Int} {ls : List Nat} {b : Nat} (h : ls.length = l.length) : load (ndL l k) ls b = ((rowOf ls b l.length).map fun x => glI l x + k).sum := by
  rw [load_row (by rw [ndL_length]; exact h), ndL_length]
  unfold rowOf
  rw [List.map_map]
  congr 1
  apply List.map_congr_left
  intro i hi
  rw [List.mem_filter, List.mem_range] at hi
  rw [gi_ndL hi.1]
  simp [glI]
theorem perm_of_mem {a b : List Int} (ha : a.Nodup) (hb : b.Nodup) (h : ∀ x, x ∈ a ↔ x ∈ b) : a.Perm b := (List.perm_ext_iff_of_nodup ha hb).2 h

/-- a right plan shows that its number of bars suffices -/
theorem right_packs {plan : List (List Int)} {l : List Int} {s k : Int} (hc : 0 ≤ s + k) (h : RightP plan l s k) : Packs (s + k) (ndL l k) plan.length := by
  have hfl := List.pairwise_flatten.1 (List.nodup_iff_pairwise_ne.1 h.nd)
  let f : Nat → Nat := fun i => plan.findIdx fun row => decide ((i : Int) ∈ row)
  have hf : ∀ i, i < l.length → f i < plan.length ∧ (i : Int) ∈ ri plan (f i) := by
    intro i hi
    have hm := nodup_all h.nd h.rng h.len hi
    rw [List.mem_flatten] at hm
    obtain ⟨row, hr, hx⟩ := hm
    have h1 : f i < plan.length := List.findIdx_lt_length_of_exists ⟨row, hr, by simpa using hx⟩
    refine ⟨h1, ?_⟩
    have := List.findIdx_getElem (w := h1)
    rw [ri_lt h1]
    simpa using this
  have hu : ∀ i b, i < l.length → b < plan.length → (i : Int) ∈ ri plan b → f i = b := by
    intro i b hi hb hm
    obtain ⟨h1, h2⟩ := hf i hi
    refine Classical.byContradiction fun hne => ?_
    rw [ri_lt h1] at h2
    rw [ri_lt hb] at hm
    have hp := List.pairwise_iff_getElem.1 hfl.2
    rcases Nat.lt_or_gt_of_ne hne with g | g
    · exact hp _ _ h1 hb g _ h2 _ hm rfl
    · exact hp _ _ hb h1 g _ hm _ h2 rfl
  refine ⟨(List.range l.length).map f, by simp [ndL], fun q hq => ?_, fun b => ?_⟩
  · rw [List.mem_map] at hq
    obtain ⟨i, hi, rfl⟩ := hq
    exact (hf i (List.mem_range.1 hi)).1
  · have hget : ∀ i, i < l.length → ((List.range l.length).map f).getD i 0 = f i := fun i hi => by simp [hi]
    by_cases hb : b < plan.length
    · rw [load_rowOf (by simp)]
      have hp : (rowOf ((List.range l.length).map f) b l.length).Perm (ri plan b) := by
        refine perm_of_mem (rowOf_nodup _ _ _) ?_ fun x => ?_
        · rw [ri_lt hb]; exact List.nodup_iff_pairwise_ne.2 (hfl.1 _ (List.getElem_mem hb))
        · rw [mem_rowOf]
          constructor
          · rintro ⟨i, hi, h1, rfl⟩
            rw [hget i hi] at h1
            rw [← h1]; exact (hf i hi).2
          · intro hx
            have hr := h.rng x (List.mem_flatten.2 ⟨_, ri_mem hb, hx⟩)
            refine ⟨x.toNat, by omega, ?_, by omega⟩
            rw [hget _ (by omega)]
            exact hu _ _ (by omega) hb (by rw [show ((x.toNat : Nat) : Int) = x by omega]; exact hx)
      rw [sum_permB (hp.map _)]
      have := (h.rows _ (ri_mem hb)).2
      unfold usedOf at this
      omega
    · rw [load_out (fun hm => by
        rw [List.mem_map] at hm
        obtain ⟨i, hi, e⟩ := hm
        have := (hf i (List.mem_range.1 hi)).1
        omega)]
      exact hc
theorem right_least {plan : List (List Int)} {l : List Int} {s k : Int} (hg : GoodB l s k) (h : RightP plan l s k) : leastV l s k ≤ plan.length :=
  bestS_least (good_need hg) (right_packs (good_need hg).cap h)

/-- the rows of a packing are a right plan -/
theorem rows_right {l : List Int} {s k : Int} {r : List Nat} {m : Nat} (hr : r.length = l.length) (h1 : ∀ q ∈ r, q < m) (h2 : ∀ b, load (ndL l k) r b ≤ s + k) (h3 : ∀ b, b < m → b ∈ r) : RightP (rowsN r m l.length) l s k := by
  have hmem : ∀ x, x ∈ (rowsN r m l.length).flatten ↔ 0 ≤ x ∧ x < l.length := by
    intro x
    rw [List.mem_flatten]
    constructor
    · rintro ⟨row, hrow, hx⟩
      simp only [rowsN, List.mem_map, List.mem_range] at hrow
      obtain ⟨b, hb, rfl⟩ := hrow
      obtain ⟨i, hi, _, rfl⟩ := mem_rowOf.1 hx
      omega
    · intro hx
      have hi : x.toNat < r.length := by omega
      have hq := h1 (r[x.toNat]) (List.getElem_mem hi)
      refine ⟨rowOf r (r[x.toNat]) l.length, by simp only [rowsN, List.mem_map, List.mem_range]; exact ⟨_, hq, rfl⟩, mem_rowOf.2 ⟨x.toNat, by omega, by simp [hi], by omega⟩⟩
  have hnd : (rowsN r m l.length).flatten.Nodup := by
    rw [List.nodup_iff_pairwise_ne, List.pairwise_flatten]
    refine ⟨fun row hrow => ?_, ?_⟩
    · simp only [rowsN, List.mem_map, List.mem_range] at hrow
      obtain ⟨b, hb, rfl⟩ := hrow
      exact List.nodup_iff_pairwise_ne.1 (rowOf_nodup _ _ _)
    · rw [List.pairwise_iff_getElem]
      intro i j hi hj hij x hx y hy e
      subst e
      rw [rowsN_length] at hi hj
      simp only [rowsN, List.getElem_map, List.getElem_range] at hx hy
      obtain ⟨i1, _, e1, rfl⟩ := mem_rowOf.1 hx
      obtain ⟨i2, _, e2, e3⟩ := mem_rowOf.1 hy
      have : i1 = i2 := by omega
      subst this
      omega
  have hperm : (rowsN r m l.length).flatten.Perm ((List.range l.length).map fun i : Nat => (i : Int)) := by
    refine perm_of_mem hnd (range_nodup _) fun x => ?_
    rw [hmem]
    simp only [List.mem_map, List.mem_range]
    constructor
    · intro h; exact ⟨x.toNat, by omega, by omega⟩
    · rintro ⟨i, hi, rfl⟩; omega
  refine ⟨fun row hrow => ?_, fun x hx => (hmem x).1 hx, hnd, by rw [hperm.length_eq]; simp⟩
  simp only [rowsN, List.mem_map, List.mem_range] at hrow
  obtain ⟨b, hb, rfl⟩ := hrow
  refine ⟨fun e => ?_, ?_⟩
  · obtain ⟨i, hi, he⟩ := List.mem_iff_getElem.1 (h3 b hb)
    have : (i : Int) ∈ rowOf r b l.length := mem_rowOf.2 ⟨i, by omega, by simp [hi, he], rfl⟩
    rw [e] at this; cases this
  · have := h2 b
    rw [load_rowOf hr] at this
    unfold usedOf
    omega

/-- the least plan -/
def bestR (l : List Int) (s k : Int) : List Nat := (bestS (s + k) (ndL l k)).1
def bestP (l : List Int) (s k : Int) : List (List Int) := rowsN (bestR l s k) (leastV l s k) l.length
theorem bestP_length (l s k) : (bestP l s k).length = leastV l s k := rowsN_length _ _ _
theorem bestR_length (l s k) : (bestR l s k).length = l.length := by
  have := (alls_ge (bestS_mem (s + k) (ndL l k))).2.2
  rw [ndL_length] at this; exact this
theorem best_right {l : List Int} {s k : Int} (h : GoodB l s k) : RightP (bestP l s k) l s k := by
  have hs := alls_sound (bestS_mem (s + k) (ndL l k)) (fun b hb => by simp at hb) (fun x hx => ((good_need h).nn x hx).2) (good_need h).cap
  exact rows_right (bestR_length l s k) hs.1 (fun b => hs.2.2.1 b (Nat.zero_le _)) (fun b hb => hs.2.2.2 b (Nat.zero_le _) hb)
def bestE (l : List Int) (s k : Int) : Int := if 12 < l.length then 13 else rightE l s k
def bestL (l : List Int) (s k : Int) : List (List Int) := if bestE l s k = 0 then bestP l s k else []
theorem bestE_zero {l : List Int} {s k : Int} : bestE l s k = 0 ↔ l.length ≤ 12 ∧ GoodB l s k := by
  unfold bestE
  rw [← rightE_zero]
  by_cases h : 12 < l.length
  · rw [if_pos h]; omega
  · rw [if_neg h]; omega
end Go.Proofs.Ytlgepggmgfnneaa
