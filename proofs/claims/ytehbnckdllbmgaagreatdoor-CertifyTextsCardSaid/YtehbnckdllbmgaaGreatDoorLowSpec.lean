/- The bounds of layer 37 in plain Lean: no sequence is shorter than the bounds of its beginnings. -/
import Derived.Test.YtehbnckdllbmgaaGreatDoorFlowSpec2
import Derived.Test.YtehbnckdllbmgaaGreatDoorRangeI
set_option linter.unusedSimpArgs false
set_option linter.unusedVariables false
namespace Go.Proofs.YtehbnckdllbmgaaGreatDoor

theorem sum_perm {a b : List Int} (h : a.Perm b) : a.sum = b.sum := by
  induction h with
  | nil => rfl
  | cons x _ ih => simp [ih]
  | swap x y l => simp only [List.sum_cons]; omega
  | trans _ _ h1 h2 => exact h1.trans h2

/-- a right sequence of all jobs has every job -/
theorem right_all {n : Nat} {l : List Int} (h : rightB n l = true) (hl : l.length = n) {j : Nat} (hj : j < n) : (j : Int) ∈ l := by
  apply Decidable.byContradiction
  intro hn
  have hd : ((j : Int) :: l).Nodup := List.nodup_cons.2 ⟨hn, rightB_nodup h⟩
  have := nodup_bound n ((j : Int) :: l) hd (fun x hx => by
    rcases List.mem_cons.1 hx with rfl | hx
    · omega
    · obtain ⟨k, hk, rfl⟩ := mem_gi hx
      have := rightB_job h hk; omega)
  simp at this
  omega
theorem rangeI_nodup (n : Nat) : (rangeI n).Nodup := by
  unfold rangeI
  rw [List.nodup_iff_pairwise_ne, List.pairwise_map]
  exact (List.nodup_iff_pairwise_ne.1 List.nodup_range).imp fun h => by omega
theorem mem_rangeI {n : Nat} {x : Int} : x ∈ rangeI n ↔ 0 ≤ x ∧ x < n := by
  unfold rangeI
  simp only [List.mem_map, List.mem_range]
  constructor
  · rintro ⟨k, hk, rfl⟩; omega
  · intro h; exact ⟨x.toNat, by omega, by omega⟩
theorem right_perm {n : Nat} {l : List Int} (h : rightB n l = true) (hl : l.length = n) : (rangeI n).Perm l := by
  rw [List.perm_ext_iff_of_nodup (rangeI_nodup n) (rightB_nodup h)]
  intro x
  rw [mem_rangeI]
  constructor
  · intro hx
    have := right_all h hl (j := x.toNat) (by omega)
    rwa [show ((x.toNat : Nat) : Int) = x by omega] at this
  · intro hx
    obtain ⟨k, hk, rfl⟩ := mem_gi hx
    have := rightB_job h hk; omega
theorem rightB_take {n : Nat} {l : List Int} (h : rightB n l = true) (k : Nat) : rightB n (l.take k) = true := by
  simp only [rightB, decide_eq_true_eq] at h ⊢
  intro i hi
  simp only [List.length_take] at hi
  have := h i (by omega)
  rw [gi_take (by omega), List.take_take, show min i k = i by omega]
  exact this

/-- what is not in the beginning is in the rest -/
theorem filter_rest {l : List Int} (hd : l.Nodup) (k : Nat) : l.filter (fun x => !(l.take k).any fun y => x == y) = l.drop k := by
  have hs : l = l.take k ++ l.drop k := (List.take_append_drop k l).symm
  have hd' : (l.take k ++ l.drop k).Nodup := by rwa [← hs]
  rw [List.nodup_append] at hd'
  have e : l.filter (fun x => !(l.take k).any fun y => x == y) = (l.take k).filter (fun x => !(l.take k).any fun y => x == y) ++ (l.drop k).filter (fun x => !(l.take k).any fun y => x == y) := by
    rw [← List.filter_append, List.take_append_drop]
  rw [e, List.filter_eq_nil_iff.2, List.nil_append, List.filter_eq_self.2]
  · intro x hx
    simp only [Bool.not_eq_true', List.any_eq_false]
    intro y hy
    have := hd'.2.2 y hy x hx
    simpa using fun h => this h.symm
  · intro x hx
    simp
    exact hx

/-- the minutes at a station of the first j jobs that are not in pre -/
theorem bst_sum (p : List (List Int)) (pre : List Int) (s : Nat) (n0 : Int) (j : Nat) : (bst p pre s n0 j).1 = n0 + (((rangeI j).filter (fun x => !pre.any fun y => x == y)).map fun x => gi (ri p x.toNat) s).sum := by
  induction j with
  | zero => simp [bst, rangeI]
  | succ j ih =>
    rw [rangeI_succ, List.filter_append, List.map_append, List.sum_append]
    cases h : pre.any fun y => (j : Int) == y
    · rw [bst_take h]
      simp only [List.filter_cons, h, List.filter_nil]
      simp
      rw [ih]; omega
    · rw [bst_skip h]
      simp only [List.filter_cons, h, List.filter_nil]
      simp
      rw [ih]
/-- the least rest is at most that of each job that is left -/
theorem bst_least {p : List (List Int)} (hg : Good p) {pre : List Int} {s : Nat} {n0 : Int} : ∀ (j : Nat), j ≤ p.length → ∀ i, i < j → (pre.any fun y => (i : Int) == y) = false → 0 ≤ (bst p pre s n0 j).2 ∧ (bst p pre s n0 j).2 ≤ restV (ri p i) s := by
  intro j
  induction j with
  | zero => intro _ i hi; omega
  | succ j ih =>
    intro hj i hi hn
    cases h : pre.any fun y => (j : Int) == y
    · rw [bst_take h]
      have hr := restV_bounds hg (show j < p.length by omega) s
      simp only
      by_cases e : i = j
      · subst e
        split <;> omega
      · have := ih (by omega) i (by omega) hn
        split <;> omega
    · rw [bst_skip h]
      have : i ≠ j := by rintro rfl; rw [h] at hn; cases hn
      exact ih (by omega) i (by omega) hn
theorem bst_none {p : List (List Int)} {pre : List Int} {s : Nat} {n0 : Int} : ∀ (j : Nat), (∀ i, i < j → (pre.any fun y => (i : Int) == y) = true) → (bst p pre s n0 j).2 = -1
  | 0, _ => rfl
  | j + 1, h => by rw [bst_skip (h j (by omega))]; exact bst_none j fun i hi => h i (by omega)

theorem rowT_up {prev : Nat → Int} {row : List Int} (hr : ∀ s, s < row.length → 0 ≤ gi row s) : ∀ s, s < row.length → prev s + gi row s ≤ rowT prev row s := by
  intro s hs
  cases s with
  | zero => simp [rowT]
  | succ s => simp only [rowT]; omega
/-- from a station to the last one -/
theorem rowT_rest {prev : Nat → Int} {row : List Int} (s : Nat) (hs : s < row.length) : rowT prev row s + restV row s ≤ rowT prev row (row.length - 1) := by
  have key : ∀ t, s + t < row.length → rowT prev row s + ((row.drop (s + 1)).take t).sum ≤ rowT prev row (s + t) := by
    intro t
    induction t with
    | zero => intro _; simp
    | succ t ih =>
      intro ht
      have := ih (by omega)
      rw [dropTake_succ (by omega), show s + (t + 1) = (s + t) + 1 by omega]
      simp only [rowT]
      rw [show s + 1 + t = s + t + 1 by omega]
      omega
  have := key (row.length - 1 - s) (by omega)
  rw [dropTake_end (by omega), show s + (row.length - 1 - s) = row.length - 1 by omega] at this
  exact this

theorem jobRow_take {p : List (List Int)} {l : List Int} {k i : Nat} (h : i < k) : jobRow p (l.take k) i = jobRow p l i := by
  unfold jobRow; rw [gi_take h]
theorem tm_take {p : List (List Int)} {l : List Int} {k : Nat} : ∀ i, i < k → tm p (l.take k) i = tm p l i
  | 0, h => by simp only [tm]; rw [jobRow_take h]
  | i + 1, h => by simp only [tm]; rw [jobRow_take h, tm_take i (by omega)]
theorem lastV_take {p : List (List Int)} {l : List Int} {k : Nat} (h : k ≤ l.length) (s : Nat) : lastV p (l.take k) s = prevT p l k s := by
  unfold lastV
  rw [List.length_take, show min k l.length = k by omega]
  cases k with
  | zero => simp [prevT]
  | succ k => rw [if_neg (by omega), show k + 1 - 1 = k by omega, tm_take k (by omega)]; rfl

/-- from one job to a later one at a station -/
theorem prevT_sum {p : List (List Int)} {l : List Int} (hg : Good p) (hl : rightB p.length l = true) {s : Nat} (hs : s < (ri p 0).length) (k : Nat) : ∀ t, k + t ≤ l.length →
    prevT p l k s + (((l.drop k).take t).map fun x => gi (ri p x.toNat) s).sum ≤ prevT p l (k + t) s := by
  intro t
  induction t with
  | zero => intro _; simp
  | succ t ih =>
    intro ht
    have h1 := ih (by omega)
    have hst := jobRow_st hg hl (show k + t < l.length by omega)
    have hj := rightB_job hl (show k + t < l.length by omega)
    have h2 := rowT_up (prev := prevT p l (k + t)) (row := jobRow p l (k + t)) (fun s hs => (hg.num _ hj.2.2 s hs).1) s (by omega)
    rw [take_succ_gi (by simp; omega), List.map_append, List.sum_append, gi_drop, show k + (t + 1) = (k + t) + 1 by omega]
    simp only [List.map_cons, List.map_nil, List.sum_cons, List.sum_nil]
    rw [show prevT p l (k + t + 1) = tm p l (k + t) from rfl, tm_eq]
    unfold jobRow at h2 ⊢
    omega

/-- THE THEOREM: no sequence is shorter than the bounds of its beginnings. -/
theorem bound_le {p : List (List Int)} {l : List Int} (hg : Good p) (hl : rightB p.length l = true) (hn : l.length = p.length) (hp : 0 < p.length) {s : Nat} (hs : s < (ri p 0).length) {k : Nat} (hk : k ≤ l.length) :
    boundV p (l.take k) s ≤ lenV p l := by
  have hlen : lenV p l = tm p l (l.length - 1) ((ri p 0).length - 1) := by
    unfold lenV lastV; rw [if_neg (by omega)]
  have hst := jobRow_st hg hl (show l.length - 1 < l.length by omega)
  have hj := rightB_job hl (show l.length - 1 < l.length by omega)
  have hrest := rowT_rest (prev := prevT p l (l.length - 1)) (row := jobRow p l (l.length - 1)) s (by omega)
  rw [← tm_eq, hst] at hrest
  have hsum := prevT_sum hg hl hs k (l.length - k) (by omega)
  rw [show k + (l.length - k) = (l.length - 1) + 1 by omega, List.take_of_length_le (by simp)] at hsum
  rw [show prevT p l (l.length - 1 + 1) = tm p l (l.length - 1) from rfl] at hsum
  have h1 : (bst p (l.take k) s (lastV p (l.take k) s) p.length).1 = prevT p l k s + ((l.drop k).map fun x => gi (ri p x.toNat) s).sum := by
    rw [bst_sum, lastV_take hk]
    congr 1
    rw [← filter_rest (rightB_nodup hl) k]
    exact sum_perm (((right_perm hl hn).filter _).map _)
  have hrb := restV_bounds hg hj.2.2 s
  have h2 : (bst p (l.take k) s (lastV p (l.take k) s) p.length).2 ≤ restV (jobRow p l (l.length - 1)) s := by
    by_cases e : k = l.length
    · subst e
      rw [List.take_length, bst_none p.length (fun i hi => by
        rw [List.any_eq_true]; exact ⟨i, right_all hl hn hi, by simp⟩)]
      unfold jobRow
      omega
    · have hni : ((l.take k).any fun y => (((gi l (l.length - 1)).toNat : Nat) : Int) == y) = false := by
        rw [show (((gi l (l.length - 1)).toNat : Nat) : Int) = gi l (l.length - 1) by omega]
        rw [List.any_eq_false]
        intro y hy
        have hm : gi l (l.length - 1) ∈ l.drop k := by
          have : gi (l.drop k) (l.length - 1 - k) = gi l (l.length - 1) := by rw [gi_drop, show k + (l.length - 1 - k) = l.length - 1 by omega]
          rw [← this]
          exact gi_mem (by simp; omega)
        have hd := rightB_nodup hl
        rw [← List.take_append_drop k l, List.nodup_append] at hd
        have := hd.2.2 y hy _ hm
        simpa using fun h => this h.symm
      exact (bst_least hg p.length (Nat.le_refl _) _ hj.2.2 hni).2
  rw [hlen]
  show (bst p (l.take k) s (lastV p (l.take k) s) p.length).1 + max (bst p (l.take k) s (lastV p (l.take k) s) p.length).2 0 ≤ _
  unfold jobRow at h2 hrest
  omega
end Go.Proofs.YtehbnckdllbmgaaGreatDoor
