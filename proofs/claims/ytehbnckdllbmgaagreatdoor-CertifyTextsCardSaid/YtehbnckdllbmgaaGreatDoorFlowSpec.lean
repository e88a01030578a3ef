/- What the functions of layer 37 (flow) compute, in plain Lean; no program in sight. -/
import Derived.Test.YtehbnckdllbmgaaGreatDoorBase
set_option linter.unusedSimpArgs false
set_option linter.unusedVariables false
namespace Go.Proofs.YtehbnckdllbmgaaGreatDoor

theorem any_ri_true {p : List (List Int)} {f : List Int → Bool} {k : Nat} (hk : k < p.length) (h : f (ri p k) = true) : p.any f = true :=
  List.any_eq_true.2 ⟨_, ri_mem hk, h⟩
theorem any_ri_false {p : List (List Int)} {f : List Int → Bool} (h : ∀ j, j < p.length → f (ri p j) = false) : p.any f = false := by
  rw [List.any_eq_false]; intro x hx; obtain ⟨j, hj, rfl⟩ := mem_ri hx; simp [h j hj]
theorem any_gi_true {p : List Int} {f : Int → Bool} {k : Nat} (hk : k < p.length) (h : f (gi p k) = true) : p.any f = true :=
  List.any_eq_true.2 ⟨_, gi_mem hk, h⟩
theorem any_gi_false {p : List Int} {f : Int → Bool} (h : ∀ j, j < p.length → f (gi p j) = false) : p.any f = false := by
  rw [List.any_eq_false]; intro x hx; obtain ⟨j, hj, rfl⟩ := mem_gi hx; simp [h j hj]

def long8 (r : List Int) : Bool := decide (8 < (r.length : Int))
def badRow (n0 : Nat) (r : List Int) : Bool := r.length == 0 || r.length != n0
theorem badRow_zero {n : Nat} {r : List Int} (h : r.length = 0) : badRow n r = true := by simp [badRow, h]
theorem badRow_ne {n : Nat} {r : List Int} (h : r.length ≠ n) : badRow n r = true := by simp [badRow, h]
theorem badRow_ok {n : Nat} {r : List Int} (h : r.length ≠ 0) (h2 : r.length = n) : badRow n r = false := by simp only [badRow, Bool.or_eq_false_iff, beq_eq_false_iff_ne, bne_eq_false_iff_eq]; exact ⟨h, h2⟩
def badNum (n : Int) : Bool := decide (n < 0) || decide (100000 < n)
/-- the error of a shop -/
def checkE (p : List (List Int)) : Int :=
  if 32 < p.length then 4 else if p.any long8 then 4 else
  if p.any (badRow (ri p 0).length) then 17 else if p.any (fun r => r.any badNum) then 9 else 0

theorem checkE_long {p} (h : 32 < p.length) : checkE p = 4 := by simp [checkE, h]
theorem checkE_long8 {p} (h : p.any long8 = true) : checkE p = 4 := by unfold checkE; split <;> simp_all
theorem checkE_shape {p} (h0 : ¬ 32 < p.length) (h1 : p.any long8 = false) (h2 : p.any (badRow (ri p 0).length) = true) : checkE p = 17 := by
  unfold checkE; rw [if_neg h0, if_neg (by simp [h1]), if_pos h2]
theorem checkE_range {p} (h0 : ¬ 32 < p.length) (h1 : p.any long8 = false) (h2 : p.any (badRow (ri p 0).length) = false) (h3 : p.any (fun r => r.any badNum) = true) : checkE p = 9 := by
  unfold checkE; rw [if_neg h0, if_neg (by simp [h1]), if_neg (by simp [h2]), if_pos h3]
theorem checkE_ok {p} (h0 : ¬ 32 < p.length) (h1 : p.any long8 = false) (h2 : p.any (badRow (ri p 0).length) = false) (h3 : p.any (fun r => r.any badNum) = false) : checkE p = 0 := by
  unfold checkE; rw [if_neg h0, if_neg (by simp [h1]), if_neg (by simp [h2]), if_neg (by rw [h3]; simp)]

/-- a shop without error -/
structure Good (p : List (List Int)) : Prop where
  len : p.length ≤ 32
  st : ∀ j, j < p.length → 1 ≤ (ri p j).length ∧ (ri p j).length ≤ 8 ∧ (ri p j).length = (ri p 0).length
  num : ∀ j, j < p.length → ∀ s, s < (ri p j).length → 0 ≤ gi (ri p j) s ∧ gi (ri p j) s ≤ 100000

theorem checkE_zero {p} (h : checkE p = 0) : Good p := by
  unfold checkE at h
  by_cases h0 : 32 < p.length
  · simp [h0] at h
  rw [if_neg h0] at h
  by_cases h1 : p.any long8 = true
  · simp [h1] at h
  rw [if_neg h1] at h
  by_cases h2 : p.any (badRow (ri p 0).length) = true
  · simp [h2] at h
  rw [if_neg h2] at h
  by_cases h3 : p.any (fun r => r.any badNum) = true
  · rw [if_pos h3] at h; simp at h
  rw [Bool.not_eq_true, List.any_eq_false] at h1 h2 h3
  refine ⟨by omega, fun j hj => ?_, fun j hj s hs => ?_⟩
  · have a := h1 _ (ri_mem hj); have b := h2 _ (ri_mem hj)
    simp [long8] at a; simp [badRow] at b
    have : (ri p j).length ≠ 0 := by intro e; exact b.1 (List.length_eq_zero_iff.1 e)
    omega
  · have c := h3 _ (ri_mem hj)
    rw [Bool.not_eq_true, List.any_eq_false] at c
    have := c _ (gi_mem hs)
    simp [badNum] at this
    omega

/-- a list of different jobs -/
def rightB (n : Nat) (l : List Int) : Bool := decide (∀ i, i < l.length → 0 ≤ gi l i ∧ gi l i < n ∧ (l.take i).any (fun y => gi l i == y) = false)
def badJob (n : Nat) (l : List Int) (i : Nat) : Bool := decide (gi l i < 0) || decide ((n : Int) ≤ gi l i) || (l.take i).any (fun y => gi l i == y)
theorem rightB_bad {n : Nat} {l : List Int} {k : Nat} (hk : k < l.length) (h : badJob n l k = true) : rightB n l = false := by
  simp only [rightB, decide_eq_false_iff_not]
  intro g
  obtain ⟨a, b, c⟩ := g k hk
  simp only [badJob, Bool.or_eq_true, decide_eq_true_eq] at h
  rcases h with (h | h) | h
  · omega
  · omega
  · rw [c] at h; cases h
theorem rightB_good {n : Nat} {l : List Int} (h : ∀ k, k < l.length → badJob n l k = false) : rightB n l = true := by
  simp only [rightB, decide_eq_true_eq]
  intro i hi
  have := h i hi
  simp only [badJob, Bool.or_eq_false_iff, decide_eq_false_iff_not] at this
  exact ⟨by omega, by omega, this.2⟩
theorem rightB_job {n : Nat} {l : List Int} (h : rightB n l = true) {k : Nat} (hk : k < l.length) : 0 ≤ gi l k ∧ gi l k < n ∧ (gi l k).toNat < n := by
  simp only [rightB, decide_eq_true_eq] at h
  obtain ⟨a, b, _⟩ := h k hk
  omega

/-- the times of a row of minutes behind the times 'prev' -/
def rowT (prev : Nat → Int) (row : List Int) : Nat → Int
  | 0 => prev 0 + gi row 0
  | s + 1 => max (prev (s + 1)) (rowT prev row s) + gi row (s + 1)
/-- the row of minutes of the k-th job of a list -/
def jobRow (p : List (List Int)) (l : List Int) (k : Nat) : List Int := ri p (gi l k).toNat
/-- when the k-th job of a list leaves station s -/
def tm (p : List (List Int)) (l : List Int) : Nat → Nat → Int
  | 0 => rowT (fun _ => 0) (jobRow p l 0)
  | k + 1 => rowT (tm p l k) (jobRow p l (k + 1))
def prevT (p : List (List Int)) (l : List Int) : Nat → Nat → Int
  | 0 => fun _ => 0
  | k + 1 => tm p l k
theorem tm_eq (p l k) : tm p l k = rowT (prevT p l k) (jobRow p l k) := by cases k <;> rfl
def rowL (p : List (List Int)) (l : List Int) (k : Nat) : List Int := (List.range (jobRow p l k).length).map (tm p l k)
/-- the times of a list of jobs -/
def timesL (p : List (List Int)) (l : List Int) : List (List Int) := (List.range l.length).map (rowL p l)

theorem timesL_length (p l) : (timesL p l).length = l.length := by simp [timesL]
theorem timesL_ri {p : List (List Int)} {l : List Int} {k : Nat} (hk : k < l.length) : ri (timesL p l) k = rowL p l k := by
  rw [ri_lt (by simpa [timesL] using hk)]; simp [timesL]
theorem rowL_length (p l k) : (rowL p l k).length = (jobRow p l k).length := by simp [rowL]
theorem rowL_gi {p : List (List Int)} {l : List Int} {k s : Nat} (hs : s < (jobRow p l k).length) : gi (rowL p l k) s = tm p l k s := by
  rw [gi_lt (by simpa [rowL] using hs)]; simp [rowL]

theorem rowT_bounds {prev : Nat → Int} {row : List Int} {B : Int} (hB : 0 ≤ B) (hp : ∀ s, s < row.length → 0 ≤ prev s ∧ prev s ≤ B)
    (hr : ∀ s, s < row.length → 0 ≤ gi row s ∧ gi row s ≤ 100000) : ∀ s, s < row.length → 0 ≤ rowT prev row s ∧ rowT prev row s ≤ B + (s + 1) * 100000 := by
  intro s
  induction s with
  | zero => intro hs; have := hp 0 hs; have := hr 0 hs; simp only [rowT]; omega
  | succ s ih => intro hs; have := ih (by omega); have := hp _ hs; have := hr _ hs; simp only [rowT]; omega

theorem tm_bounds {p : List (List Int)} {l : List Int} (hg : Good p) (hl : rightB p.length l = true) : ∀ k, k < l.length → ∀ s, s < (jobRow p l k).length → 0 ≤ tm p l k s ∧ tm p l k s ≤ (k + 1) * 800000 := by
  intro k
  induction k with
  | zero =>
    intro hk s hs
    have hj := rightB_job hl hk
    have h8 := hg.st _ hj.2.2
    have := rowT_bounds (prev := fun _ => 0) (row := jobRow p l 0) (B := 0) (by omega) (fun _ _ => by simp) (fun s hs => hg.num _ hj.2.2 s hs) s hs
    unfold jobRow at hs this
    simp only [tm, jobRow]
    omega
  | succ k ih =>
    intro hk s hs
    have hj := rightB_job hl hk
    have hj' := rightB_job hl (show k < l.length by omega)
    have h8 := hg.st _ hj.2.2
    have h8' := hg.st _ hj'.2.2
    have := rowT_bounds (prev := tm p l k) (row := jobRow p l (k+1)) (B := (k + 1) * 800000) (by omega) (fun s hs => by unfold jobRow at hs; exact ih (by omega) s (by unfold jobRow; omega)) (fun s hs => hg.num _ hj.2.2 s hs) s hs
    unfold jobRow at hs this
    simp only [tm, jobRow]
    omega

theorem nodup_bound : ∀ (n : Nat) (l : List Int), l.Nodup → (∀ x ∈ l, 0 ≤ x ∧ x < n) → l.length ≤ n
  | 0, l, _, h => by
    cases l with
    | nil => simp
    | cons x l => have := h x (by simp); omega
  | n + 1, l, hd, h => by
    have h1 := nodup_bound n (l.erase n) (hd.erase _) (fun x hx => by
      rw [hd.mem_erase_iff] at hx
      have := h x hx.2
      have := hx.1
      omega)
    have := List.length_erase_le (a := (n : Int)) (l := l)
    have h2 : l.length ≤ (l.erase (n : Int)).length + 1 := by
      by_cases hm : (n : Int) ∈ l
      · have := List.length_erase_of_mem hm; omega
      · rw [List.erase_of_not_mem hm]; omega
    omega
theorem rightB_nodup {n : Nat} {l : List Int} (h : rightB n l = true) : l.Nodup := by
  simp only [rightB, decide_eq_true_eq] at h
  rw [List.nodup_iff_pairwise_ne, List.pairwise_iff_getElem]
  intro i j hi hj hij e
  obtain ⟨_, _, c⟩ := h j hj
  have : (l.take j).any (fun y => gi l j == y) = true := by
    rw [List.any_eq_true]
    refine ⟨l[i], ?_, ?_⟩
    · rw [List.mem_take_iff_getElem]; exact ⟨i, by omega, rfl⟩
    · rw [gi_lt hj]; simpa using e.symm
  rw [c] at this; cases this
theorem rightB_len {n : Nat} {l : List Int} (h : rightB n l = true) : l.length ≤ n :=
  nodup_bound n l (rightB_nodup h) fun x hx => by
    obtain ⟨k, hk, rfl⟩ := mem_gi hx
    have := rightB_job h hk; omega

/-- when the last job of a list leaves station s -/
def lastOf (t : List (List Int)) (s : Nat) : Int := if t.length = 0 then 0 else gi (ri t (t.length - 1)) s
def lastV (p : List (List Int)) (l : List Int) (s : Nat) : Int := if l.length = 0 then 0 else tm p l (l.length - 1) s
def restV (row : List Int) (s : Nat) : Int := (row.drop (s + 1)).sum
/-- the minutes at a station of the jobs that are left, and the least rest, after j jobs -/
def bst (p : List (List Int)) (pre : List Int) (s : Nat) (n0 : Int) : Nat → Int × Int
  | 0 => (n0, -1)
  | j + 1 =>
    let b := bst p pre s n0 j
    if pre.any (fun y => (j : Int) == y) then b else
    (b.1 + gi (ri p j) s, if b.2 < 0 ∨ restV (ri p j) s < b.2 then restV (ri p j) s else b.2)
/-- the lower bound of a prefix at a station -/
def boundV (p : List (List Int)) (pre : List Int) (s : Nat) : Int :=
  let b := bst p pre s (lastV p pre s) p.length
  b.1 + max b.2 0

theorem lastOf_times {p : List (List Int)} {l : List Int} {s : Nat} (hs : ∀ k, k < l.length → s < (jobRow p l k).length) : lastOf (timesL p l) s = lastV p l s := by
  unfold lastOf lastV
  rw [timesL_length]
  by_cases h : l.length = 0
  · simp [h]
  · rw [if_neg h, if_neg h, timesL_ri (by omega), rowL_gi (hs _ (by omega))]

theorem jobRow_st {p : List (List Int)} {l : List Int} (hg : Good p) (hl : rightB p.length l = true) {k : Nat} (hk : k < l.length) : (jobRow p l k).length = (ri p 0).length := by
  have hj := rightB_job hl hk
  exact (hg.st _ hj.2.2).2.2

theorem sum_bounds : ∀ (l : List Int) (B : Int), 0 ≤ B → (∀ x ∈ l, 0 ≤ x ∧ x ≤ B) → 0 ≤ l.sum ∧ l.sum ≤ l.length * B
  | [], _, _, _ => by simp
  | x :: l, B, hB, h => by
    have h1 := sum_bounds l B hB (fun y hy => h y (by simp [hy]))
    have h2 := h x (by simp)
    simp only [List.sum_cons, List.length_cons]
    have e : ((l.length + 1 : Nat) : Int) * B = l.length * B + B := by rw [Int.natCast_add, Int.add_mul]; simp
    omega
theorem restV_bounds {p : List (List Int)} (hg : Good p) {j : Nat} (hj : j < p.length) (s : Nat) : 0 ≤ restV (ri p j) s ∧ restV (ri p j) s ≤ 800000 := by
  have h8 := hg.st _ hj
  have := sum_bounds ((ri p j).drop (s + 1)) 100000 (by omega) (fun x hx => by
    obtain ⟨i, hi, rfl⟩ := mem_gi (List.mem_of_mem_drop hx)
    exact hg.num _ hj _ hi)
  have hl : ((ri p j).drop (s + 1)).length ≤ 8 := by simp; omega
  unfold restV
  have h2 : ((((ri p j).drop (s + 1)).length : Nat) : Int) * 100000 ≤ 800000 := by omega
  omega
theorem dropTake_bounds {p : List (List Int)} (hg : Good p) {j : Nat} (hj : j < p.length) (s t : Nat) : 0 ≤ (((ri p j).drop (s + 1)).take t).sum ∧ (((ri p j).drop (s + 1)).take t).sum ≤ 800000 := by
  have h8 := hg.st _ hj
  have := sum_bounds (((ri p j).drop (s + 1)).take t) 100000 (by omega) (fun x hx => by
    obtain ⟨i, hi, rfl⟩ := mem_gi (List.mem_of_mem_drop (List.mem_of_mem_take hx))
    exact hg.num _ hj _ hi)
  have hl : (((ri p j).drop (s + 1)).take t).length ≤ 8 := by simp; omega
  omega
theorem dropTake_succ {row : List Int} {s t : Nat} (h : t < row.length - (s + 1)) : ((row.drop (s + 1)).take (t + 1)).sum = ((row.drop (s + 1)).take t).sum + gi row (s + 1 + t) := by
  rw [take_succ_gi (by simp; omega), List.sum_append, gi_drop]; simp
theorem dropTake_end {row : List Int} {s t : Nat} (h : ¬ t < row.length - (s + 1)) : ((row.drop (s + 1)).take t).sum = restV row s := by
  rw [List.take_of_length_le (by simp; omega)]; rfl
theorem lastV_bounds {p : List (List Int)} {l : List Int} (hg : Good p) (hl : rightB p.length l = true) {s : Nat} (hs : s < (ri p 0).length) : 0 ≤ lastV p l s ∧ lastV p l s ≤ 25600000 := by
  unfold lastV
  split
  · omega
  · have hn := rightB_len hl
    have h32 := hg.len
    have := tm_bounds hg hl (l.length - 1) (by omega) s (by rw [jobRow_st hg hl (by omega)]; exact hs)
    omega
theorem bst_bounds {p : List (List Int)} {pre : List Int} (hg : Good p) {s : Nat} {n0 : Int} (hn : 0 ≤ n0 ∧ n0 ≤ 25600000) (hs : s < (ri p 0).length) : ∀ j, j ≤ p.length →
    0 ≤ (bst p pre s n0 j).1 ∧ (bst p pre s n0 j).1 ≤ n0 + j * 100000 ∧ -1 ≤ (bst p pre s n0 j).2 ∧ (bst p pre s n0 j).2 ≤ 800000 := by
  intro j
  induction j with
  | zero => intro _; simp [bst]; omega
  | succ j ih =>
    intro hj
    have := ih (by omega)
    have h8 := hg.st j (by omega)
    have hx := hg.num j (by omega) s (by omega)
    have hr := restV_bounds hg (show j < p.length by omega) s
    simp only [bst]
    split
    · omega
    · refine ⟨by omega, by simp only []; omega, ?_, ?_⟩ <;> (simp only []; split <;> omega)
theorem bst_skip {p : List (List Int)} {pre : List Int} {s : Nat} {n0 : Int} {j : Nat} (h : pre.any (fun y => (j : Int) == y) = true) : bst p pre s n0 (j + 1) = bst p pre s n0 j := by
  simp only [bst, h, if_true]
theorem bst_take {p : List (List Int)} {pre : List Int} {s : Nat} {n0 : Int} {j : Nat} (h : pre.any (fun y => (j : Int) == y) = false) : bst p pre s n0 (j + 1) =
    ((bst p pre s n0 j).1 + gi (ri p j) s, if (bst p pre s n0 j).2 < 0 ∨ restV (ri p j) s < (bst p pre s n0 j).2 then restV (ri p j) s else (bst p pre s n0 j).2) := by
  simp only [bst, h, Bool.false_eq_true, if_false]

/-- what Finish returns -/
def finishE (p : List (List Int)) (l : List Int) : Int := if checkE p ≠ 0 then checkE p else if l.length ≠ p.length ∨ rightB p.length l = false then 2 else 0
def finishV (p : List (List Int)) (l : List Int) : List (List Int) := if finishE p l = 0 then timesL p l else []
/-- what Makespan returns -/
def spanV (p : List (List Int)) (l : List Int) : Int := if finishE p l = 0 then lastV p l ((ri p 0).length - 1) else 0
/-- what Bound returns -/
def boundE (p : List (List Int)) (pre : List Int) (s : Int) : Int :=
  if checkE p ≠ 0 then checkE p else if rightB p.length pre = false ∨ p.length = 0 ∨ s < 0 ∨ (ri p 0).length ≤ s then 2 else 0
def boundR (p : List (List Int)) (pre : List Int) (s : Int) : Int := if boundE p pre s = 0 then boundV p pre s.toNat else 0
end Go.Proofs.YtehbnckdllbmgaaGreatDoor
