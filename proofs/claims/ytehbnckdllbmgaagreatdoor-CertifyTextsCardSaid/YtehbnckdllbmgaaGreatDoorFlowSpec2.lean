/- The search for the best sequence of layer 37, in plain Lean. -/
import Derived.Test.YtehbnckdllbmgaaGreatDoorFlowSpec
set_option linter.unusedSimpArgs false
set_option linter.unusedVariables false
namespace Go.Proofs.YtehbnckdllbmgaaGreatDoor

/-- the state of the search -/
structure St where
  left : Nat
  order : List Int
  span : Int
  found : Bool
/-- the makespan of a list of jobs -/
def lenV (p : List (List Int)) (l : List Int) : Int := lastV p l ((ri p 0).length - 1)
/-- a whole sequence -/
def leaf (p : List (List Int)) (st : St) (pre : List Int) : St :=
  if st.found = false ∨ lenV p pre < st.span then { st with order := pre, span := lenV p pre, found := true } else st
/-- some bound of the prefix is as great as the best makespan -/
def pruned (p : List (List Int)) (st : St) (pre : List Int) : Bool := st.found && (List.range (ri p 0).length).any fun s => decide (st.span ≤ boundV p pre s)
def spend (st : St) : St := { st with left := st.left - 1 }
/-- one job after another -/
def tries (f : St → Nat → Option St) : Nat → St → Option St
  | 0, st => some st
  | j + 1, st => match tries f j st with
    | none => none
    | some st' => f st' j
/-- all sequences that begin with a prefix, f jobs being left; none: the steps are used up -/
def expl (p : List (List Int)) : Nat → St → List Int → Option St
  | 0, st, pre => some (leaf p st pre)
  | f + 1, st, pre =>
    if pruned p st pre then some st else
    if st.left = 0 then none else
    tries (fun st j => if pre.any (fun y => (j : Int) == y) then some st else expl p f st (pre ++ [(j : Int)])) p.length (spend st)
def tryJob (p : List (List Int)) (f : Nat) (pre : List Int) (st : St) (j : Nat) : Option St := if pre.any (fun y => (j : Int) == y) then some st else expl p f st (pre ++ [(j : Int)])
theorem expl_zero (p st pre) : expl p 0 st pre = some (leaf p st pre) := rfl
theorem expl_pruned {p f st pre} (h : pruned p st pre = true) : expl p (f + 1) st pre = some st := by simp [expl, h]
theorem expl_none {p f st pre} (h : pruned p st pre = false) (h2 : st.left = 0) : expl p (f + 1) st pre = none := by simp [expl, h, h2]
theorem expl_tries {p f st pre} (h : pruned p st pre = false) (h2 : st.left ≠ 0) : expl p (f + 1) st pre = tries (tryJob p f pre) p.length (spend st) := by
  simp only [expl, h, h2, if_false]; rfl
theorem tries_succ {f : St → Nat → Option St} {j st st'} (h : tries f j st = some st') : tries f (j + 1) st = f st' j := by simp [tries, h]
theorem tries_none {f : St → Nat → Option St} {j st} (h : tries f j st = none) : ∀ k, j ≤ k → tries f k st = none := by
  intro k hk
  induction k with
  | zero => obtain rfl : j = 0 := by omega
            exact h
  | succ k ih =>
    by_cases e : j = k + 1
    · subst e; exact h
    · simp [tries, ih (by omega)]
theorem tryJob_has {p f pre st} {j : Nat} (h : pre.any (fun y => (j : Int) == y) = true) : tryJob p f pre st j = some st := by simp only [tryJob, h, if_true]
theorem tryJob_new {p f pre st} {j : Nat} (h : pre.any (fun y => (j : Int) == y) = false) : tryJob p f pre st j = expl p f st (pre ++ [(j : Int)]) := by simp only [tryJob, h]; rfl

theorem rightB_snoc {n : Nat} {l : List Int} {j : Nat} (h : rightB n l = true) (hj : j < n) (hn : l.any (fun y => (j : Int) == y) = false) : rightB n (l ++ [(j : Int)]) = true := by
  apply rightB_good
  intro k hk
  simp only [List.length_append, List.length_singleton] at hk
  by_cases e : k < l.length
  · have := rightB_job h e
    simp only [rightB, decide_eq_true_eq] at h
    obtain ⟨a, b, c⟩ := h k e
    simp only [badJob]
    rw [gi_append_left e, List.take_append_of_le_length (by omega), c]
    simp; omega
  · obtain rfl : k = l.length := by omega
    simp only [badJob]
    rw [gi_append_one, List.take_left, hn]
    simp; omega
theorem leaf_hit {p : List (List Int)} {st : St} {pre : List Int} (h : st.found = false ∨ lenV p pre < st.span) : leaf p st pre = { st with order := pre, span := lenV p pre, found := true } := if_pos h
theorem leaf_miss {p : List (List Int)} {st : St} {pre : List Int} (h : ¬ (st.found = false ∨ lenV p pre < st.span)) : leaf p st pre = st := if_neg h
theorem pruned_hit {p : List (List Int)} {st : St} {pre : List Int} {s : Nat} (hf : st.found = true) (hs : s < (ri p 0).length) (h : st.span ≤ boundV p pre s) : pruned p st pre = true := by
  simp only [pruned, hf, Bool.true_and]; rw [List.any_eq_true]; exact ⟨s, by simpa using hs, by simpa using h⟩
def bnd (p : List (List Int)) (st : St) (pre : List Int) (s : Nat) : Bool := st.found && decide (st.span ≤ boundV p pre s)
theorem bnd_no {p : List (List Int)} {st : St} {pre : List Int} {s : Nat} (h : st.found = false) : bnd p st pre s = false := by simp [bnd, h]
theorem bnd_less {p : List (List Int)} {st : St} {pre : List Int} {s : Nat} (h : ¬ st.span ≤ boundV p pre s) : bnd p st pre s = false := by simp [bnd, h]
theorem pruned_miss {p : List (List Int)} {st : St} {pre : List Int} (h : ∀ s, s < (ri p 0).length → bnd p st pre s = false) : pruned p st pre = false := by
  cases hf : st.found with
  | false => simp [pruned, hf]
  | true =>
    simp only [pruned, hf, Bool.true_and]; rw [List.any_eq_false]; intro s hs
    have := h s (by simpa using hs)
    unfold bnd at this
    rw [hf, Bool.true_and] at this
    simpa using this

theorem leaf_left (p st pre) : (leaf p st pre).left = st.left := by unfold leaf; split <;> rfl
theorem tries_left {f : St → Nat → Option St} (h : ∀ st j st', f st j = some st' → st'.left ≤ st.left) : ∀ k st st', tries f k st = some st' → st'.left ≤ st.left
  | 0, st, st', e => by simp [tries] at e; subst e; exact Nat.le_refl _
  | k + 1, st, st', e => by
    simp only [tries] at e
    cases g : tries f k st with
    | none => rw [g] at e; cases e
    | some s1 => rw [g] at e; exact Nat.le_trans (h _ _ _ e) (tries_left h k st s1 g)
theorem expl_left (p : List (List Int)) : ∀ (f : Nat) (st : St) (pre : List Int) (st' : St), expl p f st pre = some st' → st'.left ≤ st.left
  | 0, st, pre, st', e => by simp [expl] at e; subst e; rw [leaf_left]; exact Nat.le_refl _
  | f + 1, st, pre, st', e => by
    cases h : pruned p st pre with
    | true => rw [expl_pruned h] at e; cases e; exact Nat.le_refl _
    | false =>
      by_cases h2 : st.left = 0
      · rw [expl_none h h2] at e; cases e
      · rw [expl_tries h h2] at e
        have := tries_left (fun st j st' g => by
          unfold tryJob at g
          split at g
          · cases g; exact Nat.le_refl _
          · exact expl_left p f _ _ _ g) _ _ _ e
        simp only [spend] at this
        omega
end Go.Proofs.YtehbnckdllbmgaaGreatDoor
