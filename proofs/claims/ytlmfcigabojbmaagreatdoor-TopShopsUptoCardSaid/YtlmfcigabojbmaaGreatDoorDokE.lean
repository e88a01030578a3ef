/- The errors of a plan, in plain Lean. -/
import Derived.Test.YtlmfcigabojbmaaGreatDoorDokSpec
set_option linter.unusedSimpArgs false
set_option linter.unusedVariables false
namespace Go.Proofs.YtlmfcigabojbmaaGreatDoor

/-- the error of bay i -/
def bayE (bays : List DBay) (i : Nat) : Int := if nameB (byi bays i).name = false then 6 else if (sideB (byi bays i).len && sideB (byi bays i).wid) = false then 9 else if (bays.take i).any (fun c => c.name == (byi bays i).name) then 7 else 0
/-- the first error among the first k, if there is one -/
def firstE (f : Nat → Int) : Nat → Int
  | 0 => 0
  | k + 1 => if firstE f k = 0 then f k else firstE f k
theorem firstE_zero {f : Nat → Int} {k : Nat} (h : firstE f k = 0) : firstE f (k + 1) = f k := by rw [firstE, if_pos h]
theorem firstE_stop {f : Nat → Int} {k n : Nat} (h : firstE f k ≠ 0) (hn : k ≤ n) : firstE f n = firstE f k := by
  induction n with
  | zero => have : k = 0 := by omega
            rw [this]
  | succ n ih =>
    by_cases e : k = n + 1
    · subst e; rfl
    · have := ih (by omega)
      rw [firstE, this, if_neg h]
theorem firstE_iff {f : Nat → Int} {k : Nat} : firstE f k = 0 ↔ ∀ i, i < k → f i = 0 := by
  induction k with
  | zero => exact ⟨fun _ i hi => by omega, fun _ => rfl⟩
  | succ k ih =>
    constructor
    · intro h i hi
      have h0 : firstE f k = 0 := by
        by_cases e : firstE f k = 0
        · exact e
        · rw [firstE, if_neg e] at h; exact h
      rw [firstE_zero h0] at h
      by_cases e : i = k
      · subst e; exact h
      · exact ih.1 h0 i (by omega)
    · intro h
      rw [firstE_zero (ih.2 fun i hi => h i (by omega))]
      exact h k (by omega)
def baysE (bays : List DBay) : Int := firstE (bayE bays) bays.length
def stayE (bays : List DBay) (before : List Ber) (z : Ber) : Int := if idB z.hull = false then 6 else match findD bays z.dock with
  | none => 8
  | some d => if rangeB z = false then 9 else if fitB d z = false then 18 else if before.any (overB z) then 19 else 0
def staysE (bays : List DBay) (l : List Ber) : Int := firstE (fun i => stayE bays (l.take i) (bri l i)) l.length
def planE (bays : List DBay) (l : List Ber) : Int := if 8 < bays.length ∨ 128 < l.length then 4 else if baysE bays = 0 then staysE bays l else baysE bays
def dokE (docks : List DBay) (l : List Ber) : Int := if planE docks l = 0 then (if hullsB l = false then 7 else if l.any (fun u => l.any (wetB u)) then 14 else 0) else planE docks l
theorem bayE_iff (bays : List DBay) (i : Nat) : bayE bays i = 0 ↔ bayOk bays i = true := by
  unfold bayE bayOk
  cases nameB (byi bays i).name <;> cases (sideB (byi bays i).len && sideB (byi bays i).wid) <;> cases (bays.take i).any (fun c => c.name == (byi bays i).name) <;> simp
theorem stayE_iff (bays : List DBay) (bf : List Ber) (z : Ber) : stayE bays bf z = 0 ↔ stayOk bays bf z = true := by
  unfold stayE stayOk
  cases idB z.hull
  · simp
  · cases findD bays z.dock with
    | none => simp
    | some d =>
      dsimp only
      cases rangeB z <;> cases hf : fitB d z <;> cases ha : bf.any (overB z)
      all_goals simp_all
theorem planE_iff (bays : List DBay) (l : List Ber) : planE bays l = 0 ↔ planOk bays l = true := by
  unfold planE planOk
  by_cases h1 : 8 < bays.length
  · rw [if_pos (.inl h1)]; simp; omega
  by_cases h2 : 128 < l.length
  · rw [if_pos (.inr h2)]; simp; omega
  rw [if_neg (by omega), decide_eq_true (by omega : bays.length ≤ 8), decide_eq_true (by omega : l.length ≤ 128), Bool.true_and, Bool.true_and]
  have hb : baysE bays = 0 ↔ ((List.range bays.length).all (bayOk bays)) = true := by
    unfold baysE
    rw [firstE_iff, List.all_eq_true]
    exact ⟨fun h i hi => (bayE_iff _ _).1 (h i (List.mem_range.1 hi)), fun h i hi => (bayE_iff _ _).2 (h i (List.mem_range.2 hi))⟩
  have hs : staysE bays l = 0 ↔ ((List.range l.length).all fun i => stayOk bays (l.take i) (bri l i)) = true := by
    unfold staysE
    rw [firstE_iff, List.all_eq_true]
    exact ⟨fun h i hi => (stayE_iff _ _ _).1 (h i (List.mem_range.1 hi)), fun h i hi => (stayE_iff _ _ _).2 (h i (List.mem_range.2 hi))⟩
  by_cases h3 : baysE bays = 0
  · rw [if_pos h3, hb.1 h3, Bool.true_and]; exact hs
  · rw [if_neg h3]
    have : ((List.range bays.length).all (bayOk bays)) ≠ true := fun h => h3 (hb.2 h)
    simp [h3, this]
theorem dokE_iff (docks : List DBay) (l : List Ber) : dokE docks l = 0 ↔ dokOk docks l = true := by
  unfold dokE dokOk
  have := planE_iff docks l
  by_cases h : planE docks l = 0
  · rw [if_pos h, this.1 h]
    cases hullsB l <;> cases (l.any fun u => l.any (wetB u)) <;> simp
  · rw [if_neg h]
    have h2 : planOk docks l = false := by cases hq : planOk docks l with | true => exact absurd (this.2 hq) h | false => rfl
    simp [h, h2]
end Go.Proofs.YtlmfcigabojbmaaGreatDoor
