/- First fit in decreasing order, in plain Lean. -/
import Derived.Test.YtlgepggmgfnneaaSelSpec
import Derived.Test.YtlgepggmgfnneaaBarSpec
import Derived.Test.YtlgepggmgfnneaaLib
namespace Go.Proofs.Ytlgepggmgfnneaa

def cmpV (a b : Int) : Int := if a < b then -1 else if b < a then 1 else 0
def glI (l : List Int) (j : Int) : Int := gi l j.toNat
def cG (l : List Int) (x y : Int) : Int := cmpV (glI l y) (glI l x)
def befG (l : List Int) (x y : Int) : Bool := decide (glI l y < glI l x) || (decide (glI l x = glI l y) && decide (x < y))
theorem befG_iff {l : List Int} {x y : Int} : befG l x y = true ↔ glI l y < glI l x ∨ (glI l x = glI l y ∧ x < y) := by simp [befG]
theorem bef_G (l : List Int) : Bef (befG l) := by
  constructor
  · intro x y h; rw [befG_iff, befG_iff]; omega
  · intro x y h
    rw [befG_iff] at h
    rw [Bool.eq_false_iff]; intro h2
    rw [befG_iff] at h2; omega
  · intro x y z h h2; rw [befG_iff] at *; omega
theorem ltG_iff {l : List Int} {x y : Int} : ltOf (cG l) x y = true ↔ glI l y < glI l x := by
  unfold ltOf cG cmpV
  rw [decide_eq_true_eq]
  split
  · omega
  · split <;> omega
theorem ltG_false {l : List Int} {x y : Int} : ltOf (cG l) x y = false ↔ glI l x ≤ glI l y := by
  rw [Bool.eq_false_iff, ne_eq, ltG_iff]; omega
theorem swo_G (l : List Int) (D : Int → Prop) : SWO D (ltOf (cG l)) := by
  constructor
  · intro x _; rw [ltG_false]; omega
  · intro x y _ _ h; rw [ltG_iff] at h; rw [ltG_false]; omega
  · intro x y z _ _ _ h k; rw [ltG_false] at *; omega
/-- the order of the pieces -/
def ordG (l : List Int) : List Int := selB (befG l) l.length l.length
theorem ordG_of (l : List Int) (xs ys : List Int) (hx : ∀ k, k < xs.length → gi xs k = k) (hl : xs.length = l.length) (hr : Rearr (ltOf (cG l)) xs ys) (hs : SortedOn (ltOf (cG l)) ys 0 ys.length) : ys = ordG l := by
  refine selB_of (bef_G l) xs ys hx hl hr hs fun x y _ _ _ _ h1 h2 => ?_
  rw [befG_iff]
  rw [ltG_false] at h2
  rcases h1 with h1 | h1
  · rw [ltG_iff] at h1; exact .inl h1
  · by_cases e : glI l x = glI l y
    · exact .inr ⟨e, h1⟩
    · exact .inl (by omega)
theorem ordG_length (l) : (ordG l).length = l.length := selB_length _ _ _

/-- the bars and what is left of them -/
abbrev Bars := List (List Int) × List Int
def fitG (need : Int) (fr : List Int) : Int := findI (fun n => decide (need ≤ n)) fr
/-- one piece into the first bar with room, or a new one -/
def stepG (l : List Int) (s k : Int) (st : Bars) (i : Int) : Bars :=
  if fitG (glI l i + k) st.2 < 0 then (st.1 ++ [[i]], st.2 ++ [s + k - (glI l i + k)])
  else (st.1.set (fitG (glI l i + k) st.2).toNat (ri st.1 (fitG (glI l i + k) st.2).toNat ++ [i]), st.2.set (fitG (glI l i + k) st.2).toNat (gi st.2 (fitG (glI l i + k) st.2).toNat - (glI l i + k)))
def planG (l : List Int) (s k : Int) : Nat → Bars
  | 0 => ([], [])
  | n + 1 => stepG l s k (planG l s k n) (gi (ordG l) n)
theorem planG_succ (l s k n) : planG l s k (n + 1) = stepG l s k (planG l s k n) (gi (ordG l) n) := rfl
def greedyL (l : List Int) (s k : Int) : List (List Int) := if rightE l s k = 0 then (planG l s k l.length).1 else []
theorem greedyL_good {l : List Int} {s k : Int} (h : rightE l s k = 0) : greedyL l s k = (planG l s k l.length).1 := if_pos h
theorem greedyL_bad {l : List Int} {s k : Int} (h : rightE l s k ≠ 0) : greedyL l s k = [] := if_neg h

theorem findI_cases (p : Int → Bool) (xs : List Int) : (findI p xs = -1 ∧ ∀ j, j < xs.length → p (gi xs j) = false) ∨ ∃ k : Nat, findI p xs = k ∧ k < xs.length ∧ p (gi xs k) = true ∧ ∀ j, j < k → p (gi xs j) = false := by
  unfold findI
  cases hh : xs.findIdx? p with
  | none =>
    rw [List.findIdx?_eq_none_iff] at hh
    exact .inl ⟨rfl, fun j hj => hh _ (gi_mem hj)⟩
  | some i =>
    rw [List.findIdx?_eq_some_iff_getElem] at hh
    obtain ⟨h1, h2, h3⟩ := hh
    refine .inr ⟨i, rfl, h1, by rw [gi_lt h1]; exact h2, fun j hj => ?_⟩
    have := h3 j hj
    rw [gi_lt (by omega)]; simpa using this
theorem ordG_mem {l : List Int} {x : Int} (h : x ∈ ordG l) : 0 ≤ x ∧ x < l.length := by
  have : ∀ k, k ≤ l.length → ∀ y ∈ selB (befG l) l.length k, 0 ≤ y ∧ y < l.length := by
    intro k
    induction k with
    | zero => intro _ y hy; simp [selB] at hy
    | succ k ih =>
      intro hk y hy
      rw [selB, List.mem_append] at hy
      rcases hy with hy | hy
      · exact ih (by omega) y hy
      · simp at hy
        subst hy
        rcases nextB_spec (bef_G l) (selB (befG l) l.length k) l.length with ⟨_, h2⟩ | ⟨h1, h2, _⟩
        · exfalso
          have : l.length ≤ k := by
            have hs : ∀ m, m ≤ l.length → ((List.range m).map fun j : Nat => (j : Int)).length ≤ k := by
              intro m hm
              have hnd : ((List.range m).map fun j : Nat => (j : Int)).Nodup := by
                rw [List.nodup_iff_pairwise_ne, List.pairwise_iff_getElem]
                intro i j hi hj hij
                simp; omega
              have := List.Nodup.length_le_of_subset hnd (l₂ := selB (befG l) l.length k) (fun x hx => by
                simp at hx
                obtain ⟨j, hj, rfl⟩ := hx
                exact h2 j (by omega))
              rwa [selB_length] at this
            have := hs l.length (Nat.le_refl _)
            simpa using this
          omega
        · exact ⟨h1, h2⟩
  exact this l.length (Nat.le_refl _) x h
structure FitG (l : List Int) (s k : Int) (n : Nat) (st : Bars) : Prop where
  len : st.2.length = st.1.length
  most : st.1.length ≤ n
  rows : ∀ i, i < st.1.length → (ri st.1 i).length ≤ n
  free : ∀ i, i < st.2.length → 0 ≤ gi st.2 i ∧ gi st.2 i ≤ s + k
end Go.Proofs.Ytlgepggmgfnneaa
