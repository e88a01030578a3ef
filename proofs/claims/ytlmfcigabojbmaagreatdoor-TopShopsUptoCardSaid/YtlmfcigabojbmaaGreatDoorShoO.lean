/- What a plan needs step by step: plain. -/
import Derived.Test.YtlmfcigabojbmaaGreatDoorSoI
import Derived.Test.YtlmfcigabojbmaaGreatDoorDokSpec
import Derived.Test.YtlmfcigabojbmaaGreatDoorDokE
set_option linter.unusedSimpArgs false
set_option linter.unusedVariables false

/- Sorted lists in which each number stands once: plain. -/
namespace Go.Proofs.YtlmfcigabojbmaaGreatDoor

theorem lt_ext : ∀ {l m : List Int}, l.Pairwise (· < ·) → m.Pairwise (· < ·) → (∀ x, x ∈ l ↔ x ∈ m) → l = m
  | [], [], _, _, _ => rfl
  | [], y :: m, _, _, h => absurd ((h y).2 (List.mem_cons_self ..)) (by simp)
  | x :: l, [], _, _, h => absurd ((h x).1 (List.mem_cons_self ..)) (by simp)
  | x :: l, y :: m, h1, h2, h => by
    obtain ⟨a1, a2⟩ := List.pairwise_cons.1 h1
    obtain ⟨b1, b2⟩ := List.pairwise_cons.1 h2
    have e : x = y := by
      rcases List.mem_cons.1 ((h x).1 (List.mem_cons_self ..)) with e | e
      · exact e
      · rcases List.mem_cons.1 ((h y).2 (List.mem_cons_self ..)) with e' | e'
        · exact e'.symm
        · have := b1 x e; have := a1 y e'; omega
    subst e
    congr 1
    refine lt_ext a2 b2 fun z => ⟨fun hz => ?_, fun hz => ?_⟩
    · rcases List.mem_cons.1 ((h z).1 (List.mem_cons_of_mem _ hz)) with e | e
      · subst e; have := a1 z hz; omega
      · exact e
    · rcases List.mem_cons.1 ((h z).2 (List.mem_cons_of_mem _ hz)) with e | e
      · subst e; have := b1 z hz; omega
      · exact e
theorem sortL_le (zs : List Int) : (sortL zs).Pairwise (· ≤ ·) := by
  have := List.pairwise_mergeSort (le := fun x y : Int => decide (x ≤ y)) (fun a b c h1 h2 => by simp at h1 h2 ⊢; omega) (fun a b => by simp; omega) zs
  exact this.imp fun h => by simpa using h
theorem compact_lt {zs : List Int} (h : zs.Pairwise (· ≤ ·)) : (Lib.compact zs).Pairwise (· < ·) := by
  have hle : ∀ i j, i ≤ j → j < zs.length → zs.toArray[i]! ≤ zs.toArray[j]! := by
    intro i j hij hj
    rw [getElem!_pos zs.toArray i (by simpa using by omega), getElem!_pos zs.toArray j (by simpa using hj), List.getElem_toArray, List.getElem_toArray]
    by_cases e : i = j
    · subst e; exact Int.le_refl _
    · exact List.pairwise_iff_getElem.1 h i j (by omega) hj (by omega)
  have key : ∀ m, m ≤ zs.length → (Lib.compactUpTo zs.toArray m).Pairwise (· < ·) ∧ ∀ x ∈ Lib.compactUpTo zs.toArray m, ∃ j, j < m ∧ x = zs.toArray[j]! := by
    intro m
    induction m with
    | zero => intro _; exact ⟨List.Pairwise.nil, fun x hx => by cases hx⟩
    | succ m ih =>
      intro hm
      obtain ⟨i1, i2⟩ := ih (by omega)
      rw [Lib.compactUpTo_succ]
      by_cases hk : Lib.keeps zs.toArray m = true
      · rw [if_pos hk]
        refine ⟨List.pairwise_append.2 ⟨i1, List.pairwise_singleton _ _, fun a ha b hb => ?_⟩, fun x hx => ?_⟩
        · rw [List.mem_singleton] at hb
          subst hb
          obtain ⟨j, hj, rfl⟩ := i2 a ha
          unfold Lib.keeps at hk
          have hk' := of_decide_eq_true hk
          have h1 := hle j (m - 1) (by omega) (by omega)
          have h2 := hle (m - 1) m (by omega) (by omega)
          rcases hk' with h0 | h0
          · omega
          · have : zs.toArray[m]! ≠ zs.toArray[m - 1]! := h0
            omega
        · rcases List.mem_append.1 hx with hx | hx
          · obtain ⟨j, hj, e⟩ := i2 x hx; exact ⟨j, by omega, e⟩
          · rw [List.mem_singleton] at hx; exact ⟨m, by omega, hx⟩
      · rw [if_neg hk, List.append_nil]
        exact ⟨i1, fun x hx => by obtain ⟨j, hj, e⟩ := i2 x hx; exact ⟨j, by omega, e⟩⟩
  exact (key zs.length (Nat.le_refl _)).1
/-- sorted, each once -/
def uq (zs : List Int) : List Int := Lib.compact (sortL zs)
theorem uq_mem {zs : List Int} {x : Int} : x ∈ uq zs ↔ x ∈ zs := compact_mem.trans sortL_mem
theorem uq_lt (zs : List Int) : (uq zs).Pairwise (· < ·) := compact_lt (sortL_le zs)
theorem uq_len (zs : List Int) : (uq zs).length ≤ zs.length := by have := compact_len (sortL zs); rw [sortL_len] at this; exact this
theorem uq_of {l zs : List Int} (h : l.Pairwise (· < ·)) (hm : ∀ x, x ∈ l ↔ x ∈ zs) : l = uq zs := lt_ext h (uq_lt zs) fun x => (hm x).trans uq_mem.symm
/-! put of the reference -/
def gz (xs : List Int) (k : Nat) : Int := xs.getD k 0
def pPut (xs : List Int) (n : Int) : Nat → Bool
  | 0 => false
  | k + 1 => pPut xs n k || decide (n ≤ gz xs k)
def pOut (xs : List Int) (n : Int) : Nat → List Int
  | 0 => []
  | k + 1 => (if pPut xs n k = false ∧ n ≤ gz xs k then pOut xs n k ++ [n] else pOut xs n k) ++ (if gz xs k = n then [] else [gz xs k])
def putL (xs : List Int) (n : Int) : List Int := if pPut xs n xs.length = true then pOut xs n xs.length else pOut xs n xs.length ++ [n]
theorem gz_lt {xs : List Int} {k : Nat} (h : k < xs.length) : gz xs k = xs[k] := by simp [gz, h]
theorem pOut_spec {xs : List Int} {n : Int} (h : xs.Pairwise (· < ·)) : ∀ k, k ≤ xs.length → (pOut xs n k).Pairwise (· < ·) ∧ (∀ x, x ∈ pOut xs n k ↔ (∃ j, j < k ∧ gz xs j = x ∧ x ≠ n) ∨ (x = n ∧ pPut xs n k = true)) ∧ (pPut xs n k = false → ∀ j, j < k → gz xs j < n) ∧ (pPut xs n k = true → 0 < k ∧ n ≤ gz xs (k - 1)) := by
  have hlt : ∀ i j, i < j → j < xs.length → gz xs i < gz xs j := fun i j hij hj => by
    rw [gz_lt hj, gz_lt (by omega : i < xs.length)]; exact List.pairwise_iff_getElem.1 h i j (by omega) hj hij
  intro k
  induction k with
  | zero => exact fun _ => ⟨List.Pairwise.nil, fun x => by simp [pOut, pPut], fun _ j hj => by omega, fun h => by cases h⟩
  | succ k ih =>
    intro hk
    obtain ⟨i1, i2, i3, i4⟩ := ih (by omega)
    have hP : pPut xs n (k + 1) = (pPut xs n k || decide (n ≤ gz xs k)) := rfl
    have hO : pOut xs n (k + 1) = (if pPut xs n k = false ∧ n ≤ gz xs k then pOut xs n k ++ [n] else pOut xs n k) ++ (if gz xs k = n then [] else [gz xs k]) := rfl
    have hin : ∀ x, (∃ j, j < k + 1 ∧ gz xs j = x ∧ x ≠ n) ↔ (∃ j, j < k ∧ gz xs j = x ∧ x ≠ n) ∨ (gz xs k = x ∧ x ≠ n) := fun x => by
      constructor
      · rintro ⟨j, hj, e1, e2⟩
        by_cases e : j = k
        · subst e; exact .inr ⟨e1, e2⟩
        · exact .inl ⟨j, by omega, e1, e2⟩
      · rintro (⟨j, hj, e1, e2⟩ | ⟨e1, e2⟩)
        · exact ⟨j, by omega, e1, e2⟩
        · exact ⟨k, by omega, e1, e2⟩
    have tail : ∀ x, x ∈ (if gz xs k = n then [] else [gz xs k]) ↔ (gz xs k = x ∧ x ≠ n) := fun x => by
      by_cases e : gz xs k = n
      · rw [if_pos e]; exact ⟨fun h => (by cases h), fun h => absurd (h.1.symm.trans e) h.2⟩
      · rw [if_neg e, List.mem_singleton]; exact ⟨fun h => ⟨h.symm, by rw [h]; exact e⟩, fun h => h.1.symm⟩
    have hbel : ∀ x ∈ pOut xs n k, (x < gz xs k) ∨ (x = n ∧ pPut xs n k = true) := fun x hx => by
      rcases (i2 x).1 hx with ⟨j, hj, e, _⟩ | e
      · left; rw [← e]; exact hlt j k hj (by omega)
      · exact .inr e
    cases hp : pPut xs n k with
    | true =>
      have h4 := i4 hp
      have hkk := hlt (k - 1) k (by omega) (by omega)
      rw [hp] at i2 hbel
      rw [hO, hP, hp, if_neg (by simp)]
      have hne : gz xs k ≠ n := by omega
      refine ⟨List.pairwise_append.2 ⟨i1, by rw [if_neg hne]; exact List.pairwise_singleton _ _, fun a ha b hb => ?_⟩, fun x => ?_, fun h => (by cases h), fun _ => ⟨by omega, by rw [Nat.add_sub_cancel]; omega⟩⟩
      · have := ((tail b).1 hb).1
        rcases hbel a ha with h1 | h1 <;> omega
      · rw [List.mem_append, i2 x, hin x, tail x, Bool.true_or]
        constructor
        · rintro ((h1 | h1) | h1)
          · exact .inl (.inl h1)
          · exact .inr h1
          · exact .inl (.inr h1)
        · rintro ((h1 | h1) | h1)
          · exact .inl (.inl h1)
          · exact .inr h1
          · exact .inl (.inr h1)
    | false =>
      have h3 := i3 hp
      rw [hp] at i2
      have i2' : ∀ x, x ∈ pOut xs n k ↔ ∃ j, j < k ∧ gz xs j = x ∧ x ≠ n := fun x => by rw [i2 x]; simp
      have hb2 : ∀ x ∈ pOut xs n k, x < n := fun x hx => by obtain ⟨j, hj, e, _⟩ := (i2' x).1 hx; have := h3 j hj; omega
      have hb3 : ∀ x ∈ pOut xs n k, x < gz xs k := fun x hx => by obtain ⟨j, hj, e, _⟩ := (i2' x).1 hx; have := hlt j k hj (by omega); omega
      by_cases hle : n ≤ gz xs k
      · rw [hO, hP, hp, if_pos ⟨rfl, hle⟩, decide_eq_true hle]
        refine ⟨List.pairwise_append.2 ⟨List.pairwise_append.2 ⟨i1, List.pairwise_singleton _ _, fun a ha b hb => by rw [List.mem_singleton] at hb; subst hb; exact hb2 a ha⟩, ?_, fun a ha b hb => ?_⟩, fun x => ?_, fun h => (by cases h), fun _ => ⟨by omega, by rw [Nat.add_sub_cancel]; exact hle⟩⟩
        · split
          · exact List.Pairwise.nil
          · exact List.pairwise_singleton _ _
        · obtain ⟨e1, e2⟩ := (tail b).1 hb
          rcases List.mem_append.1 ha with ha | ha
          · have := hb3 a ha; omega
          · rw [List.mem_singleton] at ha; omega
        · rw [List.mem_append, List.mem_append, List.mem_singleton, i2' x, hin x, tail x]
          constructor
          · rintro ((h1 | h1) | h1)
            · exact .inl (.inl h1)
            · exact .inr ⟨h1, rfl⟩
            · exact .inl (.inr h1)
          · rintro ((h1 | h1) | h1)
            · exact .inl (.inl h1)
            · exact .inr h1
            · exact .inl (.inr h1.1)
      · have hne : gz xs k ≠ n := by omega
        rw [hO, hP, hp, if_neg (by omega), decide_eq_false hle]
        refine ⟨List.pairwise_append.2 ⟨i1, by rw [if_neg hne]; exact List.pairwise_singleton _ _, fun a ha b hb => ?_⟩, fun x => ?_, fun _ j hj => ?_, fun h => (by cases h)⟩
        · have := ((tail b).1 hb).1
          have := hb3 a ha; omega
        · rw [List.mem_append, i2' x, hin x, tail x]
          simp
        · by_cases e : j = k
          · subst e; omega
          · exact h3 j (by omega)
theorem putL_spec {xs : List Int} {n : Int} (h : xs.Pairwise (· < ·)) : (putL xs n).Pairwise (· < ·) ∧ ∀ x, x ∈ putL xs n ↔ x ∈ xs ∨ x = n := by
  obtain ⟨i1, i2, i3, i4⟩ := pOut_spec (n := n) h xs.length (Nat.le_refl _)
  have e : ∀ x, (∃ j, j < xs.length ∧ gz xs j = x ∧ x ≠ n) ↔ x ∈ xs ∧ x ≠ n := fun x => by
    constructor
    · rintro ⟨j, hj, e1, e2⟩
      exact ⟨by rw [← e1, gz_lt hj]; exact List.getElem_mem hj, e2⟩
    · rintro ⟨h1, h2⟩
      obtain ⟨j, hj, e⟩ := List.mem_iff_getElem.1 h1
      exact ⟨j, hj, by rw [gz_lt hj, e], h2⟩
  unfold putL
  cases hp : pPut xs n xs.length with
  | true =>
    rw [if_pos rfl]
    refine ⟨i1, fun x => ?_⟩
    rw [i2 x, e x, hp]
    by_cases hx : x = n <;> simp [hx]
  | false =>
    rw [if_neg (by simp)]
    rw [hp] at i2
    refine ⟨List.pairwise_append.2 ⟨i1, List.pairwise_singleton _ _, fun a ha b hb => ?_⟩, fun x => ?_⟩
    · rw [List.mem_singleton] at hb; subst hb
      rcases (i2 a).1 ha with ⟨j, hj, e1, _⟩ | h1
      · have := i3 hp j hj; omega
      · cases h1.2
    · rw [List.mem_append, List.mem_singleton, i2 x, e x]
      by_cases hx : x = n <;> simp [hx]
/-- a fold of put is the sorted list of all -/
theorem putL_uq {zs : List Int} {n : Int} : putL (uq zs) n = uq (zs ++ [n]) := by
  obtain ⟨h1, h2⟩ := putL_spec (n := n) (uq_lt zs)
  exact uq_of h1 fun x => by rw [h2 x, uq_mem, List.mem_append, List.mem_singleton]
theorem uq_one (n : Int) : [n] = uq [n] := uq_of (List.pairwise_singleton _ _) fun _ => Iff.rfl
end Go.Proofs.YtlmfcigabojbmaaGreatDoor

/- Stays that have no place in common take no more floor than the bay has: plain. -/
namespace Go.Proofs.YtlmfcigabojbmaaGreatDoor

def sumN : Nat → (Nat → Nat) → Nat
  | 0, _ => 0
  | n + 1, f => sumN n f + f n
theorem sumN_le {f g : Nat → Nat} : ∀ {n : Nat}, (∀ i, i < n → f i ≤ g i) → sumN n f ≤ sumN n g
  | 0, _ => Nat.le_refl _
  | n + 1, h => Nat.add_le_add (sumN_le fun i hi => h i (by omega)) (h n (by omega))
theorem sumN_add (f g : Nat → Nat) : ∀ n, sumN n (fun i => f i + g i) = sumN n f + sumN n g
  | 0 => rfl
  | n + 1 => by simp only [sumN]; rw [sumN_add f g n]; omega
theorem sumN_const (c : Nat) : ∀ n, sumN n (fun _ => c) = n * c
  | 0 => by simp [sumN]
  | n + 1 => by simp only [sumN]; rw [sumN_const c n, Nat.add_mul, Nat.one_mul]
theorem sumN_zero (n : Nat) : sumN n (fun _ => 0) = 0 := by rw [sumN_const]; simp
theorem sumN_congr {f g : Nat → Nat} {n : Nat} (h : ∀ i, i < n → f i = g i) : sumN n f = sumN n g := Nat.le_antisymm (sumN_le fun i hi => Nat.le_of_eq (h i hi)) (sumN_le fun i hi => Nat.le_of_eq (h i hi).symm)
/-- the numbers from a to b, each with c -/
theorem sumN_span (a b : Int) (c : Nat) (h0 : 0 ≤ a) (hab : a ≤ b) : ∀ n : Nat, sumN n (fun i => if a ≤ (i : Int) ∧ (i : Int) < b then c else 0) = (min b n - min a n).toNat * c
  | 0 => by
    have : (min b ((0 : Nat) : Int) - min a ((0 : Nat) : Int)).toNat = 0 := by omega
    rw [this, Nat.zero_mul]; rfl
  | n + 1 => by
    simp only [sumN]
    rw [sumN_span a b c h0 hab n]
    by_cases h : a ≤ (n : Int) ∧ (n : Int) < b
    · rw [if_pos h]
      have : (min b ((n + 1 : Nat) : Int) - min a ((n + 1 : Nat) : Int)).toNat = (min b (n : Int) - min a (n : Int)).toNat + 1 := by omega
      rw [this, Nat.add_mul, Nat.one_mul]
    · rw [if_neg h]
      have : (min b ((n + 1 : Nat) : Int) - min a ((n + 1 : Nat) : Int)).toNat = (min b (n : Int) - min a (n : Int)).toNat := by omega
      rw [this, Nat.add_zero]
/-- whether r covers a point -/
def covN (r : Ber) (i j : Nat) : Nat := if (r.x ≤ (i : Int) ∧ (i : Int) < r.x + r.len) ∧ (r.y ≤ (j : Int) ∧ (j : Int) < r.y + r.wid) then 1 else 0
def cntN (l : List Ber) (i j : Nat) : Nat := (l.map fun r => covN r i j).sum
def areaL (l : List Ber) : Int := (l.map fun r => r.len * r.wid).sum
/-- within a floor of L by W -/
structure InF (L W : Nat) (r : Ber) : Prop where
  x0 : 0 ≤ r.x
  y0 : 0 ≤ r.y
  l0 : 0 ≤ r.len
  w0 : 0 ≤ r.wid
  x1 : r.x + r.len ≤ L
  y1 : r.y + r.wid ≤ W
theorem area_one {L W : Nat} {r : Ber} (h : InF L W r) : sumN L (fun i => sumN W (fun j => covN r i j)) = r.len.toNat * r.wid.toNat := by
  obtain ⟨x0, y0, l0, w0, x1, y1⟩ := h
  have e1 : ∀ i : Nat, sumN W (fun j => covN r i j) = if r.x ≤ (i : Int) ∧ (i : Int) < r.x + r.len then r.wid.toNat else 0 := by
    intro i
    by_cases h : r.x ≤ (i : Int) ∧ (i : Int) < r.x + r.len
    · rw [if_pos h]
      have : ∀ j : Nat, covN r i j = if r.y ≤ (j : Int) ∧ (j : Int) < r.y + r.wid then 1 else 0 := fun j => by unfold covN; simp only [h, true_and]
      rw [sumN_congr fun j _ => this j, sumN_span r.y (r.y + r.wid) 1 y0 (by omega) W, Nat.mul_one]
      omega
    · rw [if_neg h]
      have : ∀ j : Nat, covN r i j = 0 := fun j => by unfold covN; rw [if_neg (fun hh => h hh.1)]
      rw [sumN_congr fun j _ => this j, sumN_zero]
  rw [sumN_congr fun i _ => e1 i, sumN_span r.x (r.x + r.len) r.wid.toNat x0 (by omega) L]
  congr 1
  omega
theorem area_sum {L W : Nat} : ∀ {l : List Ber}, (∀ r ∈ l, InF L W r) → areaL l = (sumN L (fun i => sumN W (fun j => cntN l i j)) : Nat)
  | [], _ => by
    have : ∀ i j, cntN [] i j = 0 := fun _ _ => rfl
    rw [sumN_congr fun i _ => sumN_congr fun j _ => this i j, sumN_congr fun i _ => sumN_zero W, sumN_zero]; rfl
  | r :: l, h => by
    have e : ∀ i j, cntN (r :: l) i j = covN r i j + cntN l i j := fun i j => by unfold cntN; rw [List.map_cons, List.sum_cons]
    rw [sumN_congr fun i _ => sumN_congr fun j _ => e i j, sumN_congr fun i _ => sumN_add (fun j => covN r i j) (fun j => cntN l i j) W, sumN_add, area_one (h r (List.mem_cons_self ..))]
    unfold areaL
    rw [List.map_cons, List.sum_cons]
    have ih := area_sum (l := l) fun r hr => h r (List.mem_cons_of_mem _ hr)
    unfold areaL at ih
    rw [ih]
    have hr := h r (List.mem_cons_self ..)
    have h1 := Int.toNat_of_nonneg hr.l0
    have h2 := Int.toNat_of_nonneg hr.w0
    rw [Int.natCast_add, Int.natCast_mul, h1, h2]
theorem cov_le (r : Ber) (i j : Nat) : covN r i j ≤ 1 := by unfold covN; split <;> omega
theorem cnt_one {i j : Nat} : ∀ {l : List Ber}, l.Pairwise (fun a b => meetS a b = false) → cntN l i j ≤ 1
  | [], _ => by show 0 ≤ 1; omega
  | r :: l, h => by
    obtain ⟨h1, h2⟩ := List.pairwise_cons.1 h
    have e : cntN (r :: l) i j = covN r i j + cntN l i j := by unfold cntN; rw [List.map_cons, List.sum_cons]
    rw [e]
    by_cases hc : covN r i j = 0
    · rw [hc, Nat.zero_add]; exact cnt_one h2
    · have : cntN l i j = 0 := by
        have gen : ∀ m : List Ber, (∀ u ∈ m, meetS r u = false) → cntN m i j = 0 := by
          intro m
          induction m with
          | nil => intro _; rfl
          | cons u m ih =>
            intro hm
            have e2 : cntN (u :: m) i j = covN u i j + cntN m i j := by unfold cntN; rw [List.map_cons, List.sum_cons]
            rw [e2, ih fun v hv => hm v (List.mem_cons_of_mem _ hv), Nat.add_zero]
            have hu := hm u (List.mem_cons_self ..)
            unfold covN at hc ⊢
            split at hc
            · rename_i hp
              split
              · rename_i hq
                have : meetS r u = true := meetS_iff.2 ⟨⟨by omega, by omega⟩, by omega, by omega⟩
                rw [hu] at this; cases this
              · rfl
            · exact absurd rfl hc
        exact gen l h1
      have := cov_le r i j
      omega
/-- no more floor than there is -/
theorem area_le {L W : Nat} {l : List Ber} (h : ∀ r ∈ l, InF L W r) (hp : l.Pairwise (fun a b => meetS a b = false)) : areaL l ≤ (L * W : Nat) := by
  rw [area_sum h]
  have : sumN L (fun i => sumN W (fun j => cntN l i j)) ≤ sumN L (fun _ => sumN W (fun _ => 1)) := sumN_le fun i _ => sumN_le fun j _ => cnt_one hp
  rw [sumN_const, sumN_const, Nat.mul_one] at this
  exact Int.ofNat_le.2 this
end Go.Proofs.YtlmfcigabojbmaaGreatDoor

/- The plan of a shop: plain. -/
namespace Go.Proofs.YtlmfcigabojbmaaGreatDoor

structure Wrk where
  id : List UInt8
  hours : Int
  len : Int
  wid : Int
  after : List (List UInt8)
instance : Inhabited Wrk := ⟨⟨[], 0, 0, 0, []⟩⟩
/-! a place in a bay -/
def rowP (ok : Int → Int → Bool) (xs : List Int) (Y : Int) : Option Int := xs.find? fun X => ok X Y
def hitP (ok : Int → Int → Bool) (xs ys : List Int) : Option (Int × Int) := ys.findSome? fun Y => (rowP ok xs Y).map fun X => (X, Y)
theorem hitP_some {ok : Int → Int → Bool} {xs ys : List Int} {X Y : Int} (h : hitP ok xs ys = some (X, Y)) : X ∈ xs ∧ Y ∈ ys ∧ ok X Y = true := by
  unfold hitP at h
  obtain ⟨Y', hY, h2⟩ := List.exists_of_findSome?_eq_some h
  rw [Option.map_eq_some_iff] at h2
  obtain ⟨X', h3, h4⟩ := h2
  cases h4
  unfold rowP at h3
  have h5 := List.find?_some h3
  exact ⟨List.mem_of_find?_eq_some h3, hY, h5⟩
theorem rowP_miss {ok : Int → Int → Bool} {xs : List Int} {Y : Int} (h : ∀ j, j < xs.length → ok (gz xs j) Y = false) : rowP ok xs Y = none := by
  unfold rowP
  rw [List.find?_eq_none]
  intro X hX
  obtain ⟨j, hj, rfl⟩ := List.mem_iff_getElem.1 hX
  have := h j hj
  rw [gz_lt hj] at this
  rw [this]; decide
theorem rowP_hit {ok : Int → Int → Bool} {xs : List Int} {Y : Int} {k : Nat} (hk : k < xs.length) (h : ∀ j, j < k → ok (gz xs j) Y = false) (ho : ok (gz xs k) Y = true) : rowP ok xs Y = some (gz xs k) := by
  unfold rowP
  rw [List.find?_eq_some_iff_getElem]
  refine ⟨ho, k, hk, (gz_lt hk).symm, fun j hj => ?_⟩
  have := h j hj
  rw [gz_lt (by omega : j < xs.length)] at this
  simp [this]
theorem hitP_miss {ok : Int → Int → Bool} {xs ys : List Int} (h : ∀ j, j < ys.length → rowP ok xs (gz ys j) = none) : hitP ok xs ys = none := by
  unfold hitP
  rw [List.findSome?_eq_none_iff]
  intro Y hY
  obtain ⟨j, hj, rfl⟩ := List.mem_iff_getElem.1 hY
  have := h j hj
  rw [gz_lt hj] at this
  rw [this]; rfl
theorem hitP_hit {ok : Int → Int → Bool} {xs : List Int} {X : Int} : ∀ {ys : List Int} {k : Nat}, k < ys.length → (∀ j, j < k → rowP ok xs (gz ys j) = none) → rowP ok xs (gz ys k) = some X → hitP ok xs ys = some (X, gz ys k)
  | [], k, hk, _, _ => by simp at hk
  | y :: ys, 0, _, _, h => by
    unfold hitP
    have e : gz (y :: ys) 0 = y := rfl
    rw [e] at h ⊢
    rw [List.findSome?_cons, h]; rfl
  | y :: ys, k + 1, hk, h, h2 => by
    have e : gz (y :: ys) 0 = y := rfl
    have h0 := h 0 (by omega)
    rw [e] at h0
    have := hitP_hit (ys := ys) (k := k) (by simpa using hk) (fun j hj => h (j + 1) (by omega)) h2
    unfold hitP at this ⊢
    rw [List.findSome?_cons, h0]
    exact this
/-- the first place of a stay, with its bay and its times -/
def spotF (bays : List DBay) (l : List Ber) (z : Ber) : Option (Int × Int) := hitP (fun X Y => stayE bays (besideL l z) (z.put X Y) == 0) (uq (candX (besideL l z))) (uq (candY (besideL l z)))
/-- the first stay from x.a on -/
def fitF (bays : List DBay) (l : List Ber) (x : Ber) (hours : Int) : Option Ber := (uq (endsL l x.a)).findSome? fun t => bays.findSome? fun b => (spotF bays l (mkBer x.hull b x.len x.wid t (t + hours))).map fun p => (mkBer x.hull b x.len x.wid t (t + hours)).put p.1 p.2
theorem ends_le {l : List Ber} {a t : Int} (h : t ∈ endsL l a) : a ≤ t := by
  unfold endsL at h
  rw [List.mem_cons, List.mem_map] at h
  rcases h with rfl | ⟨u, hu, rfl⟩
  · exact Int.le_refl _
  · have := (List.mem_filter.1 hu).2
    rw [decide_eq_true_eq] at this; omega
/-- who is not beside does not overlap -/
theorem stay_beside {bays : List DBay} {l : List Ber} {z : Ber} (h : stayOk bays (besideL l z) z = true) : stayOk bays l z = true := by
  unfold stayOk at h ⊢
  simp only [Bool.and_eq_true] at h ⊢
  refine ⟨h.1, ?_⟩
  have h2 := h.2
  split at h2
  · cases h2
  · rename_i d hd
    simp only [Bool.and_eq_true, Bool.not_eq_true', List.any_eq_false] at h2 ⊢
    refine ⟨h2.1, fun u hu => ?_⟩
    by_cases hb : (u.dock == z.dock && meetT z u) = true
    · exact h2.2 u (List.mem_filter.2 ⟨hu, hb⟩)
    · intro ho
      unfold overB at ho
      simp only [Bool.and_eq_true] at ho
      apply hb
      rw [Bool.and_eq_true]
      exact ⟨by rw [Bool.beq_comm]; exact ho.1.1, ho.1.2⟩
theorem fitF_some {bays : List DBay} {l : List Ber} {x : Ber} {hours : Int} {y : Ber} (h : fitF bays l x hours = some y) : stayOk bays l y = true ∧ y.hull = x.hull ∧ y.len = x.len ∧ y.wid = x.wid ∧ y.b = y.a + hours ∧ x.a ≤ y.a := by
  unfold fitF at h
  obtain ⟨t, ht, h1⟩ := List.exists_of_findSome?_eq_some h
  obtain ⟨b, hb, h2⟩ := List.exists_of_findSome?_eq_some h1
  rw [Option.map_eq_some_iff] at h2
  obtain ⟨⟨X, Y⟩, h3, rfl⟩ := h2
  unfold spotF at h3
  obtain ⟨_, _, h4⟩ := hitP_some h3
  have h5 := (stayE_iff _ _ _).1 (of_decide_eq_true (by simpa using h4) : stayE bays (besideL l (mkBer x.hull b x.len x.wid t (t + hours))) ((mkBer x.hull b x.len x.wid t (t + hours)).put X Y) = 0)
  rw [← put_beside l _ X Y] at h5
  exact ⟨stay_beside h5, rfl, rfl, rfl, rfl, ends_le (uq_mem.1 ht)⟩
/-! the order -/
def idLt (a b : List UInt8) : Bool := decide (a < b)
/-- may be planned when those of D are -/
def readyW (D : List (List UInt8)) (w : Wrk) : Bool := !D.contains w.id && w.after.all fun a => D.contains a
/-- when all of a list are complete -/
def untilF (after : List (List UInt8)) (out : List Ber) : Int := out.foldl (fun m u => if after.contains u.hull then max m u.b else m) 0
def wrkBer (w : Wrk) (first : Int) : Ber := ⟨w.id, [], 0, 0, w.len, w.wid, first, 0⟩
def planF (bays : List DBay) : List Wrk → List Ber → Option (List Ber)
  | [], out => some out
  | w :: ws, out => match fitF bays out (wrkBer w (untilF w.after out)) w.hours with
    | none => none
    | some y => planF bays ws (out ++ [y])
theorem fold_max (after : List (List UInt8)) : ∀ (out : List Ber) (m : Int), m ≤ out.foldl (fun m u => if after.contains u.hull then max m u.b else m) m ∧ ∀ u ∈ out, after.contains u.hull = true → u.b ≤ out.foldl (fun m u => if after.contains u.hull then max m u.b else m) m
  | [], m => ⟨Int.le_refl _, fun u hu => by cases hu⟩
  | v :: out, m => by
    rw [List.foldl_cons]
    obtain ⟨h1, h2⟩ := fold_max after out (if after.contains v.hull then max m v.b else m)
    refine ⟨Int.le_trans ?_ h1, fun u hu ha => ?_⟩
    · split
      · exact Int.le_max_left ..
      · exact Int.le_refl _
    · rcases List.mem_cons.1 hu with rfl | hu
      · rw [if_pos ha] at h1 ⊢; exact Int.le_trans (Int.le_max_right ..) h1
      · exact h2 u hu ha
theorem until_nonneg (after : List (List UInt8)) (out : List Ber) : 0 ≤ untilF after out := (fold_max after out 0).1
theorem until_ge {after : List (List UInt8)} {out : List Ber} {u : Ber} (hu : u ∈ out) (ha : after.contains u.hull = true) : u.b ≤ untilF after out := (fold_max after out 0).2 u hu ha
theorem until_le {after : List (List UInt8)} {n : Int} (hn : 0 ≤ n) : ∀ {out : List Ber}, (∀ u ∈ out, u.b ≤ n) → untilF after out ≤ n := by
  have gen : ∀ (out : List Ber) (m : Int), m ≤ n → (∀ u ∈ out, u.b ≤ n) → out.foldl (fun m u => if after.contains u.hull then max m u.b else m) m ≤ n := by
    intro out
    induction out with
    | nil => intro m hm _; exact hm
    | cons v out ih =>
      intro m hm h
      rw [List.foldl_cons]
      refine ih _ ?_ fun u hu => h u (List.mem_cons_of_mem _ hu)
      split
      · have := h v (List.mem_cons_self ..); omega
      · exact hm
  exact fun {out} h => gen out 0 hn h
/-- what a stay owes its job -/
structure StayW (out : List Ber) (w : Wrk) (y : Ber) : Prop where
  hull : y.hull = w.id
  len : y.len = w.len
  wid : y.wid = w.wid
  hours : y.b = y.a + w.hours
  after : untilF w.after out ≤ y.a
/-- stays of jobs, one behind another -/
inductive PlanW : List Wrk → List Ber → Prop
  | nil : PlanW [] []
  | snoc {ws out w y} : PlanW ws out → StayW out w y → PlanW (ws ++ [w]) (out ++ [y])
theorem planF_some {bays : List DBay} : ∀ {ws : List Wrk} {out plan : List Ber} {vs : List Wrk}, planOk bays out = true → PlanW vs out → out.length + ws.length ≤ 128 → planF bays ws out = some plan → planOk bays plan = true ∧ PlanW (vs ++ ws) plan
  | [], out, plan, vs, h1, h2, _, h => by
    cases h; rw [List.append_nil]; exact ⟨h1, h2⟩
  | w :: ws, out, plan, vs, h1, h2, hn, h => by
    unfold planF at h
    split at h
    · cases h
    · rename_i y hy
      obtain ⟨f1, f2, f3, f4, f5, f6⟩ := fitF_some hy
      have h3 : planOk bays (out ++ [y]) = true := by
        rw [planOk_snoc h1, f1, decide_eq_true (by simp at hn; omega)]; rfl
      have := planF_some (vs := vs ++ [w]) h3 (.snoc h2 ⟨f2, f3, f4, f5, f6⟩) (by simp at hn ⊢; omega) h
      rwa [List.append_assoc] at this
/-! the floor -/
/-- those of a bay that are there at a time -/
def hereL (plan : List Ber) (bay : List UInt8) (at_ : Int) : List Ber := plan.filter fun u => u.dock == bay && decide (u.a ≤ at_) && decide (at_ < u.b) && sideB u.len && sideB u.wid
theorem plan_pairs {bays : List DBay} {plan : List Ber} (h : planOk bays plan = true) : plan.Pairwise fun a b => overB a b = false := by
  rw [List.pairwise_iff_getElem]
  intro i j hi hj hij
  unfold planOk at h
  simp only [Bool.and_eq_true, List.all_eq_true] at h
  obtain ⟨d, _, _, _, h4⟩ := stay_range (h.2 j (List.mem_range.2 hj))
  rw [List.any_eq_false] at h4
  have := h4 plan[i] (by rw [List.mem_take_iff_getElem]; exact ⟨i, by omega, rfl⟩)
  rw [bri_lt hj] at this
  rw [overB_symm]
  simpa using this
theorem area_plan {bays : List DBay} {plan : List Ber} (h : planOk bays plan = true) {d : DBay} (hd : d ∈ bays) (hs : 1 ≤ d.len ∧ 1 ≤ d.wid) (at_ : Int) : 0 ≤ areaL (hereL plan d.name at_) ∧ areaL (hereL plan d.name at_) ≤ d.len * d.wid := by
  have hf : ∀ u ∈ hereL plan d.name at_, InF d.len.toNat d.wid.toNat u := by
    intro u hu
    have h1 := List.mem_filter.1 hu
    simp only [Bool.and_eq_true, beq_iff_eq] at h1
    obtain ⟨d', e1, e2, e3⟩ := plan_stay h h1.1
    rw [h1.2.1.1.1.1, findD_at h hd] at e1
    cases e1
    have r1 := rangeB_iff.1 e2
    have r2 := fitB_iff.1 e3
    exact ⟨r2.1, r2.2.1, by omega, by omega, by omega, by omega⟩
  have hp : (hereL plan d.name at_).Pairwise fun a b => meetS a b = false := by
    have := (plan_pairs h).filter (fun u => u.dock == d.name && decide (u.a ≤ at_) && decide (at_ < u.b) && sideB u.len && sideB u.wid)
    refine List.Pairwise.imp_of_mem (fun {a b} ha hb hab => ?_) this
    have h1 := (List.mem_filter.1 ha).2
    have h2 := (List.mem_filter.1 hb).2
    simp only [Bool.and_eq_true, beq_iff_eq, decide_eq_true_eq] at h1 h2
    unfold overB at hab
    have e1 : (a.dock == b.dock) = true := by rw [beq_iff_eq, h1.1.1.1.1, h2.1.1.1.1]
    have e2 : meetT a b = true := by unfold meetT; rw [Bool.and_eq_true, decide_eq_true_eq, decide_eq_true_eq]; omega
    rw [e1, e2] at hab
    simpa using hab
  have hle := area_le hf hp
  rw [Int.natCast_mul, Int.toNat_of_nonneg (by omega), Int.toNat_of_nonneg (by omega)] at hle
  refine ⟨?_, hle⟩
  rw [area_sum hf]; exact Int.natCast_nonneg _
/-! the longest chain -/
def maxA (E : List (List UInt8 × Int)) (after : List (List UInt8)) : Int := E.foldl (fun m p => if after.contains p.1 then max m p.2 else m) 0
def critE (ws : List Wrk) : List (List UInt8 × Int) := ws.foldl (fun E w => E ++ [(w.id, maxA E w.after + w.hours)]) []
def critL (ws : List Wrk) : Int := (critE ws).foldl (fun m p => max m p.2) 0
theorem critE_snoc (ws : List Wrk) (w : Wrk) : critE (ws ++ [w]) = critE ws ++ [(w.id, maxA (critE ws) w.after + w.hours)] := by unfold critE; rw [List.foldl_append]; rfl
theorem maxA_le {after : List (List UInt8)} {n : Int} : ∀ (E : List (List UInt8 × Int)) (m : Int), m ≤ n → (∀ p ∈ E, after.contains p.1 = true → p.2 ≤ n) → E.foldl (fun m p => if after.contains p.1 then max m p.2 else m) m ≤ n
  | [], m, hm, _ => hm
  | p :: E, m, hm, h => by
    rw [List.foldl_cons]
    refine maxA_le E _ ?_ fun q hq => h q (List.mem_cons_of_mem _ hq)
    split
    · rename_i ha; have := h p (List.mem_cons_self ..) ha; omega
    · exact hm
/-- no job ends earlier in a plan than in the longest chain to it -/
theorem crit_plan {ws : List Wrk} {out : List Ber} (h : PlanW ws out) : ∀ p ∈ critE ws, ∃ u ∈ out, u.hull = p.1 ∧ p.2 ≤ u.b := by
  induction h with
  | nil => intro p hp; cases hp
  | @snoc ws out w y h hs ih =>
    intro p hp
    rw [critE_snoc] at hp
    rcases List.mem_append.1 hp with hp | hp
    · obtain ⟨u, hu, e1, e2⟩ := ih p hp
      exact ⟨u, List.mem_append_left _ hu, e1, e2⟩
    · rw [List.mem_singleton] at hp
      subst hp
      refine ⟨y, by simp, hs.hull, ?_⟩
      have h1 : maxA (critE ws) w.after ≤ untilF w.after out := maxA_le _ 0 (until_nonneg _ _) fun q hq ha => by
        obtain ⟨u, hu, e1, e2⟩ := ih q hq
        have := until_ge (after := w.after) hu (by rw [e1]; exact ha)
        omega
      have := hs.hours; have := hs.after
      show maxA (critE ws) w.after + w.hours ≤ y.b
      omega
def spanL (plan : List Ber) : Int := plan.foldl (fun m u => max m u.b) 0
theorem span_ge : ∀ (plan : List Ber) (m : Int), m ≤ plan.foldl (fun m u => max m u.b) m ∧ ∀ u ∈ plan, u.b ≤ plan.foldl (fun m u => max m u.b) m
  | [], m => ⟨Int.le_refl _, fun u hu => by cases hu⟩
  | v :: plan, m => by
    rw [List.foldl_cons]
    obtain ⟨h1, h2⟩ := span_ge plan (max m v.b)
    refine ⟨by omega, fun u hu => ?_⟩
    rcases List.mem_cons.1 hu with rfl | hu
    · omega
    · exact h2 u hu
theorem crit_span {ws : List Wrk} {out : List Ber} (h : PlanW ws out) : critL ws ≤ spanL out := by
  have gen : ∀ (E : List (List UInt8 × Int)) (m : Int), m ≤ spanL out → (∀ p ∈ E, p.2 ≤ spanL out) → E.foldl (fun m p => max m p.2) m ≤ spanL out := by
    intro E
    induction E with
    | nil => intro m hm _; exact hm
    | cons p E ih =>
      intro m hm hE
      rw [List.foldl_cons]
      refine ih _ ?_ fun q hq => hE q (List.mem_cons_of_mem _ hq)
      have := hE p (List.mem_cons_self ..)
      omega
  refine gen _ 0 (span_ge out 0).1 fun p hp => ?_
  obtain ⟨u, hu, _, e2⟩ := crit_plan h p hp
  have := (span_ge out 0).2 u hu
  exact Int.le_trans e2 this
theorem planW_len {ws : List Wrk} {out : List Ber} (h : PlanW ws out) : out.length = ws.length := by
  induction h with
  | nil => rfl
  | snoc _ _ ih => simp [ih]
theorem planW_at {ws : List Wrk} {out : List Ber} (h : PlanW ws out) : ∀ k (hk : k < ws.length) (hk' : k < out.length), StayW (out.take k) ws[k] out[k] := by
  induction h with
  | nil => intro k hk; simp at hk
  | @snoc ws out w y h hs ih =>
    intro k hk hk'
    have hl := planW_len h
    by_cases e : k < ws.length
    · have := ih k e (by omega)
      rw [List.getElem_append_left e, List.getElem_append_left (by omega : k < out.length), List.take_append_of_le_length (by omega)]
      exact this
    · have e2 : k = ws.length := by simp at hk; omega
      subst e2
      have : out.length = ws.length := hl
      rw [List.getElem_append_right (Nat.le_refl _), List.getElem_append_right (by omega), List.take_append_of_le_length (by omega), List.take_of_length_le (by omega)]
      simpa [this] using hs
end Go.Proofs.YtlmfcigabojbmaaGreatDoor

/- The order of a shop's jobs: plain. -/
namespace Go.Proofs.YtlmfcigabojbmaaGreatDoor

def leI (a b : List UInt8) : Bool := decide (a ≤ b)
theorem leI_total (a b : List UInt8) : leI a b = true ∨ leI b a = true := by
  unfold leI; simp only [decide_eq_true_eq]; exact List.le_total a b
theorem leI_trans {a b c : List UInt8} (h : leI a b = true) (g : leI b c = true) : leI a c = true := by
  unfold leI at *; simp only [decide_eq_true_eq] at *; exact List.le_trans h g
theorem leI_anti {a b : List UInt8} (h : leI a b = true) (g : leI b a = true) : a = b := by
  unfold leI at *; simp only [decide_eq_true_eq] at *; exact List.le_antisymm h g
def sortW (l : List Wrk) : List Wrk := l.mergeSort fun a b => leI a.id b.id
theorem sortW_mem {l : List Wrk} {w : Wrk} : w ∈ sortW l ↔ w ∈ l := List.mem_mergeSort
theorem sortW_len (l : List Wrk) : (sortW l).length = l.length := List.length_mergeSort ..
theorem sortW_le (l : List Wrk) : (sortW l).Pairwise fun a b => leI a.id b.id = true :=
  List.pairwise_mergeSort (le := fun a b : Wrk => leI a.id b.id) (fun a b c h1 h2 => leI_trans h1 h2) (fun a b => by rw [Bool.or_eq_true]; exact leI_total _ _) l
/-- the next job: the first, by its identifier, that may be planned -/
def nextF (l : List Wrk) (D : List (List UInt8)) : Option Wrk := (sortW l).find? (readyW D)
def ordF (l : List Wrk) : Nat → List Wrk
  | 0 => []
  | n + 1 => match nextF l ((ordF l n).map (·.id)) with
    | none => ordF l n
    | some w => ordF l n ++ [w]
/-- different jobs have different identifiers -/
def Uniq (l : List Wrk) : Prop := ∀ u ∈ l, ∀ v ∈ l, u.id = v.id → u = v
theorem nextF_some {l : List Wrk} {D : List (List UInt8)} {w : Wrk} (h : nextF l D = some w) : w ∈ l ∧ readyW D w = true := ⟨sortW_mem.1 (List.mem_of_find?_eq_some h), List.find?_some h⟩
theorem nextF_none {l : List Wrk} {D : List (List UInt8)} : nextF l D = none ↔ ∀ w ∈ l, readyW D w = false := by
  unfold nextF
  rw [List.find?_eq_none]
  exact ⟨fun h w hw => by simpa using h w (sortW_mem.2 hw), fun h w hw => by rw [h w (sortW_mem.1 hw)]; decide⟩
/-- the least of those that may be planned is the next -/
theorem nextF_least {l : List Wrk} {D : List (List UInt8)} {w : Wrk} (hu : Uniq l) (hw : w ∈ l) (hr : readyW D w = true) (hm : ∀ u ∈ l, readyW D u = true → leI w.id u.id = true) : nextF l D = some w := by
  cases hq : nextF l D with
  | none => have := nextF_none.1 hq w hw; rw [hr] at this; cases this
  | some h =>
    obtain ⟨h1, h2⟩ := nextF_some hq
    have h3 := hm h h1 h2
    unfold nextF at hq
    rw [List.find?_eq_some_iff_append] at hq
    obtain ⟨_, ls, rs, e, hn⟩ := hq
    have hws : w ∈ ls ++ h :: rs := by rw [← e]; exact sortW_mem.2 hw
    have hp := sortW_le l
    rw [e] at hp
    rcases List.mem_append.1 hws with hws | hws
    · have := hn w hws
      rw [hr] at this; cases this
    · rcases List.mem_cons.1 hws with rfl | hws
      · rfl
      · have := (List.pairwise_cons.1 (List.pairwise_append.1 hp).2.1).1 w hws
        rw [hu w hw h h1 (leI_anti h3 this)]
theorem ordF_len (l : List Wrk) : ∀ n, (ordF l n).length ≤ n
  | 0 => Nat.le_refl _
  | n + 1 => by
    have := ordF_len l n
    unfold ordF
    split
    · omega
    · simp; omega
/-- once stuck, for ever -/
theorem ordF_stuck {l : List Wrk} {n : Nat} (h : nextF l ((ordF l n).map (·.id)) = none) : ∀ k, ordF l (n + k) = ordF l n
  | 0 => rfl
  | k + 1 => by
    have e : ordF l (n + (k + 1)) = match nextF l ((ordF l (n + k)).map (·.id)) with | none => ordF l (n + k) | some w => ordF l (n + k) ++ [w] := rfl
    rw [e, ordF_stuck h k, h]
theorem ordF_full {l : List Wrk} {n : Nat} (h : (ordF l n).length = n) : ∀ k, k ≤ n → (ordF l k).length = k := by
  intro k hk
  have h1 := ordF_len l k
  rcases Nat.lt_or_ge (ordF l k).length k with h2 | h2
  · exfalso
    have gen : ∀ m, (ordF l m).length < m → ∀ j, m ≤ j → (ordF l j).length < j := by
      intro m hm j hj
      induction j with
      | zero => omega
      | succ j ih =>
        rcases Nat.lt_or_ge j m with e | e
        · have : m = j + 1 := by omega
          subst this; exact hm
        · have := ih e
          unfold ordF
          split
          · omega
          · simp; omega
    have := gen k h2 n hk
    omega
  · omega
structure OrdW (l : List Wrk) (n : Nat) : Prop where
  mem : ∀ w ∈ ordF l n, w ∈ l
  ready : ∀ k (hk : k < (ordF l n).length), ∀ a ∈ ((ordF l n)[k]).after, a ∈ ((ordF l n).take k).map (·.id)
  new : ((ordF l n).map (·.id)).Nodup
theorem ordW (l : List Wrk) : ∀ n, OrdW l n
  | 0 => ⟨fun w hw => (by cases hw), fun k hk => (by simp [ordF] at hk), List.nodup_nil⟩
  | n + 1 => by
    obtain ⟨h1, h2, h3⟩ := ordW l n
    have e : ordF l (n + 1) = match nextF l ((ordF l n).map (·.id)) with | none => ordF l n | some w => ordF l n ++ [w] := rfl
    cases hq : nextF l ((ordF l n).map (·.id)) with
    | none => rw [hq] at e; simp only at e; exact ⟨by rw [e]; exact h1, by rw [e]; exact h2, by rw [e]; exact h3⟩
    | some w =>
      rw [hq] at e
      simp only at e
      obtain ⟨g1, g2⟩ := nextF_some hq
      unfold readyW at g2
      simp only [Bool.and_eq_true, Bool.not_eq_true', List.all_eq_true, List.contains_iff_mem] at g2
      have g3 : w.id ∉ (ordF l n).map (·.id) := fun hm => by
        have := List.contains_iff_mem.2 hm
        rw [g2.1] at this; cases this
      refine ⟨?_, ?_, ?_⟩
      · rw [e]; intro v hv
        rcases List.mem_append.1 hv with hv | hv
        · exact h1 v hv
        · rw [List.mem_singleton.1 hv]; exact g1
      · rw [e]; intro k hk a ha
        by_cases hlt : k < (ordF l n).length
        · rw [List.getElem_append_left hlt] at ha
          rw [List.take_append_of_le_length (by omega)]
          exact h2 k hlt a ha
        · have hke : k = (ordF l n).length := by simp at hk; omega
          subst hke
          rw [List.take_append_of_le_length (Nat.le_refl _), List.take_length]
          rw [List.getElem_append_right (Nat.le_refl _)] at ha
          simp at ha
          exact g2.2 a ha
      · rw [e, List.map_append]
        exact List.nodup_append.2 ⟨h3, by simp, fun x hx y hy => by simp at hy; subst hy; intro e; subst e; exact g3 hx⟩
theorem planW_ids {ws : List Wrk} {out : List Ber} (h : PlanW ws out) : out.map (·.hull) = ws.map (·.id) := by
  induction h with
  | nil => rfl
  | snoc _ hs ih => simp [ih, hs.hull]
/-- a job begins when those ahead of it are complete -/
theorem plan_order {l : List Wrk} {n : Nat} {plan : List Ber} (hp : PlanW (ordF l n) plan) (k : Nat) (hk : k < (ordF l n).length) (hk' : k < plan.length) : ∀ a ∈ ((ordF l n)[k]).after, ∃ j, ∃ hj : j < plan.length, j < k ∧ plan[j].hull = a ∧ plan[j].b ≤ plan[k].a := by
  intro a ha
  have h1 := (ordW l n).ready k hk a ha
  rw [List.map_take, ← planW_ids hp, ← List.map_take] at h1
  obtain ⟨u, hu, rfl⟩ := List.mem_map.1 h1
  have h2 := (planW_at hp k hk hk').after
  have h3 := until_ge (after := ((ordF l n)[k]).after) hu (List.contains_iff_mem.2 ha)
  rw [List.mem_take_iff_getElem] at hu
  obtain ⟨j, hj, rfl⟩ := hu
  exact ⟨j, by omega, by omega, rfl, by omega⟩
theorem plan_new {l : List Wrk} {n : Nat} {plan : List Ber} (hp : PlanW (ordF l n) plan) : (plan.map (·.hull)).Nodup := by rw [planW_ids hp]; exact (ordW l n).new
/-- jobs are right: names, different ones, sizes; what comes ahead of a job is a job -/
def rangeW (w : Wrk) : Bool := (decide (1 ≤ w.hours) && decide (w.hours ≤ 1048576)) && (sideB w.len && sideB w.wid)
def wri (l : List Wrk) (k : Nat) : Wrk := l.getD k default
theorem wri_lt {l : List Wrk} {k : Nat} (h : k < l.length) : wri l k = l[k] := by simp [wri, h]
theorem wri_mem {l : List Wrk} {k : Nat} (h : k < l.length) : wri l k ∈ l := by rw [wri_lt h]; exact List.getElem_mem h
theorem mem_wri {l : List Wrk} {w : Wrk} (h : w ∈ l) : ∃ k, k < l.length ∧ wri l k = w := by
  obtain ⟨k, hk, rfl⟩ := List.mem_iff_getElem.1 h; exact ⟨k, hk, wri_lt hk⟩
def jobE (l : List Wrk) (i : Nat) : Int := if idB (wri l i).id = false then 6 else if (l.take i).any (fun w => w.id == (wri l i).id) then 7 else if rangeW (wri l i) = false then 9 else 0
def knownB (l : List Wrk) (w : Wrk) : Bool := w.after.all fun a => l.any fun u => u.id == a
def jobsE (l : List Wrk) : Int := if 128 < l.length then 4 else if firstE (jobE l) l.length = 0 then (if l.all (knownB l) then 0 else 8) else firstE (jobE l) l.length
theorem jobs_uniq {l : List Wrk} (h : firstE (jobE l) l.length = 0) : Uniq l := by
  have hj := firstE_iff.1 h
  have key : ∀ i j, i < j → j < l.length → (wri l i).id ≠ (wri l j).id := by
    intro i j hij hj2 e
    have := hj j hj2
    unfold jobE at this
    split at this
    · cases this
    · split at this
      · cases this
      · rename_i h2
        apply h2
        rw [List.any_eq_true]
        exact ⟨wri l i, by rw [List.mem_take_iff_getElem]; exact ⟨i, by omega, (wri_lt (by omega)).symm⟩, by rw [beq_iff_eq]; exact e⟩
  intro u hu v hv e
  obtain ⟨i, hi, rfl⟩ := mem_wri hu
  obtain ⟨j, hj2, rfl⟩ := mem_wri hv
  by_cases h1 : i < j
  · exact absurd e (key i j h1 hj2)
  · by_cases h2 : j < i
    · exact absurd e.symm (key j i h2 hi)
    · have : i = j := by omega
      rw [this]
/-- the error of the order: of the jobs, or a cycle -/
def ordE (l : List Wrk) : Int := if jobsE l = 0 then (if (ordF l l.length).length = l.length then 0 else 20) else jobsE l
/-- the plan, or its error -/
def planR (l : List Wrk) (bays : List DBay) : Int × List Ber := if ordE l = 0 then (if planE bays [] = 0 then (match planF bays (ordF l l.length) [] with | some p => (0, p) | none => (18, [])) else (planE bays [], [])) else (ordE l, [])
theorem plan_good {l : List Wrk} {bays : List DBay} {plan : List Ber} (hn : l.length ≤ 128) (h : planR l bays = (0, plan)) : ordE l = 0 ∧ planOk bays plan = true ∧ PlanW (ordF l l.length) plan ∧ plan.length = l.length := by
  unfold planR at h
  split at h
  · rename_i h1
    split at h
    · rename_i h2
      split at h
      · rename_i p hp
        cases h
        have h3 := (planE_iff bays []).1 h2
        have hl : (ordF l l.length).length = l.length := by
          unfold ordE at h1
          split at h1
          · split at h1
            · assumption
            · cases h1
          · rename_i h4; exact absurd h1 h4
        obtain ⟨g1, g2⟩ := planF_some (vs := []) h3 .nil (by simp; omega) hp
        rw [List.nil_append] at g2
        exact ⟨h1, g1, g2, by rw [planW_len g2, hl]⟩
      · cases h
    · rename_i h2; simp only [Prod.mk.injEq] at h; exact absurd h.1 h2
  · rename_i h1; simp only [Prod.mk.injEq] at h; exact absurd h.1 h1
end Go.Proofs.YtlmfcigabojbmaaGreatDoor

/- The next job, as the reference looks for it: plain. -/
namespace Go.Proofs.YtlmfcigabojbmaaGreatDoor

theorem less_idLt : ∀ a b : List UInt8, Op.bytesLess a b = idLt a b
  | _, [] => by cases ‹List UInt8› <;> rfl
  | [], _ :: _ => rfl
  | x :: a, y :: b => by
    show (decide (x < y) || (x == y && Op.bytesLess a b)) = _
    rw [less_idLt a b]
    unfold idLt
    rw [Bool.eq_iff_iff]
    simp only [Bool.or_eq_true, decide_eq_true_eq, Bool.and_eq_true, beq_iff_eq, List.cons_lt_cons_iff]
theorem leI_of_lt {a b : List UInt8} (h : idLt a b = true) : leI a b = true := by
  unfold idLt at h; unfold leI; rw [decide_eq_true_eq] at *; exact List.le_of_lt h
theorem leI_of_not {a b : List UInt8} (h : idLt a b = false) : leI b a = true := by
  unfold idLt at h; unfold leI; rw [decide_eq_false_iff_not] at h; rw [decide_eq_true_eq]
  exact List.not_lt.1 h
theorem leI_refl (a : List UInt8) : leI a a = true := by unfold leI; rw [decide_eq_true_eq]; exact List.le_refl a
def nxtI (l : List Wrk) (D : List (List UInt8)) : Nat → Int
  | 0 => -1
  | i + 1 => if (readyW D (wri l i) && (decide (nxtI l D i < 0) || idLt (wri l i).id (wri l (nxtI l D i).toNat).id)) = true then i else nxtI l D i
theorem nxtI_spec (l : List Wrk) (D : List (List UInt8)) : ∀ i, (nxtI l D i = -1 ∧ ∀ j, j < i → readyW D (wri l j) = false) ∨ (∃ k : Nat, k < i ∧ nxtI l D i = k ∧ readyW D (wri l k) = true ∧ ∀ j, j < i → readyW D (wri l j) = true → leI (wri l k).id (wri l j).id = true)
  | 0 => .inl ⟨rfl, fun j hj => by omega⟩
  | i + 1 => by
    have hd : nxtI l D (i + 1) = if (readyW D (wri l i) && (decide (nxtI l D i < 0) || idLt (wri l i).id (wri l (nxtI l D i).toNat).id)) = true then (i : Int) else nxtI l D i := rfl
    rw [hd]
    have split_ : ∀ {P : Nat → Prop}, (∀ j, j < i → P j) → P i → ∀ j, j < i + 1 → P j := fun h1 h2 j hj => by
      by_cases e : j = i
      · subst e; exact h2
      · exact h1 j (by omega)
    rcases nxtI_spec l D i with ⟨h1, h2⟩ | ⟨k, h1, h2, h3, h4⟩
    · rw [h1]
      cases hr : readyW D (wri l i) with
      | false => exact .inl ⟨rfl, split_ h2 hr⟩
      | true =>
        refine .inr ⟨i, by omega, rfl, hr, split_ (fun j hj hj2 => ?_) (fun _ => leI_refl _)⟩
        rw [h2 j hj] at hj2; cases hj2
    · rw [h2]
      have hk : ¬ ((k : Int) < 0) := by omega
      rw [decide_eq_false hk, Bool.false_or, Int.toNat_natCast]
      cases hr : readyW D (wri l i) with
      | false =>
        refine .inr ⟨k, by omega, rfl, h3, split_ h4 (fun h => by rw [hr] at h; cases h)⟩
      | true =>
        cases hlt : idLt (wri l i).id (wri l k).id with
        | true => exact .inr ⟨i, by omega, rfl, hr, split_ (fun j hj hj2 => leI_trans (leI_of_lt hlt) (h4 j hj hj2)) (fun _ => leI_refl _)⟩
        | false => exact .inr ⟨k, by omega, rfl, h3, split_ h4 (fun _ => leI_of_not hlt)⟩
theorem nxt_none {l : List Wrk} {D : List (List UInt8)} (h : nxtI l D l.length < 0) : nextF l D = none := by
  rcases nxtI_spec l D l.length with ⟨_, h2⟩ | ⟨k, h1, h2, _⟩
  · rw [nextF_none]
    intro w hw
    obtain ⟨j, hj, rfl⟩ := mem_wri hw
    exact h2 j hj
  · omega
theorem nxt_some {l : List Wrk} {D : List (List UInt8)} (hu : Uniq l) (h : ¬ nxtI l D l.length < 0) : ∃ k : Nat, k < l.length ∧ nxtI l D l.length = k ∧ nextF l D = some (wri l k) := by
  rcases nxtI_spec l D l.length with ⟨h1, _⟩ | ⟨k, h1, h2, h3, h4⟩
  · omega
  · refine ⟨k, h1, h2, nextF_least hu (wri_mem h1) h3 fun u hu2 hr => ?_⟩
    obtain ⟨j, hj, rfl⟩ := mem_wri hu2
    exact h4 j hj hr
theorem ordF_next {l : List Wrk} {n : Nat} {w : Wrk} (h : nextF l ((ordF l n).map (·.id)) = some w) : ordF l (n + 1) = ordF l n ++ [w] := by
  have e : ordF l (n + 1) = match nextF l ((ordF l n).map (·.id)) with | none => ordF l n | some w => ordF l n ++ [w] := rfl
  rw [e, h]
theorem ordE_stuck {l : List Wrk} {n : Nat} (h0 : jobsE l = 0) (hn : n < l.length) (hl : (ordF l n).length = n) (h : nextF l ((ordF l n).map (·.id)) = none) : ordE l = 20 := by
  have e := ordF_stuck h (l.length - n)
  rw [show n + (l.length - n) = l.length by omega] at e
  unfold ordE
  rw [if_pos h0, e, hl, if_neg (by omega)]
theorem ordE_full {l : List Wrk} (h0 : jobsE l = 0) (hl : (ordF l l.length).length = l.length) : ordE l = 0 := by
  unfold ordE; rw [if_pos h0, if_pos hl]
theorem jobs_first {l : List Wrk} (h : jobsE l = 0) : firstE (jobE l) l.length = 0 ∧ ¬ 128 < l.length ∧ ∀ w ∈ l, knownB l w = true := by
  unfold jobsE at h
  split at h
  · cases h
  · rename_i h1
    split at h
    · rename_i h2
      split at h
      · rename_i h3
        exact ⟨h2, h1, List.all_eq_true.1 h3⟩
      · cases h
    · rename_i h2; exact absurd h h2
/-- what the reference's row of taken jobs holds -/
def tkB (l : List Wrk) (D : List (List UInt8)) (i : Nat) : Bool := D.contains (wri l i).id
theorem tk_snoc {l : List Wrk} (hu : Uniq l) (hd : ∀ i j, i < l.length → j < l.length → (wri l i).id = (wri l j).id → i = j) (D : List (List UInt8)) {k i : Nat} (hk : k < l.length) (hi : i < l.length) : tkB l (D ++ [(wri l k).id]) i = (tkB l D i || decide (i = k)) := by
  unfold tkB
  rw [List.contains_append]
  congr 1
  by_cases e : i = k
  · subst e; simp
  · have : (wri l i).id ≠ (wri l k).id := fun h => e (hd i k hi hk h)
    simp [e, this]
theorem jobs_inj {l : List Wrk} (h : firstE (jobE l) l.length = 0) : ∀ i j, i < l.length → j < l.length → (wri l i).id = (wri l j).id → i = j := by
  have hj := firstE_iff.1 h
  have key : ∀ i j, i < j → j < l.length → (wri l i).id ≠ (wri l j).id := by
    intro i j hij hj2 e
    have := hj j hj2
    unfold jobE at this
    split at this
    · cases this
    · split at this
      · cases this
      · rename_i h2
        apply h2
        rw [List.any_eq_true]
        exact ⟨wri l i, by rw [List.mem_take_iff_getElem]; exact ⟨i, by omega, (wri_lt (by omega)).symm⟩, by rw [beq_iff_eq]; exact e⟩
  intro i j hi hj e
  rcases Nat.lt_trichotomy i j with h1 | h1 | h1
  · exact absurd e (key i j h1 hj)
  · exact h1
  · exact absurd e.symm (key j i h1 hi)
end Go.Proofs.YtlmfcigabojbmaaGreatDoor

/- What a plan needs step by step: plain. -/
namespace Go.Proofs.YtlmfcigabojbmaaGreatDoor

theorem fold_le {α : Type} (p : α → Bool) (val : α → Int) : ∀ (l : List α) (m N : Int), l.foldl (fun m u => if p u then max m (val u) else m) m ≤ N ↔ m ≤ N ∧ ∀ u ∈ l, p u = true → val u ≤ N
  | [], m, N => by simp
  | u :: l, m, N => by
    rw [List.foldl_cons, fold_le p val l]
    cases hp : p u with
    | true =>
      rw [if_pos rfl]
      constructor
      · rintro ⟨h1, h2⟩
        refine ⟨by omega, fun v hv hpv => ?_⟩
        rcases List.mem_cons.1 hv with rfl | hv
        · omega
        · exact h2 v hv hpv
      · rintro ⟨h1, h2⟩
        have := h2 u (List.mem_cons_self ..) hp
        exact ⟨by omega, fun v hv => h2 v (List.mem_cons_of_mem _ hv)⟩
    | false =>
      rw [if_neg (by decide)]
      constructor
      · rintro ⟨h1, h2⟩
        refine ⟨h1, fun v hv hpv => ?_⟩
        rcases List.mem_cons.1 hv with rfl | hv
        · rw [hp] at hpv; cases hpv
        · exact h2 v hv hpv
      · rintro ⟨h1, h2⟩
        exact ⟨h1, fun v hv => h2 v (List.mem_cons_of_mem _ hv)⟩
theorem int_ext {a b : Int} (h : ∀ N, a ≤ N ↔ b ≤ N) : a = b := Int.le_antisymm ((h b).2 (Int.le_refl _)) ((h a).1 (Int.le_refl _))
/-- the reference's until: one key after another -/
def inA (plan : List Ber) (a : List UInt8) (n : Int) : Int := plan.foldl (fun n u => if u.hull == a then max n u.b else n) n
def untR (plan : List Ber) (A : List (List UInt8)) (n : Int) : Int := A.foldl (fun n a => inA plan a n) n
theorem untR_le (plan : List Ber) : ∀ (A : List (List UInt8)) (n N : Int), untR plan A n ≤ N ↔ n ≤ N ∧ ∀ a ∈ A, ∀ u ∈ plan, (u.hull == a) = true → u.b ≤ N
  | [], n, N => by simp [untR]
  | a :: A, n, N => by
    have e : untR plan (a :: A) n = untR plan A (inA plan a n) := rfl
    rw [e, untR_le plan A]
    unfold inA
    rw [fold_le (fun u : Ber => u.hull == a) (·.b)]
    constructor
    · rintro ⟨⟨h1, h2⟩, h3⟩
      refine ⟨h1, fun c hc => ?_⟩
      rcases List.mem_cons.1 hc with rfl | hc
      · exact h2
      · exact h3 c hc
    · rintro ⟨h1, h2⟩
      exact ⟨⟨h1, h2 a (List.mem_cons_self ..)⟩, fun c hc => h2 c (List.mem_cons_of_mem _ hc)⟩
theorem untR_eq (plan : List Ber) (A : List (List UInt8)) : untR plan A 0 = untilF A plan := by
  refine int_ext fun N => ?_
  rw [untR_le]
  unfold untilF
  rw [fold_le (fun u : Ber => A.contains u.hull) (·.b)]
  constructor
  · rintro ⟨h1, h2⟩
    exact ⟨h1, fun u hu ha => h2 u.hull (List.contains_iff_mem.1 ha) u hu (by simp)⟩
  · rintro ⟨h1, h2⟩
    refine ⟨h1, fun a ha u hu he => h2 u hu ?_⟩
    rw [eq_of_beq he]; exact List.contains_iff_mem.2 ha
/-! the program's: look each key up -/
def endI (E : List (List UInt8 × Int)) (a : List UInt8) : Int := (E.find? fun p => p.1 == a).elim 0 (·.2)
def lookF (E : List (List UInt8 × Int)) (A : List (List UInt8)) (n : Int) : Int := A.foldl (fun n a => max n (endI E a)) n
theorem endI_le {E : List (List UInt8 × Int)} (hd : (E.map (·.1)).Nodup) (a : List UInt8) {N : Int} (hN : 0 ≤ N) : endI E a ≤ N ↔ ∀ p ∈ E, (p.1 == a) = true → p.2 ≤ N := by
  unfold endI
  cases h : E.find? (fun p => p.1 == a) with
  | none =>
    refine ⟨fun _ p hp he => ?_, fun _ => hN⟩
    have := List.find?_eq_none.1 h p hp
    exact absurd he this
  | some q =>
    have hq := List.find?_some h
    have hm := List.mem_of_find?_eq_some h
    show q.2 ≤ N ↔ _
    refine ⟨fun h2 p hp he => ?_, fun h2 => h2 q hm hq⟩
    have e1 : p.1 = q.1 := (eq_of_beq he).trans (eq_of_beq hq).symm
    have : p = q := by
      obtain ⟨i, hi, rfl⟩ := List.mem_iff_getElem.1 hp
      obtain ⟨j, hj, rfl⟩ := List.mem_iff_getElem.1 hm
      have := (List.getElem_inj (i := i) (j := j) (h₀ := by simpa using hi) (h₁ := by simpa using hj) hd).1 (by simpa using e1)
      subst this; rfl
    rw [this]; exact h2
theorem lookF_le {E : List (List UInt8 × Int)} (hd : (E.map (·.1)).Nodup) : ∀ (A : List (List UInt8)) (n N : Int), 0 ≤ n → (lookF E A n ≤ N ↔ n ≤ N ∧ ∀ a ∈ A, ∀ p ∈ E, (p.1 == a) = true → p.2 ≤ N)
  | [], n, N, _ => by simp [lookF]
  | a :: A, n, N, h0 => by
    have e : lookF E (a :: A) n = lookF E A (max n (endI E a)) := rfl
    rw [e, lookF_le hd A _ _ (by omega)]
    constructor
    · rintro ⟨h1, h2⟩
      refine ⟨by omega, fun c hc => ?_⟩
      rcases List.mem_cons.1 hc with rfl | hc
      · exact (endI_le hd c (by omega)).1 (by omega)
      · exact h2 c hc
    · rintro ⟨h1, h2⟩
      have := (endI_le hd a (N := N) (by omega)).2 (h2 a (List.mem_cons_self ..))
      exact ⟨by omega, fun c hc => h2 c (List.mem_cons_of_mem _ hc)⟩
theorem lookF_max {E : List (List UInt8 × Int)} (hd : (E.map (·.1)).Nodup) (A : List (List UInt8)) : lookF E A 0 = maxA E A := by
  refine int_ext fun N => ?_
  rw [lookF_le hd A 0 N (Int.le_refl _)]
  unfold maxA
  rw [fold_le (fun p : List UInt8 × Int => A.contains p.1) (·.2)]
  constructor
  · rintro ⟨h1, h2⟩
    exact ⟨h1, fun p hp ha => h2 p.1 (List.contains_iff_mem.1 ha) p hp (by simp)⟩
  · rintro ⟨h1, h2⟩
    refine ⟨h1, fun a ha p hp he => h2 p hp ?_⟩
    rw [eq_of_beq he]; exact List.contains_iff_mem.2 ha
def endsE (out : List Ber) : List (List UInt8 × Int) := out.map fun u => (u.hull, u.b)
theorem until_max (out : List Ber) (A : List (List UInt8)) : untilF A out = maxA (endsE out) A := by
  unfold untilF maxA endsE; rw [List.foldl_map]
/-! plans step by step -/
theorem planF_app (bays : List DBay) : ∀ (ws vs : List Wrk) (out : List Ber), planF bays (ws ++ vs) out = (planF bays ws out).bind (planF bays vs)
  | [], vs, out => rfl
  | w :: ws, vs, out => by
    rw [List.cons_append]
    unfold planF
    split
    · rfl
    · exact planF_app bays ws vs _
theorem planF_one (bays : List DBay) (w : Wrk) (out : List Ber) : planF bays [w] out = (fitF bays out (wrkBer w (untilF w.after out)) w.hours).map fun y => out ++ [y] := by
  unfold planF
  cases fitF bays out (wrkBer w (untilF w.after out)) w.hours <;> rfl
theorem plan_more {bays : List DBay} {ws : List Wrk} {k : Nat} (hk : k < ws.length) {out : List Ber} (h : planF bays (ws.take k) [] = some out) {y : Ber} (hy : fitF bays out (wrkBer ws[k] (untilF ws[k].after out)) ws[k].hours = some y) : planF bays (ws.take (k + 1)) [] = some (out ++ [y]) := by
  rw [List.take_succ_eq_append_getElem hk, planF_app, h]
  show planF bays [ws[k]] out = _
  rw [planF_one, hy]; rfl
theorem plan_stop {bays : List DBay} {ws : List Wrk} {k : Nat} (hk : k < ws.length) {out : List Ber} (h : planF bays (ws.take k) [] = some out) (hy : fitF bays out (wrkBer ws[k] (untilF ws[k].after out)) ws[k].hours = none) : planF bays ws [] = none := by
  have e : ws = ws.take (k + 1) ++ ws.drop (k + 1) := (List.take_append_drop (k + 1) ws).symm
  rw [e, planF_app, List.take_succ_eq_append_getElem hk, planF_app, h]
  show (planF bays [ws[k]] out).bind _ = none
  rw [planF_one, hy]; rfl
structure StepP (bays : List DBay) (ws : List Wrk) (k : Nat) (out : List Ber) : Prop where
  f : planF bays (ws.take k) [] = some out
  ok : planOk bays out = true
  w : PlanW (ws.take k) out
  len : out.length = k
theorem StepP.zero {bays : List DBay} (ws : List Wrk) (h : planE bays [] = 0) : StepP bays ws 0 [] := ⟨rfl, (planE_iff bays []).1 h, .nil, rfl⟩
theorem StepP.more {bays : List DBay} {ws : List Wrk} {k : Nat} {out : List Ber} (h : StepP bays ws k out) (hb : planE bays [] = 0) (hk : k < ws.length) (hl : ws.length ≤ 128) {y : Ber} (hy : fitF bays out (wrkBer ws[k] (untilF ws[k].after out)) ws[k].hours = some y) : StepP bays ws (k + 1) (out ++ [y]) := by
  have hf := plan_more hk h.f hy
  obtain ⟨h1, h2⟩ := planF_some (vs := []) ((planE_iff bays []).1 hb) .nil (by simp; omega) hf
  rw [List.nil_append] at h2
  exact ⟨hf, h1, h2, by rw [List.length_append, h.len]; rfl⟩
theorem StepP.until_range {bays : List DBay} {ws : List Wrk} {k : Nat} {out : List Ber} (h : StepP bays ws k out) (A : List (List UInt8)) : 0 ≤ untilF A out ∧ untilF A out ≤ 1048576 := by
  refine ⟨until_nonneg _ _, until_le (by decide) fun u hu => ?_⟩
  obtain ⟨d, _, h2, _⟩ := plan_stay h.ok hu
  have := rangeB_iff.1 h2
  omega
theorem job_right {l : List Wrk} (h : firstE (jobE l) l.length = 0) {w : Wrk} (hw : w ∈ l) : idB w.id = true ∧ rangeW w = true := by
  obtain ⟨k, hk, rfl⟩ := mem_wri hw
  have := (firstE_iff.1 h) k hk
  unfold jobE at this
  split at this
  · cases this
  · rename_i h1
    split at this
    · cases this
    · split at this
      · cases this
      · rename_i h3
        exact ⟨by simpa using h1, by simpa using h3⟩
theorem rangeW_iff {w : Wrk} : rangeW w = true ↔ (1 ≤ w.hours ∧ w.hours ≤ 1048576) ∧ (1 ≤ w.len ∧ w.len ≤ 524288) ∧ (1 ≤ w.wid ∧ w.wid ≤ 524288) := by
  unfold rangeW; simp only [Bool.and_eq_true, decide_eq_true_eq, sideB_iff]
theorem planR_stop {l : List Wrk} {bays : List DBay} (h1 : ordE l = 0) (h2 : planE bays [] = 0) (h3 : planF bays (ordF l l.length) [] = none) : planR l bays = (18, []) := by
  unfold planR; rw [if_pos h1, if_pos h2, h3]
theorem planR_full {l : List Wrk} {bays : List DBay} {p : List Ber} (h1 : ordE l = 0) (h2 : planE bays [] = 0) (h3 : planF bays (ordF l l.length) [] = some p) : planR l bays = (0, p) := by
  unfold planR; rw [if_pos h1, if_pos h2, h3]
theorem planR_bays {l : List Wrk} {bays : List DBay} (h1 : ordE l = 0) (h2 : planE bays [] ≠ 0) : planR l bays = (planE bays [], []) := by
  unfold planR; rw [if_pos h1, if_neg h2]
theorem planR_ord {l : List Wrk} {bays : List DBay} (h1 : ordE l ≠ 0) : planR l bays = (ordE l, []) := by
  unfold planR; rw [if_neg h1]
theorem ordE_jobs {l : List Wrk} (h : ordE l = 0) : jobsE l = 0 ∧ (ordF l l.length).length = l.length := by
  unfold ordE at h
  split at h
  · split at h
    · exact ⟨by assumption, by assumption⟩
    · cases h
  · rename_i h2; exact absurd h h2
end Go.Proofs.YtlmfcigabojbmaaGreatDoor
