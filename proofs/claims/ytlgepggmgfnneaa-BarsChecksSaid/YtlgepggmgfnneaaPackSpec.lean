/- Which numbers of bars suffice, and the least of them; in plain Lean. -/
import Derived.Test.YtlgepggmgfnneaaAllSpec
namespace Go.Proofs.Ytlgepggmgfnneaa

/-- what the pieces with a label need -/
def load : List Int → List Nat → Nat → Int
  | x :: xs, k :: ks, b => (if k = b then x else 0) + load xs ks b
  | _, _, _ => 0
theorem load_nil (ls b) : load [] ls b = 0 := by cases ls <;> rfl
theorem load_cons (x xs k ks b) : load (x :: xs) (k :: ks) b = (if k = b then x else 0) + load xs ks b := rfl
theorem load_nn {xs : List Int} (h : ∀ x ∈ xs, 0 ≤ x) : ∀ ls b, 0 ≤ load xs ls b := by
  induction xs with
  | nil => intro ls b; rw [load_nil]; omega
  | cons x xs ih =>
    intro ls b
    cases ls with
    | nil => exact Int.le_refl _
    | cons k ks =>
      rw [load_cons]
      have := ih (fun y hy => h y (by simp [hy])) ks b
      have := h x (by simp)
      split <;> omega
theorem load_out {xs : List Int} : ∀ {ls : List Nat} {b : Nat}, b ∉ ls → load xs ls b = 0 := by
  induction xs with
  | nil => intro ls b _; rw [load_nil]
  | cons x xs ih =>
    intro ls b h
    cases ls with
    | nil => rfl
    | cons k ks =>
      simp only [List.mem_cons, not_or] at h
      rw [load_cons, ih h.2, if_neg (fun e => h.1 e.symm)]; rfl

/-- m bars suffice -/
def Packs (c : Int) (nd : List Int) (m : Nat) : Prop := ∃ ls : List Nat, ls.length = nd.length ∧ (∀ k ∈ ls, k < m) ∧ ∀ b, load nd ls b ≤ c

theorem alls_sound {c : Int} {xs : List Int} : ∀ {fr : List Int} {r}, r ∈ alls c xs fr → (∀ b, b < fr.length → 0 ≤ gi fr b) → (∀ x ∈ xs, x ≤ c) → 0 ≤ c →
    (∀ k ∈ r.1, k < r.2) ∧ (∀ b, b < fr.length → load xs r.1 b ≤ gi fr b) ∧ (∀ b, fr.length ≤ b → load xs r.1 b ≤ c) ∧ (∀ b, fr.length ≤ b → b < r.2 → b ∈ r.1) := by
  induction xs with
  | nil =>
    intro fr r h hf _ hc
    rw [alls_nil, List.mem_singleton] at h
    subst h
    refine ⟨fun k hk => absurd hk (by simp), fun b hb => ?_, fun b _ => ?_, fun b h1 h2 => by dsimp only at h2; omega⟩
    · rw [load_nil]; exact hf b hb
    · rw [load_nil]; exact hc
  | cons x xs ih =>
    intro fr r h hf hx hc
    rw [mem_alls_cons] at h
    rcases h with ⟨k, q, hk, hxk, hq, rfl⟩ | ⟨q, hq, rfl⟩
    · have hq' := alls_ge hq
      obtain ⟨i1, i2, i3, i4⟩ := ih hq (fun b hb => by
        rw [List.length_set] at hb
        rw [gi_setB hk]; split
        · omega
        · exact hf b hb) (fun y hy => hx y (by simp [hy])) hc
      rw [List.length_set] at i2 i3 i4 hq'
      refine ⟨fun j hj => ?_, fun b hb => ?_, fun b hb => ?_, fun b h1 h2 => by simp; exact .inr (i4 b h1 h2)⟩
      · rcases List.mem_cons.1 hj with rfl | hj
        · dsimp only; omega
        · exact i1 j hj
      · rw [load_cons]
        have := i2 b hb
        rw [gi_setB hk] at this
        by_cases e : k = b
        · subst e; simp at this ⊢; omega
        · rw [if_neg e]; rw [if_neg (fun h => e h.symm)] at this; omega
      · rw [load_cons, if_neg (by omega)]
        have := i3 b hb; omega
    · have hq' := alls_ge hq
      have hxc := hx x (by simp)
      obtain ⟨i1, i2, i3, i4⟩ := ih hq (fun b hb => by
        simp at hb
        by_cases e : b < fr.length
        · rw [gi_append_left e]; exact hf b e
        · obtain rfl : b = fr.length := by omega
          rw [gi_append_one]; omega) (fun y hy => hx y (by simp [hy])) hc
      simp only [List.length_append, List.length_singleton] at i2 i3 i4 hq'
      refine ⟨fun j hj => ?_, fun b hb => ?_, fun b hb => ?_, fun b h1 h2 => ?_⟩
      · rcases List.mem_cons.1 hj with rfl | hj
        · dsimp only; omega
        · exact i1 j hj
      · rw [load_cons, if_neg (by omega)]
        have := i2 b (by omega)
        rw [gi_append_left hb] at this; omega
      · rw [load_cons]
        by_cases e : fr.length = b
        · subst e
          have := i2 fr.length (by omega)
          rw [gi_append_one] at this
          simp; omega
        · rw [if_neg e]
          have := i3 b (by omega); omega
      · dsimp only at h2 ⊢
        by_cases e : b = fr.length
        · subst e; simp
        · simp; exact .inr (i4 b (by omega) h2)

theorem alls_complete {c : Int} {xs : List Int} : ∀ {fr : List Int} {ls lab : List Nat}, ls.length = xs.length → lab.length = fr.length → lab.Nodup → (∀ x ∈ xs, 0 ≤ x) →
    (∀ b, b < fr.length → load xs ls (lab.getD b 0) ≤ gi fr b) → (∀ q, q ∉ lab → load xs ls q ≤ c) → ∃ r ∈ alls c xs fr, ∃ lab' : List Nat, lab'.Nodup ∧ (∀ q ∈ lab', q ∈ lab ∨ q ∈ ls) ∧ r.2 = lab'.length := by
  induction xs with
  | nil =>
    intro fr ls lab _ h2 h3 _ _ _
    exact ⟨_, by rw [alls_nil]; exact List.mem_singleton.2 rfl, lab, h3, fun q hq => .inl hq, h2.symm⟩
  | cons x xs ih =>
    intro fr ls lab h1 h2 h3 h4 h5 h6
    cases ls with
    | nil => simp at h1
    | cons q ls =>
      have hx := h4 x (by simp)
      have hn := load_nn (xs := xs) (fun y hy => h4 y (by simp [hy])) ls
      have h4' : ∀ y ∈ xs, 0 ≤ y := fun y hy => h4 y (by simp [hy])
      by_cases hq : q ∈ lab
      · obtain ⟨k, hk, he⟩ := List.mem_iff_getElem.1 hq
        have hk' : k < fr.length := by omega
        have hgk : lab.getD k 0 = q := by simp [hk, he]
        have h5k := h5 k hk'
        rw [hgk, load_cons, if_pos rfl] at h5k
        have := hn q
        obtain ⟨r, hr, lab', hl1, hl2, hl3⟩ := ih (fr := fr.set k (gi fr k - x)) (ls := ls) (lab := lab) (by simpa using h1) (by simpa using h2) h3 h4' (fun b hb => by
            rw [List.length_set] at hb
            have hb5 := h5 b hb
            rw [load_cons] at hb5
            rw [gi_setB hk']
            by_cases e : b = k
            · subst e; rw [hgk]; simp; omega
            · rw [if_neg e]
              have : q ≠ lab.getD b 0 := by
                rw [← hgk]
                have := List.pairwise_iff_getElem.1 h3
                have hb' : b < lab.length := by omega
                simp only [List.getD_eq_getElem?_getD, List.getElem?_eq_getElem hk, List.getElem?_eq_getElem hb', Option.getD_some]
                rcases Nat.lt_or_gt_of_ne e with h | h
                · exact fun e2 => this b k hb' hk h e2.symm
                · exact fun e2 => this k b hk hb' h e2
              rw [if_neg this] at hb5
              omega) (fun p hp => by
            have := h6 p hp
            rw [load_cons, if_neg (fun e : q = p => hp (by rw [← e]; exact hq))] at this; omega)
        exact ⟨_, mem_alls_cons.2 (.inl ⟨k, r, hk', by omega, hr, rfl⟩), lab', hl1, fun p hp => by
          rcases hl2 p hp with h | h
          · exact .inl h
          · exact .inr (by simp [h]), hl3⟩
      · have h6q := h6 q hq
        rw [load_cons, if_pos rfl] at h6q
        obtain ⟨r, hr, lab', hl1, hl2, hl3⟩ := ih (fr := fr ++ [c - x]) (ls := ls) (lab := lab ++ [q]) (by simpa using h1) (by simp; omega) (by
            rw [List.nodup_append]
            exact ⟨h3, by simp, fun a ha b hb e => by simp at hb; subst hb; subst e; exact hq ha⟩) h4' (fun b hb => by
            simp at hb
            by_cases e : b < fr.length
            · rw [gi_append_left e]
              have hb5 := h5 b e
              rw [load_cons] at hb5
              have e2 : (lab ++ [q]).getD b 0 = lab.getD b 0 := by simp [List.getElem?_append_left (show b < lab.length by omega)]
              rw [e2]
              split at hb5 <;> omega
            · obtain rfl : b = fr.length := by omega
              rw [gi_append_one]
              have e2 : (lab ++ [q]).getD fr.length 0 = q := by rw [← h2]; simp
              rw [e2]; omega) (fun p hp => by
            simp at hp
            have := h6 p hp.1
            rw [load_cons, if_neg (fun e => hp.2 e.symm)] at this; omega)
        exact ⟨_, mem_alls_cons.2 (.inr ⟨r, hr, rfl⟩), lab', hl1, fun p hp => by
          rcases hl2 p hp with h | h
          · simp at h
            rcases h with h | h
            · exact .inl h
            · exact .inr (by simp [h])
          · exact .inr (by simp [h]), hl3⟩

theorem nodup_boundN {l : List Nat} {m : Nat} (h : l.Nodup) (hb : ∀ x ∈ l, x < m) : l.length ≤ m := by
  have := List.Nodup.length_le_of_subset h (l₂ := List.range m) (fun x hx => List.mem_range.2 (hb x hx))
  simpa using this

/-- the result of the search for the least -/
def bestS (c : Int) (nd : List Int) : BestS := plB c nd [] [] ([], nd.length + 1)

theorem alls_ne {c : Int} {xs : List Int} : ∀ fr, ∃ r, r ∈ alls c xs fr := by
  induction xs with
  | nil => intro fr; exact ⟨_, List.mem_singleton.2 rfl⟩
  | cons x xs ih =>
    intro fr
    obtain ⟨r, hr⟩ := ih (fr ++ [c - x])
    exact ⟨_, mem_alls_cons.2 (.inr ⟨r, hr, rfl⟩)⟩
theorem bestS_first (c : Int) (nd : List Int) : (bestS c nd).2 ≤ nd.length ∧ dv c (bestS c nd).2 nd [] = some (bestS c nd) ∧ ∀ r ∈ alls c nd [], (bestS c nd).2 ≤ r.2 := by
  have e : bestS c nd = (alls c nd []).foldl better ([], nd.length + 1) := by
    unfold bestS plB
    congr 1
    simp
  rcases fold_first (alls c nd []) ([], nd.length + 1) with ⟨h1, _⟩ | ⟨m, h1, h2, h3, h4⟩
  · obtain ⟨r, hr⟩ := alls_ne (c := c) (xs := nd) []
    have := alls_ge hr
    have := h1 r hr
    simp at *
    omega
  · rw [← e] at h2 h3
    subst h2
    exact ⟨by dsimp only at h1; omega, h3, h4⟩
theorem bestS_mem (c : Int) (nd : List Int) : bestS c nd ∈ alls c nd [] := List.mem_of_find?_eq_some (bestS_first c nd).2.1
theorem dv_less {c : Int} {nd : List Int} {n : Nat} (h : n < (bestS c nd).2) : dv c n nd [] = none := by
  rw [dv_none]
  intro r hr
  have := (bestS_first c nd).2.2 r hr
  omega
structure NeedOK (c : Int) (nd : List Int) : Prop where
  nn : ∀ x ∈ nd, 0 ≤ x ∧ x ≤ c
  cap : 0 ≤ c
theorem bestS_packs {c : Int} {nd : List Int} (h : NeedOK c nd) : Packs c nd (bestS c nd).2 := by
  have hs := alls_sound (bestS_mem c nd) (fun b hb => by simp at hb) (fun x hx => (h.nn x hx).2) h.cap
  exact ⟨_, (alls_ge (bestS_mem c nd)).2.2, hs.1, fun b => hs.2.2.1 b (Nat.zero_le _)⟩
theorem bestS_least {c : Int} {nd : List Int} (h : NeedOK c nd) {m : Nat} (hp : Packs c nd m) : (bestS c nd).2 ≤ m := by
  obtain ⟨ls, h1, h2, h3⟩ := hp
  obtain ⟨r, hr, lab', a1, a2, a3⟩ := alls_complete (c := c) (xs := nd) (fr := []) (ls := ls) (lab := []) h1 rfl List.nodup_nil (fun x hx => (h.nn x hx).1) (fun b hb => by simp at hb) (fun q _ => h3 q)
  have := (bestS_first c nd).2.2 r hr
  have := nodup_boundN (m := m) a1 (fun x hx => h2 x (by
    rcases a2 x hx with h | h
    · cases h
    · exact h))
  omega

/-! the sum of the loads -/
def sumTo (f : Nat → Int) : Nat → Int
  | 0 => 0
  | m + 1 => sumTo f m + f m
theorem sumTo_add (f g : Nat → Int) (m) : sumTo (fun b => f b + g b) m = sumTo f m + sumTo g m := by
  induction m with
  | zero => rfl
  | succ m ih => simp only [sumTo, ih]; omega
theorem sumTo_one (k : Nat) (x : Int) (m) : sumTo (fun b => if k = b then x else 0) m = if k < m then x else 0 := by
  induction m with
  | zero => simp [sumTo]
  | succ m ih =>
    rw [sumTo, ih]
    by_cases e : k = m
    · subst e; simp
    · rw [if_neg e]
      by_cases e2 : k < m
      · rw [if_pos e2, if_pos (by omega)]; omega
      · rw [if_neg e2, if_neg (by omega)]; omega
theorem sumTo_zero (m) : sumTo (fun _ => 0) m = 0 := by
  induction m with
  | zero => rfl
  | succ m ih => rw [sumTo, ih]; rfl
theorem sumTo_le {f : Nat → Int} {c : Int} {m : Nat} (h : ∀ b, b < m → f b ≤ c) : sumTo f m ≤ m * c := by
  induction m with
  | zero => simp [sumTo]
  | succ m ih =>
    rw [sumTo]
    have h1 := ih fun b hb => h b (by omega)
    have h2 := h m (by omega)
    rw [Int.natCast_add, Int.add_mul]
    simp; omega
theorem load_sum {xs : List Int} : ∀ {ls : List Nat} {m : Nat}, ls.length = xs.length → (∀ k ∈ ls, k < m) → sumTo (load xs ls) m = xs.sum := by
  induction xs with
  | nil => intro ls m _ _; have : load [] ls = fun _ => 0 := by funext b; exact load_nil _ _
           rw [this, sumTo_zero]; rfl
  | cons x xs ih =>
    intro ls m h h2
    cases ls with
    | nil => simp at h
    | cons k ks =>
      have : load (x :: xs) (k :: ks) = fun b => (if k = b then x else 0) + load xs ks b := by funext b; rfl
      rw [this, sumTo_add, sumTo_one, if_pos (h2 k (by simp)), ih (by simpa using h) (fun j hj => h2 j (by simp [hj])), List.sum_cons]
theorem packs_sum {c : Int} {nd : List Int} {m : Nat} (h : Packs c nd m) : nd.sum ≤ m * c := by
  obtain ⟨ls, h1, h2, h3⟩ := h
  rw [← load_sum h1 h2]
  exact sumTo_le fun b _ => h3 b

/-! what lengths need -/
def ndL (l : List Int) (k : Int) : List Int := l.map (· + k)
theorem ndL_length (l k) : (ndL l k).length = l.length := by simp [ndL]
theorem ndL_sum (l k) : (ndL l k).sum = l.sum + l.length * k := by
  unfold ndL
  induction l with
  | nil => simp
  | cons x l ih =>
    rw [List.map_cons, List.sum_cons, ih, List.sum_cons, List.length_cons, Int.natCast_add, Int.add_mul]
    simp; omega
theorem gi_ndL {l : List Int} {k : Int} {i : Nat} (h : i < l.length) : gi (ndL l k) i = gi l i + k := by
  rw [gi_lt (by rw [ndL_length]; exact h), gi_lt h]; simp [ndL]
theorem good_need {l : List Int} {s k : Int} (h : GoodB l s k) : NeedOK (s + k) (ndL l k) := by
  refine ⟨fun x hx => ?_, by have := h.stock; have := h.kerf; omega⟩
  simp only [ndL, List.mem_map] at hx
  obtain ⟨y, hy, rfl⟩ := hx
  have := h.side y hy
  have := h.kerf
  omega
/-- the least number of bars -/
def leastV (l : List Int) (s k : Int) : Nat := (bestS (s + k) (ndL l k)).2
theorem bound_le {l : List Int} {s k : Int} (h : GoodB l s k) {m : Nat} (hp : Packs (s + k) (ndL l k) m) : boundV l s k ≤ m := by
  have h1 := packs_sum hp
  rw [ndL_sum] at h1
  have hc : 0 < s + k := by have := h.stock; have := h.kerf; omega
  unfold boundV
  have : (l.sum + (l.length : Int) * k + (s + k) - 1) / (s + k) < m + 1 := by
    apply Int.ediv_lt_of_lt_mul hc
    rw [Int.add_mul]
    omega
  omega
theorem bound_least {l : List Int} {s k : Int} (h : GoodB l s k) : boundV l s k ≤ leastV l s k := bound_le h (bestS_packs (good_need h))
theorem bound_nn {l : List Int} {s k : Int} (h : GoodB l s k) : 0 ≤ boundV l s k := by
  unfold boundV
  have hc : 0 < s + k := by have := h.stock; have := h.kerf; omega
  have h1 : 0 ≤ l.sum := (sum_le (b := 32768) (by omega) fun x hx => by have := h.side x hx; omega).1
  have h2 := Int.mul_nonneg (show 0 ≤ (l.length : Int) by omega) h.kerf.1
  exact Int.ediv_nonneg (by omega) (by omega)
end Go.Proofs.Ytlgepggmgfnneaa
