/- Certificates in plain Lean: covering prefixes changed, all sequences in order, single jobs. -/
import Derived.Test.YtehbnckdllbmgaaGreatDoorOptSpec
set_option linter.unusedSimpArgs false
set_option linter.unusedVariables false

/- Prefixes that cover all sequences of n jobs, in plain Lean. -/
namespace Go.Proofs.YtehbnckdllbmgaaGreatDoor
/-- l begins with u -/
def begB (u l : List Int) : Bool := decide (l.take u.length = u)
theorem begB_iff {u l : List Int} : begB u l = true ↔ l.take u.length = u := by simp [begB]
theorem begB_len {u l : List Int} (h : begB u l = true) : u.length ≤ l.length := pre_le (begB_iff.1 h)
theorem begB_refl (u : List Int) : begB u u = true := by simp [begB]
theorem begB_nil (l : List Int) : begB [] l = true := by simp [begB]
theorem begB_eq {u l : List Int} (h : begB u l = true) (hl : l.length = u.length) : l = u := by
  have := begB_iff.1 h
  rwa [← hl, List.take_length] at this
theorem begB_trans {u v l : List Int} (h : begB u v = true) (g : begB v l = true) : begB u l = true := by
  have h1 := begB_len h
  rw [begB_iff] at *
  rw [← g, List.take_take, Nat.min_eq_left h1] at h
  exact h
theorem begB_snoc {u l : List Int} (h : begB u l = true) (hl : u.length < l.length) : begB (u ++ [gi l u.length]) l = true := by
  rw [begB_iff] at *
  rw [List.length_append, List.length_singleton, take_succ_gi hl, h]
theorem begB_of_snoc {u l : List Int} {j : Int} (h : begB (u ++ [j]) l = true) : begB u l = true ∧ gi l u.length = j ∧ u.length < l.length := by
  have hl := begB_len h
  simp only [List.length_append, List.length_singleton] at hl
  rw [begB_iff] at *
  refine ⟨?_, ?_, hl⟩
  · have := congrArg (List.take u.length) h
    rw [List.take_take, List.take_left] at this
    rwa [Nat.min_eq_left (by simp)] at this
  · rw [gi_pre h (by simp), gi_append_one]
theorem begB_snoc_iff {u l : List Int} {j : Int} : begB (u ++ [j]) l = true ↔ begB u l = true ∧ gi l u.length = j ∧ u.length < l.length :=
  ⟨begB_of_snoc, fun ⟨h1, h2, h3⟩ => by rw [← h2]; exact begB_snoc h1 h3⟩
/-- two beginnings of one list: the shorter begins the other -/
theorem begB_both {u v l : List Int} (h : begB u l = true) (g : begB v l = true) (hl : u.length ≤ v.length) : begB u v = true := by
  rw [begB_iff] at *
  rw [← g, List.take_take, Nat.min_eq_left hl, h]

/-- a whole sequence of n jobs -/
def WholeN (n : Nat) (l : List Int) : Prop := rightB n l = true ∧ l.length = n
theorem rightB_beg {n : Nat} {u l : List Int} (h : rightB n l = true) (g : begB u l = true) : rightB n u = true := by
  rw [← begB_iff.1 g]; exact rightB_take h _
/-- the jobs that are not in u -/
def restL (n : Nat) (u : List Int) : List Int := (rangeI n).filter fun x => !u.any fun y => x == y
theorem rightB_iff {n : Nat} {l : List Int} : rightB n l = true ↔ l.Nodup ∧ ∀ x ∈ l, 0 ≤ x ∧ x < n := by
  constructor
  · intro h
    refine ⟨rightB_nodup h, fun x hx => ?_⟩
    obtain ⟨k, hk, rfl⟩ := mem_gi hx
    have := rightB_job h hk; omega
  · rintro ⟨h1, h2⟩
    simp only [rightB, decide_eq_true_eq]
    intro i hi
    have := h2 _ (gi_mem hi)
    refine ⟨this.1, this.2, ?_⟩
    rw [List.any_eq_false]
    intro y hy
    rw [List.mem_take_iff_getElem] at hy
    obtain ⟨k, hk, rfl⟩ := hy
    have hk' : k < i := by omega
    rw [List.nodup_iff_pairwise_ne, List.pairwise_iff_getElem] at h1
    have := h1 k i (by omega) hi hk'
    rw [gi_lt hi]
    simpa using fun h => this h.symm
theorem rest_mem {n : Nat} {u : List Int} {x : Int} : x ∈ restL n u ↔ (0 ≤ x ∧ x < n) ∧ x ∉ u := by
  unfold restL
  rw [List.mem_filter, mem_rangeI]
  simp only [Bool.not_eq_true', List.any_eq_false, beq_iff_eq]
  exact ⟨fun ⟨h1, h2⟩ => ⟨h1, fun hx => h2 x hx rfl⟩, fun ⟨h1, h2⟩ => ⟨h1, fun y hy e => h2 (e ▸ hy)⟩⟩
theorem rest_right {n : Nat} {u : List Int} (h : rightB n u = true) : WholeN n (u ++ restL n u) := by
  have h0 := h
  rw [rightB_iff] at h
  have hr : rightB n (u ++ restL n u) = true := by
    rw [rightB_iff]
    refine ⟨?_, fun x hx => ?_⟩
    · rw [List.nodup_append]
      refine ⟨h.1, (rangeI_nodup n).filter _, fun a ha b hb e => ?_⟩
      subst e
      exact (rest_mem.1 hb).2 ha
    · rcases List.mem_append.1 hx with hx | hx
      · exact h.2 x hx
      · exact (rest_mem.1 hx).1
  refine ⟨hr, Nat.le_antisymm (rightB_len hr) ?_⟩
  have := nodup_sub (rangeI n) (u ++ restL n u) (rangeI_nodup n) (fun x hx => by
    rw [mem_rangeI] at hx
    by_cases hu : x ∈ u
    · exact List.mem_append_left _ hu
    · exact List.mem_append_right _ (rest_mem.2 ⟨hx, hu⟩))
  simpa [rangeI] using this
/-- each right beginning goes on to a whole sequence -/
theorem ext_right {n : Nat} {u : List Int} (h : rightB n u = true) : ∃ l, WholeN n l ∧ begB u l = true :=
  ⟨_, rest_right h, by rw [begB_iff]; simp⟩
theorem rightB_snoc' {n : Nat} {l : List Int} {j : Int} (h : rightB n l = true) (h0 : 0 ≤ j) (hj : j < n) (hn : l.any (fun y => j == y) = false) : rightB n (l ++ [j]) = true := by
  have := rightB_snoc (j := j.toNat) h (by omega) (by rw [show ((j.toNat : Nat) : Int) = j by omega]; exact hn)
  rwa [show ((j.toNat : Nat) : Int) = j by omega] at this
theorem right_next {n : Nat} {u l : List Int} (h : rightB n l = true) (g : begB u l = true) (hl : u.length < l.length) : u.any (fun y => gi l u.length == y) = false := by
  simp only [rightB, decide_eq_true_eq] at h
  have := (h _ hl).2.2
  rwa [begB_iff.1 g] at this

/-- whether prefixes that begin with u cover: f jobs are left -/
def covV (n : Nat) : Nat → List Int → List (List Int) → Bool
  | 0, u, L => L.any (fun l => l.length == u.length) && L.length == 1
  | f + 1, u, L => if L.any (fun l => l.length == u.length) then L.length == 1 else !L.isEmpty && (List.range n).all fun (j : Nat) => u.any (fun y => (j : Int) == y) || covV n f (u ++ [(j : Int)]) (L.filter fun l => gi l u.length == (j : Int))
/-- how many of some prefixes a sequence begins with -/
def cntP (L : List (List Int)) (l : List Int) : Nat := L.countP fun u => begB u l

theorem covV_perm {n : Nat} : ∀ (f : Nat) (u : List Int) {L L' : List (List Int)}, L.Perm L' → covV n f u L = covV n f u L'
  | 0, u, L, L', h => by
    have h1 := h.any_eq (f := fun l => l.length == u.length)
    have h2 := h.length_eq
    simp only [covV, h1, h2]
  | f + 1, u, L, L', h => by
    have h1 := h.any_eq (f := fun l => l.length == u.length)
    have h2 := h.length_eq
    have h3 : L.isEmpty = L'.isEmpty := by rw [Bool.eq_iff_iff, List.isEmpty_iff_length_eq_zero, List.isEmpty_iff_length_eq_zero, h2]
    simp only [covV, h1, h2, h3]
    have h4 : ∀ j : Nat, covV n f (u ++ [(j : Int)]) (L.filter fun l => gi l u.length == (j : Int)) = covV n f (u ++ [(j : Int)]) (L'.filter fun l => gi l u.length == (j : Int)) := fun j => covV_perm f _ (h.filter _)
    simp only [h4]

theorem cntP_two {L : List (List Int)} {l : List Int} {i k : Nat} (hi : i < L.length) (hk : k < L.length) (hne : i ≠ k) (h1 : begB (ri L i) l = true) (h2 : begB (ri L k) l = true) : 2 ≤ cntP L l := by
  unfold cntP
  rw [List.countP_eq_length_filter]
  have key : ∀ (a b : Nat), a < b → b < L.length → begB (ri L a) l = true → begB (ri L b) l = true → 2 ≤ (L.filter fun u => begB u l).length := by
    intro a b hab hb ha hb'
    have e1 : L = L.take b ++ L.drop b := (List.take_append_drop b L).symm
    have m1 : ri L a ∈ (L.take b).filter fun u => begB u l := by
      rw [List.mem_filter]
      refine ⟨?_, ha⟩
      rw [ri_lt (by omega), List.mem_take_iff_getElem]
      exact ⟨a, by omega, rfl⟩
    have m2 : ri L b ∈ (L.drop b).filter fun u => begB u l := by
      rw [List.mem_filter]
      refine ⟨?_, hb'⟩
      rw [ri_lt hb, List.mem_drop_iff_getElem]
      exact ⟨0, by omega, by simp⟩
    have := List.length_pos_of_mem m1
    have := List.length_pos_of_mem m2
    rw [e1, List.filter_append, List.length_append]
    omega
  rcases Nat.lt_or_gt_of_ne hne with h | h
  · exact key i k h hk h1 h2
  · exact key k i h hi h2 h1

/-- all of L are right and begin with u -/
def AllBeg (n : Nat) (u : List Int) (L : List (List Int)) : Prop := ∀ l ∈ L, rightB n l = true ∧ begB u l = true
theorem AllBeg.filter {n : Nat} {u : List Int} {L : List (List Int)} (h : AllBeg n u L) (hl : L.any (fun l => l.length == u.length) = false) (j : Int) : AllBeg n (u ++ [j]) (L.filter fun l => gi l u.length == j) := by
  intro l hm
  rw [List.mem_filter] at hm
  obtain ⟨h1, h2⟩ := h l hm.1
  refine ⟨h1, ?_⟩
  rw [List.any_eq_false] at hl
  have h3 := hl l hm.1
  have h4 := begB_len h2
  simp only [beq_iff_eq] at h3
  have h5 : gi l u.length = j := by simpa using hm.2
  rw [← h5]
  exact begB_snoc h2 (by omega)

/-- THE LAW of covering: exactly one of the prefixes begins each whole sequence. -/
theorem covV_iff {n : Nat} : ∀ (f : Nat) (u : List Int) (L : List (List Int)), rightB n u = true → u.length + f = n → AllBeg n u L →
    (covV n f u L = true ↔ ∀ l, WholeN n l → begB u l = true → cntP L l = 1) := by
  intro f u L hu hf hL
  by_cases ha : L.any (fun l => l.length == u.length) = true
  · have e : covV n f u L = (L.length == 1) := by
      cases f with
      | zero => simp only [covV, ha, Bool.true_and]
      | succ f => simp only [covV, ha, if_true]
    rw [e, beq_iff_eq]
    have hm := ha
    rw [List.any_eq_true] at hm
    obtain ⟨l0, hl0, hl0'⟩ := hm
    have hu0 : l0 = u := begB_eq (hL l0 hl0).2 (by simpa using hl0')
    subst hu0
    constructor
    · intro h1 l _ hb
      obtain ⟨x, rfl⟩ : ∃ x, L = [x] := List.length_eq_one_iff.1 h1
      have : l0 = x := by simpa using hl0
      subst this
      simp [cntP, hb]
    · intro h
      apply Decidable.byContradiction
      intro hn
      have hp := List.length_pos_of_mem hl0
      obtain ⟨i, hi, hi'⟩ := mem_ri hl0
      obtain ⟨k, hk, hne⟩ : ∃ k, k < L.length ∧ i ≠ k := by
        by_cases i = 0
        · exact ⟨1, by omega, by omega⟩
        · exact ⟨0, by omega, by omega⟩
      have hkm := hL _ (ri_mem hk)
      obtain ⟨l, hw, hb⟩ := ext_right hkm.1
      have := cntP_two hi hk hne (by rw [hi']; exact begB_trans hkm.2 hb) hb
      have := h l hw (begB_trans hkm.2 hb)
      omega
  · have ha' : L.any (fun l => l.length == u.length) = false := by simpa using ha
    by_cases he : L = []
    · subst he
      obtain ⟨l, hw, hb⟩ := ext_right hu
      constructor
      · intro h; cases f <;> simp [covV] at h
      · intro h; have := h l hw hb; simp [cntP] at this
    · cases f with
      | zero =>
        exfalso
        obtain ⟨x, hx⟩ := List.exists_mem_of_ne_nil _ he
        have h1 := hL x hx
        have h2 := begB_len h1.2
        have h3 := rightB_len h1.1
        rw [List.any_eq_false] at ha'
        have := ha' x hx
        simp only [beq_iff_eq] at this
        omega
      | succ f =>
        have e : covV n (f + 1) u L = (List.range n).all fun (j : Nat) => u.any (fun y => (j : Int) == y) || covV n f (u ++ [(j : Int)]) (L.filter fun l => gi l u.length == (j : Int)) := by
          simp only [covV]
          rw [if_neg ha]
          simp [he]
        rw [e, List.all_eq_true]
        have cf : ∀ l : List Int, WholeN n l → begB u l = true → cntP L l = cntP (L.filter fun x => gi x u.length == gi l u.length) l := by
          intro l hw hb
          unfold cntP
          rw [List.countP_filter]
          apply List.countP_congr
          intro x hx
          have h1 := hL x hx
          rw [List.any_eq_false] at ha'
          have h2 := ha' x hx
          simp only [beq_iff_eq] at h2
          have h3 := begB_len h1.2
          simp only [Bool.and_eq_true, beq_iff_eq]
          constructor
          · intro h; exact ⟨h, (gi_pre (begB_iff.1 h) (by omega)).symm⟩
          · intro h; exact h.1
        constructor
        · intro h l hw hb
          have hul : u.length < l.length := by rw [hw.2]; omega
          have hj := rightB_job hw.1 hul
          have h1 := h (gi l u.length).toNat (List.mem_range.2 hj.2.2)
          rw [show (((gi l u.length).toNat : Nat) : Int) = gi l u.length by omega] at h1
          rw [right_next hw.1 hb hul, Bool.false_or] at h1
          rw [cf l hw hb]
          exact (covV_iff f _ _ (rightB_snoc' hu hj.1 hj.2.1 (right_next hw.1 hb hul)) (by simp; omega) (hL.filter ha' _)).1 h1 l hw (begB_snoc hb hul)
        · intro h j hj
          rw [List.mem_range] at hj
          cases hn : u.any fun y => (j : Int) == y
          · rw [Bool.false_or]
            refine (covV_iff f _ _ (rightB_snoc' hu (by omega) (by omega) hn) (by simp; omega) (hL.filter ha' _)).2 fun l hw hb => ?_
            have hs := begB_of_snoc hb
            have := h l hw hs.1
            rw [cf l hw hs.1, hs.2.1] at this
            exact this
          · rfl

/-- what Covers answers -/
def coversV (n : Int) (L : List (List Int)) : Bool := decide (0 ≤ n ∧ n ≤ 32) && L.all (rightB n.toNat) && covV n.toNat n.toNat [] L
theorem coversV_iff {n : Nat} {L : List (List Int)} (hn : n ≤ 32) : coversV n L = true ↔ (∀ l ∈ L, rightB n l = true) ∧ ∀ l, WholeN n l → cntP L l = 1 := by
  unfold coversV
  simp only [Int.toNat_natCast, Bool.and_eq_true, decide_eq_true_eq, List.all_eq_true]
  constructor
  · rintro ⟨⟨_, h1⟩, h2⟩
    refine ⟨h1, fun l hw => ?_⟩
    exact (covV_iff n [] L (by simp [rightB]) (by simp) (fun l hl => ⟨h1 l hl, begB_nil l⟩)).1 h2 l hw (begB_nil l)
  · rintro ⟨h1, h2⟩
    refine ⟨⟨⟨by omega, by omega⟩, h1⟩, ?_⟩
    exact (covV_iff n [] L (by simp [rightB]) (by simp) (fun l hl => ⟨h1 l hl, begB_nil l⟩)).2 fun l hw _ => h2 l hw
end Go.Proofs.YtehbnckdllbmgaaGreatDoor

/- Lists in ascending order, and how they cover, in plain Lean. -/
namespace Go.Proofs.YtehbnckdllbmgaaGreatDoor
/-- slices.Compare of integers -/
def cmpL : List Int → List Int → Int
  | [], [] => 0
  | [], _ :: _ => -1
  | _ :: _, [] => 1
  | x :: a, y :: b => if x < y then -1 else if y < x then 1 else cmpL a b
theorem cmpL_range : ∀ a b, cmpL a b = -1 ∨ cmpL a b = 0 ∨ cmpL a b = 1
  | [], [] => .inr (.inl rfl)
  | [], _ :: _ => .inl rfl
  | _ :: _, [] => .inr (.inr rfl)
  | x :: a, y :: b => by
    unfold cmpL
    split
    · exact .inl rfl
    · split
      · exact .inr (.inr rfl)
      · exact cmpL_range a b
theorem cmpL_refl : ∀ a, cmpL a a = 0
  | [] => rfl
  | x :: a => by unfold cmpL; simp [cmpL_refl a]
theorem cmpL_anti : ∀ a b, cmpL b a = - cmpL a b
  | [], [] => rfl
  | [], _ :: _ => rfl
  | _ :: _, [] => rfl
  | x :: a, y :: b => by
    unfold cmpL
    by_cases h1 : x < y
    · rw [if_neg (by omega), if_pos h1, if_pos h1]; rfl
    · by_cases h2 : y < x
      · rw [if_pos h2, if_neg h1, if_pos h2]
      · rw [if_neg h2, if_neg h1, if_neg h1, if_neg h2, cmpL_anti a b]
theorem cmpL_eq : ∀ a b, cmpL a b = 0 → a = b
  | [], [], _ => rfl
  | [], _ :: _, h => by simp [cmpL] at h
  | _ :: _, [], h => by simp [cmpL] at h
  | x :: a, y :: b, h => by
    unfold cmpL at h
    by_cases h1 : x < y
    · rw [if_pos h1] at h; omega
    · by_cases h2 : y < x
      · rw [if_neg h1, if_pos h2] at h; omega
      · rw [if_neg h1, if_neg h2] at h
        rw [cmpL_eq a b h, show x = y by omega]
theorem cmpL_tr : ∀ a b c, cmpL a b ≤ 0 → cmpL b c ≤ 0 → cmpL a c ≤ 0
  | [], b, c, _, _ => by cases c <;> simp [cmpL]
  | _ :: _, [], _, h, _ => by simp [cmpL] at h
  | _ :: _, _ :: _, [], _, h => by simp [cmpL] at h
  | x :: a, y :: b, z :: c, h, g => by
    unfold cmpL at h g ⊢
    by_cases h1 : x < y
    · by_cases g1 : z < y
      · rw [if_neg (by omega), if_pos g1] at g; omega
      · rw [if_pos (by omega)]; omega
    · by_cases h2 : y < x
      · rw [if_neg h1, if_pos h2] at h; omega
      · rw [if_neg h1, if_neg h2] at h
        have e : x = y := by omega
        subst e
        by_cases g1 : x < z
        · rw [if_pos g1]; omega
        · by_cases g2 : z < x
          · rw [if_neg g1, if_pos g2] at g; omega
          · rw [if_neg g1, if_neg g2] at g ⊢
            exact cmpL_tr a b c h g
theorem cmpL_at : ∀ (k : Nat) (a b : List Int), k ≤ a.length → k ≤ b.length → (∀ i, i < k → gi a i = gi b i) → cmpL a b = cmpL (a.drop k) (b.drop k)
  | 0, a, b, _, _, _ => rfl
  | k + 1, [], b, h, _, _ => by simp at h
  | k + 1, _ :: _, [], _, h, _ => by simp at h
  | k + 1, x :: a, y :: b, h1, h2, h3 => by
    have e : x = y := h3 0 (by omega)
    subst e
    simp only [List.drop_succ_cons]
    rw [← cmpL_at k a b (by simpa using h1) (by simpa using h2) (fun i hi => h3 (i + 1) (by omega))]
    show (if x < x then (-1 : Int) else if x < x then 1 else cmpL a b) = cmpL a b
    rw [if_neg (by omega), if_neg (by omega)]
theorem drop_gi {a : List Int} {k : Nat} (h : k < a.length) : a.drop k = gi a k :: a.drop (k + 1) := by
  rw [gi_lt h]; exact List.drop_eq_getElem_cons h
/-- the first place where they differ -/
theorem cmpL_ne {a b : List Int} {k : Nat} (h1 : k < a.length) (h2 : k < b.length) (h3 : ∀ i, i < k → gi a i = gi b i) (h4 : gi a k ≠ gi b k) : cmpL a b = if gi a k < gi b k then -1 else 1 := by
  rw [cmpL_at k a b (by omega) (by omega) h3, drop_gi h1, drop_gi h2]
  unfold cmpL
  by_cases h : gi a k < gi b k
  · rw [if_pos h, if_pos h]
  · rw [if_neg h, if_neg h, if_pos (by omega)]
theorem cmpL_more {a b : List Int} (h1 : b.length < a.length) (h3 : ∀ i, i < b.length → gi a i = gi b i) : cmpL a b = 1 := by
  rw [cmpL_at b.length a b (by omega) (Nat.le_refl _) h3, drop_gi h1, List.drop_length]; rfl
theorem cmpL_less {a b : List Int} (h1 : a.length < b.length) (h3 : ∀ i, i < a.length → gi a i = gi b i) : cmpL a b = -1 := by
  rw [cmpL_at a.length a b (Nat.le_refl _) (by omega) h3, drop_gi h1, List.drop_length]; rfl
theorem cmpL_same {a b : List Int} (h1 : a.length = b.length) (h3 : ∀ i, i < a.length → gi a i = gi b i) : cmpL a b = 0 := by
  rw [gi_ext h1 h3, cmpL_refl]

theorem begB_gi {u l : List Int} (h : begB u l = true) {k : Nat} (hk : k < u.length) : gi l k = gi u k := gi_pre (begB_iff.1 h) hk
theorem begB_of_gi {u l : List Int} (hl : u.length ≤ l.length) (h : ∀ k, k < u.length → gi l k = gi u k) : begB u l = true := by
  rw [begB_iff]
  refine gi_ext (by simp; omega) fun i hi => ?_
  simp only [List.length_take] at hi
  rw [gi_take (by omega), h i (by omega)]
theorem begB_cmp {u l : List Int} (h : begB u l = true) (hl : u.length < l.length) : cmpL l u = 1 := cmpL_more hl fun _ hi => begB_gi h hi
/-- of lists that begin with u, one behind the other, the next elements ascend -/
theorem next_le {u a b : List Int} (ha : begB u a = true) (hb : begB u b = true) (h1 : u.length < a.length) (h2 : u.length < b.length) (h : cmpL a b ≤ 0) : gi a u.length ≤ gi b u.length := by
  by_cases e : gi a u.length = gi b u.length
  · omega
  · rw [cmpL_ne h1 h2 (fun i hi => by rw [begB_gi ha hi, begB_gi hb hi]) e] at h
    split at h <;> omega

/-- ascending lists -/
def Asc (L : List (List Int)) : Prop := ∀ i k, i < k → k < L.length → cmpL (ri L i) (ri L k) ≤ 0
theorem asc_first {n : Nat} {u : List Int} {L : List (List Int)} (ha : Asc L) (hL : AllBeg n u L) (h0 : 0 < L.length) : L.any (fun l => l.length == u.length) = ((ri L 0).length == u.length) := by
  rw [Bool.eq_iff_iff, List.any_eq_true]
  constructor
  · rintro ⟨l, hl, h⟩
    obtain ⟨k, hk, rfl⟩ := mem_ri hl
    have he := begB_eq (hL _ hl).2 (by simpa using h)
    by_cases e : k = 0
    · subst e; exact h
    · have hc := ha 0 k (by omega) hk
      have hb := (hL _ (ri_mem h0)).2
      have := begB_len hb
      rw [he] at hc
      rw [beq_iff_eq]
      apply Decidable.byContradiction
      intro hn
      rw [begB_cmp hb (by omega)] at hc
      omega
  · intro h; exact ⟨_, ri_mem h0, h⟩
theorem filter_seg {f : List Int → Bool} {L : List (List Int)} {m e : Nat} (hm : m + e ≤ L.length) (h1 : ∀ i, i < m → f (ri L i) = false) (h2 : ∀ i, m ≤ i → i < m + e → f (ri L i) = true)
    (h3 : ∀ i, m + e ≤ i → i < L.length → f (ri L i) = false) : L.filter f = (L.drop m).take e := by
  have e1 : L = L.take m ++ ((L.drop m).take e ++ (L.drop m).drop e) := by rw [List.take_append_drop, List.take_append_drop]
  have a1 : (L.take m).filter f = [] := by
    rw [List.filter_eq_nil_iff]
    intro x hx
    rw [List.mem_take_iff_getElem] at hx
    obtain ⟨i, hi, rfl⟩ := hx
    have := h1 i (by omega)
    rw [ri_lt (by omega)] at this
    simp [this]
  have a2 : ((L.drop m).take e).filter f = (L.drop m).take e := by
    rw [List.filter_eq_self]
    intro x hx
    rw [List.mem_take_iff_getElem] at hx
    obtain ⟨i, hi, rfl⟩ := hx
    simp only [List.length_drop] at hi
    have := h2 (m + i) (by omega) (by omega)
    rw [ri_lt (by omega)] at this
    simpa using this
  have a3 : ((L.drop m).drop e).filter f = [] := by
    rw [List.filter_eq_nil_iff]
    intro x hx
    rw [List.drop_drop, List.mem_drop_iff_getElem] at hx
    obtain ⟨i, hi, rfl⟩ := hx
    have := h3 (m + e + i) (by omega) (by omega)
    rw [ri_lt (by omega)] at this
    simp [this]
  rw [congrArg (List.filter f) e1, List.filter_append, List.filter_append, a1, a2, a3]; simp
theorem ri_take {L : List (List Int)} {k n : Nat} (h : k < n) : ri (L.take n) k = ri L k := by simp [ri, List.getElem?_take, h]
theorem ri_drop {L : List (List Int)} {k n : Nat} : ri (L.drop n) k = ri L (n + k) := by simp [ri, List.getElem?_drop]
theorem Asc.take {L : List (List Int)} (h : Asc L) (m : Nat) : Asc (L.take m) := by
  intro i k hik hk
  simp only [List.length_take] at hk
  rw [ri_take (by omega), ri_take (by omega)]
  exact h i k hik (by omega)
theorem Asc.drop {L : List (List Int)} (h : Asc L) (m : Nat) : Asc (L.drop m) := by
  intro i k hik hk
  simp only [List.length_drop] at hk
  rw [ri_drop, ri_drop]
  exact h _ _ (by omega) (by omega)
theorem asc_of_pairwise {L : List (List Int)} (h : L.Pairwise fun a b => cmpL a b ≤ 0) : Asc L := by
  rw [List.pairwise_iff_getElem] at h
  intro i k hik hk
  rw [ri_lt (by omega), ri_lt hk]
  exact h i k (by omega) hk hik

/-- state of the loop over the jobs: the first m of L go on with a job before j -/
structure CovAt (n f : Nat) (u : List Int) (L : List (List Int)) (j m : Nat) : Prop where
  le : m ≤ L.length
  lo : ∀ i, i < m → gi (ri L i) u.length < j
  hi : ∀ i, m ≤ i → i < L.length → (j : Int) ≤ gi (ri L i) u.length
  ok : ∀ i : Nat, i < j → u.any (fun y => (i : Int) == y) = true ∨ covV n f (u ++ [(i : Int)]) (L.filter fun l => gi l u.length == (i : Int)) = true
theorem CovAt.start {n f : Nat} {u : List Int} {L : List (List Int)} (hL : AllBeg n u L) (hl : ∀ i, i < L.length → u.length < (ri L i).length) : CovAt n f u L 0 0 :=
  ⟨Nat.zero_le _, fun i h => by omega, fun i _ h => by have := rightB_job (hL _ (ri_mem h)).1 (hl i h); omega, fun i h => by omega⟩
theorem CovAt.skip {n f : Nat} {u : List Int} {L : List (List Int)} {j m : Nat} (h : CovAt n f u L j m) (hL : AllBeg n u L) (hl : ∀ i, i < L.length → u.length < (ri L i).length) (hj : u.any (fun y => (j : Int) == y) = true) : CovAt n f u L (j + 1) m := by
  refine ⟨h.le, fun i hi => by have := h.lo i hi; omega, fun i h1 h2 => ?_, fun i hi => ?_⟩
  · have h3 := h.hi i h1 h2
    have h4 := hL _ (ri_mem h2)
    have h5 := right_next h4.1 h4.2 (hl i h2)
    have : gi (ri L i) u.length ≠ j := fun e => by rw [e, hj] at h5; cases h5
    omega
  · by_cases e : i = j
    · subst e; exact .inl hj
    · exact h.ok i (by omega)
/-- where the run of job j ends -/
def RunAt (u : List Int) (L : List (List Int)) (j m e : Nat) : Prop := m + e ≤ L.length ∧ (∀ i, m ≤ i → i < m + e → gi (ri L i) u.length = j) ∧ (m + e < L.length → gi (ri L (m + e)) u.length ≠ j)
theorem CovAt.run {n f : Nat} {u : List Int} {L : List (List Int)} {j m e : Nat} (h : CovAt n f u L j m) (hr : RunAt u L j m e) (ha : Asc L) (hL : AllBeg n u L) (hl : ∀ i, i < L.length → u.length < (ri L i).length) :
    (L.filter fun l => gi l u.length == (j : Int)) = (L.drop m).take e ∧ (∀ i, m + e ≤ i → i < L.length → (j : Int) + 1 ≤ gi (ri L i) u.length) := by
  obtain ⟨r1, r2, r3⟩ := hr
  have up : ∀ i, m + e ≤ i → i < L.length → (j : Int) + 1 ≤ gi (ri L i) u.length := by
    intro i h1 h2
    have a1 := h.hi (m + e) (by omega) (by omega)
    have a2 := r3 (by omega)
    by_cases e1 : i = m + e
    · subst e1; omega
    · have := next_le (hL _ (ri_mem (show m + e < L.length by omega))).2 (hL _ (ri_mem h2)).2 (hl _ (by omega)) (hl _ h2) (ha (m + e) i (by omega) h2)
      omega
  refine ⟨filter_seg r1 (fun i hi => ?_) (fun i h1 h2 => ?_) (fun i h1 h2 => ?_), up⟩
  · have := h.lo i hi; rw [beq_eq_false_iff_ne]; omega
  · rw [beq_iff_eq]; exact r2 i h1 h2
  · have := up i h1 h2; rw [beq_eq_false_iff_ne]; omega
theorem CovAt.next {n f : Nat} {u : List Int} {L : List (List Int)} {j m e : Nat} (h : CovAt n f u L j m) (hr : RunAt u L j m e) (ha : Asc L) (hL : AllBeg n u L) (hl : ∀ i, i < L.length → u.length < (ri L i).length)
    (hc : covV n f (u ++ [(j : Int)]) ((L.drop m).take e) = true) : CovAt n f u L (j + 1) (m + e) := by
  have hrun := h.run hr ha hL hl
  refine ⟨hr.1, fun i hi => ?_, fun i h1 h2 => by have := hrun.2 i h1 h2; omega, fun i hi => ?_⟩
  · by_cases c : i < m
    · have := h.lo i c; omega
    · have := hr.2.1 i (by omega) hi; omega
  · by_cases e1 : i = j
    · subst e1; right; rw [hrun.1]; exact hc
    · exact h.ok i (by omega)
theorem covV_cons {n f : Nat} {u : List Int} {L : List (List Int)} (h0 : 0 < L.length) (ha : L.any (fun l => l.length == u.length) = false) : covV n (f + 1) u L = (List.range n).all fun (j : Nat) => u.any (fun y => (j : Int) == y) || covV n f (u ++ [(j : Int)]) (L.filter fun l => gi l u.length == (j : Int)) := by
  have he : L.isEmpty = false := by cases L with | nil => simp at h0 | cons _ _ => rfl
  simp [covV, ha, he]
theorem CovAt.done {n f : Nat} {u : List Int} {L : List (List Int)} {m : Nat} (h : CovAt n f u L n m) (h0 : 0 < L.length) (ha : L.any (fun l => l.length == u.length) = false) (hL : AllBeg n u L) (hl : ∀ i, i < L.length → u.length < (ri L i).length) :
    m = L.length ∧ covV n (f + 1) u L = true := by
  refine ⟨?_, ?_⟩
  · apply Decidable.byContradiction
    intro hn
    have hm : m < L.length := by have := h.le; omega
    have := h.hi m (Nat.le_refl _) hm
    have := rightB_job (hL _ (ri_mem hm)).1 (hl m hm)
    omega
  · rw [covV_cons h0 ha, List.all_eq_true]
    intro j hj
    rw [List.mem_range] at hj
    rcases h.ok j hj with h | h
    · rw [h]; rfl
    · rw [h, Bool.or_true]
theorem CovAt.fail {n f : Nat} {u : List Int} {L : List (List Int)} {j m e : Nat} (h : CovAt n f u L j m) (hj : j < n) (hn : u.any (fun y => (j : Int) == y) = false) (hr : RunAt u L j m e) (hA : Asc L) (h0 : 0 < L.length) (ha : L.any (fun l => l.length == u.length) = false)
    (hL : AllBeg n u L) (hl : ∀ i, i < L.length → u.length < (ri L i).length) (hc : covV n f (u ++ [(j : Int)]) ((L.drop m).take e) = false) : covV n (f + 1) u L = false := by
  rw [covV_cons h0 ha, List.all_eq_false]
  refine ⟨j, List.mem_range.2 hj, ?_⟩
  rw [hn, (h.run hr hA hL hl).1, hc]; simp
theorem cov_empty (n f : Nat) (u : List Int) : covV n f u [] = false := by cases f <;> simp [covV]
theorem cov_one {n f : Nat} {u : List Int} {L : List (List Int)} (ha : L.any (fun l => l.length == u.length) = true) : covV n f u L = (L.length == 1) := by cases f <;> simp [covV, ha]
/-- the fuel is enough -/
theorem cov_zero {n : Nat} {u : List Int} {L : List (List Int)} (hu : u.length = n) (hL : AllBeg n u L) (h0 : 0 < L.length) : (ri L 0).length = u.length := by
  have h1 := hL _ (ri_mem h0)
  have := begB_len h1.2
  have := rightB_len h1.1
  omega
end Go.Proofs.YtehbnckdllbmgaaGreatDoor

/- Certificates: Check and Make in plain Lean. -/
namespace Go.Proofs.YtehbnckdllbmgaaGreatDoor
/-- a cut: a beginning and a station -/
abbrev Cut := List Int × Int
def ci (L : List Cut) (k : Nat) : Cut := L.getD k ([], 0)
theorem ci_lt {L : List Cut} {k : Nat} (h : k < L.length) : ci L k = L[k] := by simp [ci, h]
theorem ci_mem {L : List Cut} {k : Nat} (h : k < L.length) : ci L k ∈ L := by rw [ci_lt h]; exact List.getElem_mem h
theorem mem_ci {L : List Cut} {x : Cut} (h : x ∈ L) : ∃ k, k < L.length ∧ ci L k = x := by
  obtain ⟨k, hk, rfl⟩ := List.mem_iff_getElem.1 h; exact ⟨k, hk, ci_lt hk⟩
theorem ci_map {L : List Cut} {k : Nat} : ri (L.map (·.1)) k = (ci L k).1 := by
  unfold ri ci
  rw [List.getD_eq_getElem?_getD, List.getD_eq_getElem?_getD, List.getElem?_map]
  cases L[k]? <;> rfl
def badCut (n : Nat) (s : Int) (c : Cut) : Bool := !rightB n c.1 || decide (c.2 < 0) || decide (s ≤ c.2)
/-- a comes behind b, and does not go on from it -/
def behV (a b : List Int) : Bool := decide (cmpL b a < 0) && !begB b a
/-- the error of the first k cuts -/
def ordE (n : Nat) (s : Int) (L : List Cut) : Nat → Int
  | 0 => 0
  | k + 1 => if ordE n s L k ≠ 0 then ordE n s L k else if badCut n s (ci L k) then 2 else if decide (0 < k) && !behV (ci L k).1 (ci L (k - 1)).1 then 11 else 0
theorem ordE_keep {n : Nat} {s : Int} {L : List Cut} {k : Nat} (h : ordE n s L k ≠ 0) : ∀ m, k ≤ m → ordE n s L m = ordE n s L k
  | 0, hm => by obtain rfl : k = 0 := by omega
                rfl
  | m + 1, hm => by
    by_cases e : k = m + 1
    · subst e; rfl
    · have := ordE_keep h m (by omega)
      show (if ordE n s L m ≠ 0 then _ else _) = _
      rw [if_pos (by rw [this]; exact h), this]
theorem ordE_bad {n : Nat} {s : Int} {L : List Cut} {k : Nat} (h : ordE n s L k = 0) (hb : badCut n s (ci L k) = true) (hk : k < L.length) : ordE n s L L.length = 2 := by
  have e : ordE n s L (k + 1) = 2 := by simp [ordE, h, hb]
  rw [ordE_keep (k := k + 1) (by rw [e]; decide) L.length (by omega), e]
theorem ordE_beh {n : Nat} {s : Int} {L : List Cut} {k : Nat} (h : ordE n s L k = 0) (hb : badCut n s (ci L k) = false) (h0 : 0 < k) (hc : behV (ci L k).1 (ci L (k - 1)).1 = false) (hk : k < L.length) : ordE n s L L.length = 11 := by
  have e : ordE n s L (k + 1) = 11 := by simp [ordE, h, hb, h0, hc]
  rw [ordE_keep (k := k + 1) (by rw [e]; decide) L.length (by omega), e]
theorem ordE_next {n : Nat} {s : Int} {L : List Cut} {k : Nat} (h : ordE n s L k = 0) (hb : badCut n s (ci L k) = false) (hc : k = 0 ∨ behV (ci L k).1 (ci L (k - 1)).1 = true) : ordE n s L (k + 1) = 0 := by
  rcases hc with rfl | hc
  · simp [ordE, hb]
  · simp [ordE, h, hb, hc]
theorem ordE_zero {n : Nat} {s : Int} {L : List Cut} : ∀ k, ordE n s L k = 0 → ∀ i, i < k → badCut n s (ci L i) = false
  | 0, _, i, hi => by omega
  | k + 1, h, i, hi => by
    have h0 : ordE n s L k = 0 := by
      apply Decidable.byContradiction
      intro hn
      rw [ordE_keep hn (k + 1) (by omega)] at h
      exact hn h
    by_cases e : i = k
    · subst e
      cases hb : badCut n s (ci L i)
      · rfl
      · simp [ordE, h0, hb] at h
    · exact ordE_zero k h0 i (by omega)
theorem ordE_ok {n : Nat} {s : Int} {L : List Cut} (h1 : ∀ i, i < L.length → badCut n s (ci L i) = false) (h2 : ∀ i, i + 1 < L.length → behV (ci L (i + 1)).1 (ci L i).1 = true) : ∀ k, k ≤ L.length → ordE n s L k = 0
  | 0, _ => rfl
  | k + 1, hk => ordE_next (ordE_ok h1 h2 k (by omega)) (h1 k (by omega)) (by
    cases k with
    | zero => exact .inl rfl
    | succ k => exact .inr (h2 k (by omega)))
/-- how many stations a shop has, 1 without jobs -/
def stV (p : List (List Int)) : Int := if p.length = 0 then 1 else (ri p 0).length
/-- what a cut shows -/
def boundC (p : List (List Int)) (c : Cut) : Int := if c.1.length = p.length then lenV p c.1 else boundV p c.1 c.2.toNat
/-- what Check answers -/
def checkV (p : List (List Int)) (span : Int) (L : List Cut) : Int :=
  if 20000 < L.length then 4 else if checkE p ≠ 0 then checkE p else
  if ordE p.length (stV p) L L.length ≠ 0 then ordE p.length (stV p) L L.length else
  if coversV p.length (L.map (·.1)) = false then 34 else if L.any (fun c => decide (boundC p c < span)) then 13 else 0
theorem checkV_zero {p : List (List Int)} {span : Int} {L : List Cut} : checkV p span L = 0 ↔ L.length ≤ 20000 ∧ checkE p = 0 ∧ ordE p.length (stV p) L L.length = 0 ∧ coversV p.length (L.map (·.1)) = true ∧ ∀ c ∈ L, span ≤ boundC p c := by
  unfold checkV
  by_cases h1 : 20000 < L.length
  · rw [if_pos h1]; constructor
    · intro h; cases h
    · intro h; omega
  · rw [if_neg h1]
    by_cases h2 : checkE p = 0
    · rw [if_neg (by simp [h2])]
      by_cases h3 : ordE p.length (stV p) L L.length = 0
      · rw [if_neg (by simp [h3])]
        cases h4 : coversV p.length (L.map (·.1))
        · simp
        · rw [if_neg (by simp)]
          cases h5 : L.any fun c => decide (boundC p c < span)
          · rw [if_neg (by simp)]
            rw [List.any_eq_false] at h5
            refine ⟨fun _ => ⟨by omega, h2, h3, rfl, fun c hc => ?_⟩, fun _ => rfl⟩
            have := h5 c hc
            simp only [decide_eq_true_eq] at this
            omega
          · rw [if_pos rfl]
            constructor
            · intro h; cases h
            · rintro ⟨_, _, _, _, h6⟩
              rw [List.any_eq_true] at h5
              obtain ⟨c, hc, h7⟩ := h5
              have := h6 c hc
              simp only [decide_eq_true_eq] at h7
              omega
      · rw [if_pos h3]
        exact ⟨fun h => absurd h h3, fun h => absurd h.2.2.1 h3⟩
    · rw [if_pos h2]
      exact ⟨fun h => absurd h h2, fun h => absurd h.2.1 h2⟩
theorem whole_iff {p : List (List Int)} {l : List Int} : WholeN p.length l ↔ Whole p l := Iff.rfl
theorem cntP_pos {L : List (List Int)} {l : List Int} (h : cntP L l = 1) : ∃ u ∈ L, begB u l = true := by
  have : 0 < L.countP fun u => begB u l := by unfold cntP at h; omega
  rw [List.countP_pos_iff] at this
  exact this
theorem good_le {p : List (List Int)} (hg : Good p) : p.length ≤ 32 := hg.len
/-- what a right cut shows is a bound of all sequences that go on from it -/
theorem boundC_le {p : List (List Int)} (hg : Good p) {c : Cut} (hb : badCut p.length (stV p) c = false) {l : List Int} (hl : Whole p l) (h : begB c.1 l = true) : boundC p c ≤ lenV p l := by
  simp only [badCut, Bool.or_eq_false_iff, Bool.not_eq_false', decide_eq_false_iff_not] at hb
  obtain ⟨⟨h1, h2⟩, h3⟩ := hb
  unfold boundC
  by_cases e : c.1.length = p.length
  · rw [if_pos e, begB_eq h (by rw [hl.2, e])]; exact Int.le_refl _
  · rw [if_neg e]
    have hlen := begB_len h
    rw [hl.2] at hlen
    have hp : 0 < p.length := by omega
    have hs : c.2.toNat < (ri p 0).length := by
      unfold stV at h3; rw [if_neg (by omega)] at h3; omega
    have := bound_le hg hl.1 hl.2 hp hs (k := c.1.length) (by rw [hl.2]; exact hlen)
    rwa [begB_iff.1 h] at this
/-- THE THEOREM of Check -/
theorem check_shows {p : List (List Int)} {span : Int} {L : List Cut} (h : checkV p span L = 0) {l : List Int} (hl : Whole p l) : span ≤ lenV p l := by
  obtain ⟨_, h2, h3, h4, h5⟩ := checkV_zero.1 h
  have hg := checkE_zero h2
  obtain ⟨_, h6⟩ := (coversV_iff hg.len).1 h4
  obtain ⟨u, hu, hb⟩ := cntP_pos (h6 l hl)
  obtain ⟨c, hc, rfl⟩ := List.mem_map.1 hu
  obtain ⟨k, hk, rfl⟩ := mem_ci hc
  exact Int.le_trans (h5 _ hc) (boundC_le hg (ordE_zero _ h3 k hk) hl hb)
theorem check_less {p : List (List Int)} {span x : Int} {L : List Cut} (h : checkV p span L = 0) (hx : x ≤ span) : checkV p x L = 0 := by
  obtain ⟨h1, h2, h3, h4, h5⟩ := checkV_zero.1 h
  exact checkV_zero.2 ⟨h1, h2, h3, h4, fun c hc => Int.le_trans hx (h5 c hc)⟩
/-- a certificate that is right otherwise is not accepted for more than the length of a sequence -/
theorem check_more {p : List (List Int)} {span x : Int} {L : List Cut} (h : checkV p span L = 0) {l : List Int} (hl : Whole p l) (hx : lenV p l < x) : checkV p x L = 13 := by
  obtain ⟨h1, h2, h3, h4, h5⟩ := checkV_zero.1 h
  have hg := checkE_zero h2
  obtain ⟨_, h6⟩ := (coversV_iff hg.len).1 h4
  obtain ⟨u, hu, hb⟩ := cntP_pos (h6 l hl)
  obtain ⟨c, hc, rfl⟩ := List.mem_map.1 hu
  obtain ⟨k, hk, rfl⟩ := mem_ci hc
  have := boundC_le hg (ordE_zero _ h3 k hk) hl hb
  unfold checkV
  rw [if_neg (by omega), if_neg (by simp [h2]), if_neg (by simp [h3]), if_neg (by simp [h4]), if_pos]
  rw [List.any_eq_true]
  exact ⟨_, hc, by simp only [decide_eq_true_eq]; omega⟩

/-! Make -/
structure MS where
  left : Nat
  cuts : List Cut
/-- the first station whose bound is at least the span -/
def stB (p : List (List Int)) (span : Int) (pre : List Int) : Option Nat := (List.range (ri p 0).length).find? fun s => decide (span ≤ boundV p pre s)
def pushM (st : MS) (c : Cut) : Option MS := if st.cuts.length + 1 ≤ 20000 then some { st with cuts := st.cuts ++ [c] } else none
def triesM (f : MS → Nat → Option MS) : Nat → MS → Option MS
  | 0, st => some st
  | j + 1, st => match triesM f j st with
    | none => none
    | some st' => f st' j
def spendM (st : MS) : MS := { st with left := st.left - 1 }
/-- the cuts for a beginning, f jobs being left -/
def und (p : List (List Int)) (span : Int) : Nat → MS → List Int → Option MS
  | 0, st, pre => pushM st (pre, 0)
  | f + 1, st, pre => match stB p span pre with
    | some s => pushM st (pre, (s : Int))
    | none => if st.left = 0 then none else triesM (fun st j => if pre.any (fun y => (j : Int) == y) then some st else und p span f st (pre ++ [(j : Int)])) p.length (spendM st)
def undJob (p : List (List Int)) (span : Int) (f : Nat) (pre : List Int) (st : MS) (j : Nat) : Option MS := if pre.any (fun y => (j : Int) == y) then some st else und p span f st (pre ++ [(j : Int)])
theorem und_zero (p span st pre) : und p span 0 st pre = pushM st (pre, 0) := rfl
theorem und_shown {p span f st pre} {s : Nat} (h : stB p span pre = some s) : und p span (f + 1) st pre = pushM st (pre, (s : Int)) := by simp [und, h]
theorem und_none {p span f st pre} (h : stB p span pre = none) (h2 : st.left = 0) : und p span (f + 1) st pre = none := by simp [und, h, h2]
theorem und_tries {p span f st pre} (h : stB p span pre = none) (h2 : st.left ≠ 0) : und p span (f + 1) st pre = triesM (undJob p span f pre) p.length (spendM st) := by
  simp only [und, h, if_neg h2]; rfl
theorem triesM_succ {f : MS → Nat → Option MS} {j st st'} (h : triesM f j st = some st') : triesM f (j + 1) st = f st' j := by simp [triesM, h]
theorem triesM_none {f : MS → Nat → Option MS} {j st} (h : triesM f j st = none) : ∀ k, j ≤ k → triesM f k st = none
  | 0, hk => by obtain rfl : j = 0 := by omega
                exact h
  | k + 1, hk => by
    by_cases e : j = k + 1
    · subst e; exact h
    · simp [triesM, triesM_none h k (by omega)]
theorem undJob_has {p span f pre st} {j : Nat} (h : pre.any (fun y => (j : Int) == y) = true) : undJob p span f pre st j = some st := by simp only [undJob, h, if_true]
theorem undJob_new {p span f pre st} {j : Nat} (h : pre.any (fun y => (j : Int) == y) = false) : undJob p span f pre st j = und p span f st (pre ++ [(j : Int)]) := by simp only [undJob, h]; rfl
theorem pushM_some {st st' : MS} {c : Cut} (h : pushM st c = some st') : st'.left = st.left ∧ st'.cuts = st.cuts ++ [c] ∧ st'.cuts.length ≤ 20000 := by
  unfold pushM at h
  split at h
  · cases h; refine ⟨rfl, rfl, ?_⟩; simp; omega
  · cases h
theorem pushM_left {st st' : MS} {c : Cut} (h : pushM st c = some st') : st'.left ≤ st.left := by rw [(pushM_some h).1]; exact Nat.le_refl _
theorem triesM_left {f : MS → Nat → Option MS} (h : ∀ st j st', f st j = some st' → st'.left ≤ st.left) : ∀ k st st', triesM f k st = some st' → st'.left ≤ st.left
  | 0, st, st', e => by cases e; exact Nat.le_refl _
  | k + 1, st, st', e => by
    cases e1 : triesM f k st with
    | none => simp [triesM, e1] at e
    | some s1 => rw [triesM_succ e1] at e; exact Nat.le_trans (h _ _ _ e) (triesM_left h k _ _ e1)
theorem und_left (p : List (List Int)) (span : Int) : ∀ (f : Nat) (st : MS) (pre : List Int) (st' : MS), und p span f st pre = some st' → st'.left ≤ st.left
  | 0, st, pre, st', h => pushM_left h
  | f + 1, st, pre, st', h => by
    cases hs : stB p span pre with
    | some s => rw [und_shown hs] at h; exact pushM_left h
    | none =>
      by_cases h0 : st.left = 0
      · rw [und_none hs h0] at h; cases h
      · rw [und_tries hs h0] at h
        have := triesM_left (f := undJob p span f pre) (fun st j st' e => by
          cases hh : pre.any fun y => (j : Int) == y
          · rw [undJob_new hh] at e; exact und_left p span f _ _ _ e
          · rw [undJob_has hh] at e; cases e; exact Nat.le_refl _) _ _ _ h
        simp only [spendM] at this
        omega
theorem stB_some {p : List (List Int)} {span : Int} {pre : List Int} {s : Nat} (h : stB p span pre = some s) : s < (ri p 0).length ∧ span ≤ boundV p pre s := by
  unfold stB at h
  have h1 := List.mem_of_find?_eq_some h
  have h2 := List.find?_some h
  exact ⟨List.mem_range.1 h1, by simpa using h2⟩
theorem stB_hit {p : List (List Int)} {span : Int} {pre : List Int} {s : Nat} (hs : s < (ri p 0).length) (h1 : ∀ j, j < s → decide (span ≤ boundV p pre j) = false) (h2 : span ≤ boundV p pre s) : stB p span pre = some s := by
  unfold stB
  rw [List.find?_eq_some_iff_getElem]
  refine ⟨by simpa using h2, s, by simpa using hs, by simp, fun j hj => ?_⟩
  simp only [List.getElem_range]
  rw [h1 j hj]; rfl
theorem stB_miss {p : List (List Int)} {span : Int} {pre : List Int} (h1 : ∀ j, j < (ri p 0).length → decide (span ≤ boundV p pre j) = false) : stB p span pre = none := by
  unfold stB
  rw [List.find?_eq_none]
  intro j hj
  rw [h1 j (List.mem_range.1 hj)]; simp

/-- what the cuts of a beginning are -/
structure UndOk (p : List (List Int)) (span : Int) (pre : List Int) (new : List Cut) : Prop where
  cut : ∀ c ∈ new, badCut p.length (stV p) c = false ∧ begB pre c.1 = true ∧ span ≤ boundC p c
  pair : new.Pairwise fun a b => behV b.1 a.1 = true
theorem behV_of {u a b : List Int} {i j : Int} (ha : begB (u ++ [i]) a = true) (hb : begB (u ++ [j]) b = true) (h : i < j) : behV b a = true := by
  obtain ⟨a1, a2, a3⟩ := begB_of_snoc ha
  obtain ⟨b1, b2, b3⟩ := begB_of_snoc hb
  have hne : gi a u.length ≠ gi b u.length := by omega
  unfold behV
  rw [cmpL_ne a3 b3 (fun k hk => by rw [begB_gi a1 hk, begB_gi b1 hk]) hne, if_pos (by omega)]
  have : begB a b = false := by
    cases hh : begB a b
    · rfl
    · exact absurd (begB_gi hh a3).symm hne
  rw [this]; rfl
theorem filter_map_none {L : List Cut} {u : List Int} {i : Int} (h : ∀ c ∈ L, gi c.1 u.length ≠ i) : (L.map (·.1)).filter (fun l => gi l u.length == i) = [] := by
  rw [List.filter_eq_nil_iff]
  intro x hx
  obtain ⟨c, hc, rfl⟩ := List.mem_map.1 hx
  simpa using h c hc
theorem filter_map_all {L : List Cut} {u : List Int} {i : Int} (h : ∀ c ∈ L, gi c.1 u.length = i) : (L.map (·.1)).filter (fun l => gi l u.length == i) = L.map (·.1) := by
  rw [List.filter_eq_self]
  intro x hx
  obtain ⟨c, hc, rfl⟩ := List.mem_map.1 hx
  simpa using h c hc
/-- THE THEOREM of Make -/
theorem und_ok {p : List (List Int)} {span : Int} (hg : Good p) (hs : ∀ l, Whole p l → span ≤ lenV p l) : ∀ (f : Nat) (st : MS) (pre : List Int) (st' : MS), pre.length + f = p.length → rightB p.length pre = true → und p span f st pre = some st' → st'.cuts.length ≤ 20000 ∧
    ∃ new, st'.cuts = st.cuts ++ new ∧ UndOk p span pre new ∧ covV p.length f pre (new.map (·.1)) = true
  | 0, st, pre, st', hl, hr, h => by
    obtain ⟨_, h2, h3⟩ := pushM_some h
    have hl' : pre.length = p.length := by omega
    refine ⟨h3, [(pre, 0)], h2, ⟨fun c hc => ?_, List.pairwise_singleton _ _⟩, by simp [covV]⟩
    rw [List.mem_singleton] at hc
    subst hc
    refine ⟨?_, begB_refl pre, ?_⟩
    · simp only [badCut, hr, Bool.not_true, Bool.false_or, Bool.or_eq_false_iff, decide_eq_false_iff_not]
      refine ⟨by omega, ?_⟩
      unfold stV
      split
      · omega
      · rename_i e; have := (hg.st 0 (by omega)).1; omega
    · unfold boundC
      rw [if_pos hl']
      exact hs pre ⟨hr, hl'⟩
  | f + 1, st, pre, st', hl, hr, h => by
    have hp : 0 < p.length := by omega
    cases hb : stB p span pre with
    | some s =>
      rw [und_shown hb] at h
      obtain ⟨_, h2, h3⟩ := pushM_some h
      obtain ⟨s1, s2⟩ := stB_some hb
      refine ⟨h3, [(pre, (s : Int))], h2, ⟨fun c hc => ?_, List.pairwise_singleton _ _⟩, by simp [covV]⟩
      rw [List.mem_singleton] at hc
      subst hc
      refine ⟨?_, begB_refl pre, ?_⟩
      · simp only [badCut, hr, Bool.not_true, Bool.false_or, Bool.or_eq_false_iff, decide_eq_false_iff_not]
        refine ⟨by omega, ?_⟩
        unfold stV
        rw [if_neg (by omega)]
        omega
      · unfold boundC
        rw [if_neg (by dsimp only; omega)]
        simpa using s2
    | none =>
      by_cases h0 : st.left = 0
      · rw [und_none hb h0] at h; cases h
      · rw [und_tries hb h0] at h
        have key : ∀ J, J ≤ p.length → ∀ sJ, triesM (undJob p span f pre) J (spendM st) = some sJ → (J = 0 ∨ sJ.cuts.length ≤ 20000 ∨ sJ.cuts = st.cuts) ∧ ∃ new, sJ.cuts = st.cuts ++ new ∧ UndOk p span pre new ∧ (∀ c ∈ new, pre.length < c.1.length ∧ gi c.1 pre.length < J) ∧
            ∀ i : Nat, i < J → pre.any (fun y => (i : Int) == y) = true ∨ covV p.length f (pre ++ [(i : Int)]) ((new.map (·.1)).filter fun l => gi l pre.length == (i : Int)) = true := by
          intro J
          induction J with
          | zero =>
            intro _ sJ e
            cases e
            exact ⟨.inl rfl, [], by simp [spendM], ⟨fun c hc => (by cases hc), List.Pairwise.nil⟩, fun c hc => (by cases hc), fun i hi => by omega⟩
          | succ J ihJ =>
            intro hJ sJ e
            cases e1 : triesM (undJob p span f pre) J (spendM st) with
            | none => simp [triesM, e1] at e
            | some s1 =>
              rw [triesM_succ e1] at e
              obtain ⟨q1, new, q2, q3, q4, q5⟩ := ihJ (by omega) s1 e1
              cases hh : pre.any fun y => (J : Int) == y
              · rw [undJob_new hh] at e
                obtain ⟨r1, nw, r2, r3, r4⟩ := und_ok hg hs f s1 (pre ++ [(J : Int)]) sJ (by simp; omega) (rightB_snoc hr (by omega) hh) e
                have hnw : ∀ c ∈ nw, begB pre c.1 = true ∧ gi c.1 pre.length = J ∧ pre.length < c.1.length := fun c hc => begB_of_snoc (r3.cut c hc).2.1
                refine ⟨.inr (.inl r1), new ++ nw, by rw [r2, q2, List.append_assoc], ⟨fun c hc => ?_, ?_⟩, fun c hc => ?_, fun i hi => ?_⟩
                · rcases List.mem_append.1 hc with hc | hc
                  · exact q3.cut c hc
                  · have := r3.cut c hc
                    exact ⟨this.1, (hnw c hc).1, this.2.2⟩
                · rw [List.pairwise_append]
                  refine ⟨q3.pair, r3.pair, fun a ha b hb => ?_⟩
                  have a1 := q4 a ha
                  have a2 := q3.cut a ha
                  exact behV_of (u := pre) (begB_snoc a2.2.1 a1.1) (r3.cut b hb).2.1 a1.2
                · rcases List.mem_append.1 hc with hc | hc
                  · have := q4 c hc; omega
                  · have := hnw c hc; omega
                · rw [List.map_append, List.filter_append]
                  by_cases ei : i = J
                  · subst ei
                    right
                    rw [filter_map_none (fun c hc => by have := q4 c hc; omega), filter_map_all (fun c hc => (hnw c hc).2.1), List.nil_append]
                    exact r4
                  · rw [filter_map_none (L := nw) (fun c hc => by have := hnw c hc; omega), List.append_nil]
                    exact q5 i (by omega)
              · rw [undJob_has hh] at e
                cases e
                refine ⟨?_, new, q2, q3, fun c hc => by have := q4 c hc; omega, fun i hi => ?_⟩
                · rcases q1 with rfl | q1
                  · right; right; cases e1; rfl
                  · exact .inr q1
                · by_cases ei : i = J
                  · subst ei; exact .inl hh
                  · exact q5 i (by omega)
        obtain ⟨k1, new, k2, k3, k4, k5⟩ := key p.length (Nat.le_refl _) st' h
        have hpos : 0 < (new.map (·.1)).length ∧ (new.map (·.1)).any (fun l => l.length == pre.length) = false := by
          refine ⟨?_, ?_⟩
          · obtain ⟨l, hw, hbl⟩ := ext_right hr
            have hul : pre.length < l.length := by rw [hw.2]; omega
            have hj := rightB_job hw.1 hul
            have hn := right_next hw.1 hbl hul
            rcases k5 (gi l pre.length).toNat hj.2.2 with h1 | h1
            · rw [show (((gi l pre.length).toNat : Nat) : Int) = gi l pre.length by omega, hn] at h1; cases h1
            · cases new with
              | nil => simp [cov_empty] at h1
              | cons a b => simp
          · rw [List.any_eq_false]
            intro x hx
            obtain ⟨c, hc, rfl⟩ := List.mem_map.1 hx
            have := (k4 c hc).1
            simp only [beq_iff_eq]; omega
        refine ⟨?_, new, k2, k3, ?_⟩
        · rcases k1 with k1 | k1 | k1
          · omega
          · exact k1
          · have : new = [] := by
              rw [k1] at k2
              exact (List.append_right_eq_self.1 k2.symm)
            rw [this] at hpos; simp at hpos
        · rw [covV_cons hpos.1 hpos.2, List.all_eq_true]
          intro j hj
          rw [List.mem_range] at hj
          rcases k5 j hj with h | h
          · rw [h]; rfl
          · rw [h, Bool.or_true]
/-- the certificate of the search from the start is accepted -/
theorem und_check {p : List (List Int)} {span : Int} (hc : checkE p = 0) (hs : ∀ l, Whole p l → span ≤ lenV p l) {n : Nat} {st' : MS} (h : und p span p.length ⟨n, []⟩ [] = some st') : checkV p span st'.cuts = 0 := by
  have hg := checkE_zero hc
  obtain ⟨h1, new, h2, h3, h4⟩ := und_ok hg hs p.length ⟨n, []⟩ [] st' (by simp) (by simp [rightB]) h
  rw [List.nil_append] at h2
  subst h2
  refine checkV_zero.2 ⟨h1, hc, ordE_ok (fun i hi => (h3.cut _ (ci_mem hi)).1) (fun i hi => ?_) _ (Nat.le_refl _), ?_, fun c hc => (h3.cut c hc).2.2⟩
  · have := h3.pair
    rw [List.pairwise_iff_getElem] at this
    rw [ci_lt hi, ci_lt (show i < st'.cuts.length by omega)]
    exact this i (i + 1) (by omega) hi (by omega)
  · unfold coversV
    simp only [Int.toNat_natCast, Bool.and_eq_true, decide_eq_true_eq, List.all_eq_true]
    refine ⟨⟨⟨by omega, by have := hg.len; omega⟩, fun l hl => ?_⟩, h4⟩
    obtain ⟨c, hc, rfl⟩ := List.mem_map.1 hl
    have := (h3.cut c hc).1
    simp only [badCut, Bool.or_eq_false_iff, Bool.not_eq_false'] at this
    exact this.1.1
end Go.Proofs.YtehbnckdllbmgaaGreatDoor

/- Certificates in plain Lean: covering prefixes changed, all sequences in order, single jobs. -/
namespace Go.Proofs.YtehbnckdllbmgaaGreatDoor
theorem cntP_append (A B : List (List Int)) (l : List Int) : cntP (A ++ B) l = cntP A l + cntP B l := by unfold cntP; rw [List.countP_append]
theorem cntP_single (u l : List Int) : cntP [u] l = if begB u l = true then 1 else 0 := by
  unfold cntP; rw [List.countP_singleton]
def lessL (L : List (List Int)) (i : Nat) : List (List Int) := L.take i ++ L.drop (i + 1)
theorem split_ri {L : List (List Int)} {i : Nat} (h : i < L.length) : L = L.take i ++ ([ri L i] ++ L.drop (i + 1)) := by
  rw [ri_lt h, List.singleton_append, ← List.drop_eq_getElem_cons h, List.take_append_drop]
theorem cntP_less {L : List (List Int)} {i : Nat} (h : i < L.length) (l : List Int) : cntP L l = cntP (lessL L i) l + if begB (ri L i) l = true then 1 else 0 := by
  unfold lessL
  rw [congrArg (fun x => cntP x l) (split_ri h), cntP_append, cntP_append, cntP_append, cntP_single]
  omega
theorem mem_lessL {L : List (List Int)} {i : Nat} {x : List Int} (h : x ∈ lessL L i) : x ∈ L := by
  unfold lessL at h
  rcases List.mem_append.1 h with h | h
  · exact List.mem_of_mem_take h
  · exact List.mem_of_mem_drop h
theorem covers_n {n : Int} {L : List (List Int)} (h : coversV n L = true) : ∃ k : Nat, n = k ∧ k ≤ 32 := by
  unfold coversV at h
  simp only [Bool.and_eq_true, decide_eq_true_eq] at h
  exact ⟨n.toNat, by omega, by omega⟩
theorem covers_less {n : Int} {L : List (List Int)} (h : coversV n L = true) {i : Nat} (hi : i < L.length) : coversV n (lessL L i) = false := by
  obtain ⟨k, rfl, hk⟩ := covers_n h
  obtain ⟨h1, h2⟩ := (coversV_iff hk).1 h
  rw [Bool.eq_false_iff]
  intro hc
  obtain ⟨_, h3⟩ := (coversV_iff hk).1 hc
  obtain ⟨l, hw, hb⟩ := ext_right (h1 _ (ri_mem hi))
  have a1 := h2 l hw
  have a2 := h3 l hw
  rw [cntP_less hi, if_pos hb] at a1
  omega
theorem covers_twice {n : Int} {L : List (List Int)} (h : coversV n L = true) {i : Nat} (hi : i < L.length) : coversV n (L ++ [ri L i]) = false := by
  obtain ⟨k, rfl, hk⟩ := covers_n h
  obtain ⟨h1, h2⟩ := (coversV_iff hk).1 h
  rw [Bool.eq_false_iff]
  intro hc
  obtain ⟨_, h3⟩ := (coversV_iff hk).1 hc
  obtain ⟨l, hw, hb⟩ := ext_right (h1 _ (ri_mem hi))
  have a1 := h2 l hw
  have a2 := h3 l hw
  rw [cntP_append, cntP_single, if_pos hb] at a2
  omega
/-- the extensions of u by the jobs before k -/
def extL (u : List Int) : Nat → List (List Int)
  | 0 => []
  | k + 1 => if u.any (fun y => (k : Int) == y) then extL u k else extL u k ++ [u ++ [(k : Int)]]
theorem mem_extL {u x : List Int} : ∀ {k : Nat}, x ∈ extL u k → ∃ j : Nat, j < k ∧ u.any (fun y => (j : Int) == y) = false ∧ x = u ++ [(j : Int)]
  | 0, h => by cases h
  | k + 1, h => by
    unfold extL at h
    cases hh : u.any fun y => (k : Int) == y
    · rw [hh, if_neg (by simp)] at h
      rcases List.mem_append.1 h with h | h
      · obtain ⟨j, a, b, c⟩ := mem_extL h; exact ⟨j, by omega, b, c⟩
      · rw [List.mem_singleton] at h; exact ⟨k, by omega, hh, h⟩
    · rw [hh, if_pos rfl] at h
      obtain ⟨j, a, b, c⟩ := mem_extL h; exact ⟨j, by omega, b, c⟩
theorem cnt_ext {u l : List Int} (hb : begB u l = true) (hl : u.length < l.length) (hn : u.any (fun y => gi l u.length == y) = false) : ∀ k : Nat, cntP (extL u k) l = if 0 ≤ gi l u.length ∧ gi l u.length < k then 1 else 0
  | 0 => by rw [if_neg (by omega)]; rfl
  | k + 1 => by
    unfold extL
    have ih := cnt_ext hb hl hn k
    cases hh : u.any fun y => (k : Int) == y
    · rw [if_neg (by simp), cntP_append, ih, cntP_single]
      by_cases e : gi l u.length = k
      · rw [if_neg (by omega), if_pos (begB_snoc_iff.2 ⟨hb, e, hl⟩), if_pos (by omega)]
      · rw [if_neg (fun h => e (begB_of_snoc h).2.1)]
        by_cases c : 0 ≤ gi l u.length ∧ gi l u.length < k
        · rw [if_pos c, if_pos (by omega)]
        · rw [if_neg c, if_neg (by omega)]
    · rw [if_pos rfl, ih]
      have e : gi l u.length ≠ k := fun e => by rw [e, hh] at hn; cases hn
      by_cases c : 0 ≤ gi l u.length ∧ gi l u.length < k
      · rw [if_pos c, if_pos (by omega)]
      · rw [if_neg c, if_neg (by omega)]
theorem cnt_ext0 {u l : List Int} (hb : begB u l = false) (k : Nat) : cntP (extL u k) l = 0 := by
  unfold cntP
  rw [List.countP_eq_zero]
  intro x hx
  obtain ⟨j, _, _, rfl⟩ := mem_extL hx
  intro h
  rw [(begB_of_snoc h).1] at hb
  cases hb
theorem covers_parts {n : Nat} {L : List (List Int)} (h : coversV n L = true) {i : Nat} (hi : i < L.length) (hne : (ri L i).length ≠ n) : coversV n (lessL L i ++ extL (ri L i) n) = true := by
  obtain ⟨k, e, hk⟩ := covers_n h
  obtain rfl : n = k := by omega
  obtain ⟨h1, h2⟩ := (coversV_iff hk).1 h
  have hr := h1 _ (ri_mem hi)
  refine (coversV_iff hk).2 ⟨fun l hl => ?_, fun l hw => ?_⟩
  · rcases List.mem_append.1 hl with hl | hl
    · exact h1 _ (mem_lessL hl)
    · obtain ⟨j, a, b, rfl⟩ := mem_extL hl
      exact rightB_snoc hr a b
  · have a1 := h2 l hw
    rw [cntP_less hi] at a1
    rw [cntP_append]
    cases hb : begB (ri L i) l
    · rw [cnt_ext0 hb]; rw [hb] at a1; simpa using a1
    · have hlen := rightB_len hr
      have hul : (ri L i).length < l.length := by rw [hw.2]; omega
      have hj := rightB_job hw.1 hul
      rw [cnt_ext hb hul (right_next hw.1 hb hul), if_pos ⟨hj.1, hj.2.1⟩]
      rw [hb, if_pos rfl] at a1
      omega

/-! all sequences in their order -/
def seqs (n : Nat) : Nat → List Int → List (List Int)
  | 0, u => [u]
  | f + 1, u => (List.range n).flatMap fun (j : Nat) => if u.any (fun y => (j : Int) == y) then [] else seqs n f (u ++ [(j : Int)])
theorem mem_seqs {n : Nat} {l : List Int} (hw : WholeN n l) : ∀ (f : Nat) (u : List Int), u.length + f = n → begB u l = true → l ∈ seqs n f u
  | 0, u, hf, hb => by simp only [seqs, List.mem_singleton]; exact begB_eq hb (by rw [hw.2]; omega)
  | f + 1, u, hf, hb => by
    have hul : u.length < l.length := by rw [hw.2]; omega
    have hj := rightB_job hw.1 hul
    simp only [seqs, List.mem_flatMap, List.mem_range]
    refine ⟨(gi l u.length).toNat, hj.2.2, ?_⟩
    rw [show (((gi l u.length).toNat : Nat) : Int) = gi l u.length by omega, right_next hw.1 hb hul, if_neg (by simp)]
    exact mem_seqs hw f _ (by simp; omega) (begB_snoc hb hul)
theorem seqs_whole {n : Nat} : ∀ (f : Nat) (u : List Int), u.length + f = n → rightB n u = true → ∀ l ∈ seqs n f u, WholeN n l
  | 0, u, hf, hr, l, hl => by simp only [seqs, List.mem_singleton] at hl; subst hl; exact ⟨hr, by omega⟩
  | f + 1, u, hf, hr, l, hl => by
    simp only [seqs, List.mem_flatMap, List.mem_range] at hl
    obtain ⟨j, hj, hl⟩ := hl
    cases hh : u.any fun y => (j : Int) == y
    · rw [hh, if_neg (by simp)] at hl
      exact seqs_whole f _ (by simp; omega) (rightB_snoc hr hj hh) l hl
    · rw [hh, if_pos rfl] at hl; cases hl
def permL (n : Nat) : List (List Int) := seqs n n []
theorem covers_once {n : Nat} (hn : n ≤ 32) {L : List (List Int)} : coversV n L = (L.all (rightB n) && (permL n).all fun l => cntP L l == 1) := by
  rw [Bool.eq_iff_iff, coversV_iff hn]
  simp only [Bool.and_eq_true, List.all_eq_true, beq_iff_eq]
  constructor
  · rintro ⟨h1, h2⟩
    exact ⟨h1, fun l hl => h2 l (seqs_whole n [] (by simp) (by simp [rightB]) l hl)⟩
  · rintro ⟨h1, h2⟩
    exact ⟨h1, fun l hl => h2 l (mem_seqs hl n [] (by simp) (begB_nil l))⟩

/-! the permutation behind another one -/
/-- the last place before which a list ascends, counted from i - 1 downwards; 0: none -/
def downI (l : List Int) : Nat → Nat
  | 0 => 0
  | i + 1 => if gi l (i + 1) < gi l i then downI l i else i + 1
def downK (l : List Int) (x : Int) : Nat → Nat
  | 0 => 0
  | k + 1 => if gi l (k + 1) < x then downK l x k else k + 1
/-- what is behind place i, backwards; place k has l[i] -/
def backL (l : List Int) (i k : Nat) : Nat → List Int
  | 0 => []
  | m + 1 => (if i + (m + 1) = k then gi l i else gi l (i + (m + 1))) :: backL l i k m
/-- the next permutation -/
def nextV (l : List Int) : Option (List Int) := match downI l (l.length - 1) with
  | 0 => none
  | i + 1 => some (l.take i ++ [gi l (downK l (gi l i) (l.length - 1))] ++ backL l i (downK l (gi l i) (l.length - 1)) (l.length - 1 - i))
/-- the lists come one behind the other, and none behind the last -/
def chainB : List (List Int) → Bool
  | [] => true
  | [l] => (nextV l).isNone
  | a :: b :: r => (nextV a == some b) && chainB (b :: r)
theorem permL_chain {n : Nat} (h : n ≤ 5) : chainB (permL n) = true ∧ (permL n).head? = some (rangeI n) := by
  have : n = 0 ∨ n = 1 ∨ n = 2 ∨ n = 3 ∨ n = 4 ∨ n = 5 := by omega
  rcases this with rfl | rfl | rfl | rfl | rfl | rfl <;> decide +kernel

/-! single jobs -/
def soleL (s : Int) (n : Nat) : List Cut := (List.range n).map fun (j : Nat) => ([(j : Int)], s)
theorem soleL_succ (s : Int) (n : Nat) : soleL s (n + 1) = soleL s n ++ [([(n : Int)], s)] := by unfold soleL; rw [List.range_succ, List.map_append]; rfl
theorem soleL_len (s : Int) (n : Nat) : (soleL s n).length = n := by simp [soleL]
theorem soleL_ci {s : Int} {n k : Nat} (h : k < n) : ci (soleL s n) k = ([(k : Int)], s) := by
  rw [ci_lt (by rw [soleL_len]; exact h)]; simp [soleL]
/-- the least of the bounds of the first k jobs -/
def minB (p : List (List Int)) (s : Nat) : Nat → Int
  | 0 => 0
  | k + 1 => if k = 0 ∨ boundV p [(k : Int)] s < minB p s k then boundV p [(k : Int)] s else minB p s k
theorem minB_le {p : List (List Int)} {s : Nat} : ∀ {k j : Nat}, j < k → minB p s k ≤ boundV p [(j : Int)] s
  | k + 1, j, h => by
    unfold minB
    by_cases e : j = k
    · subst e; split <;> omega
    · have := minB_le (p := p) (s := s) (show j < k by omega)
      split <;> omega
theorem minB_at {p : List (List Int)} {s : Nat} : ∀ {k : Nat}, 0 < k → ∃ j, j < k ∧ minB p s k = boundV p [(j : Int)] s
  | k + 1, _ => by
    unfold minB
    by_cases c : k = 0 ∨ boundV p [(k : Int)] s < minB p s k
    · rw [if_pos c]; exact ⟨k, by omega, rfl⟩
    · rw [if_neg c]
      obtain ⟨j, hj, e⟩ := minB_at (p := p) (s := s) (show 0 < k by omega)
      exact ⟨j, by omega, e⟩
theorem right_one {n : Nat} {j : Nat} (h : j < n) : rightB n [(j : Int)] = true := by
  have := rightB_snoc (n := n) (l := []) (j := j) (by simp [rightB]) h (by simp)
  simpa using this
theorem sole_cnt {l : List Int} (h0 : 0 < l.length) : ∀ n : Nat, cntP ((soleL 0 n).map (·.1)) l = if 0 ≤ gi l 0 ∧ gi l 0 < n then 1 else 0
  | 0 => by rw [if_neg (by omega)]; rfl
  | n + 1 => by
    rw [soleL_succ, List.map_append, cntP_append, sole_cnt h0 n]
    simp only [List.map_cons, List.map_nil]
    rw [cntP_single]
    have hb : begB [(n : Int)] l = true ↔ gi l 0 = n := by
      have := begB_snoc_iff (u := []) (l := l) (j := n)
      simp only [List.nil_append, List.length_nil] at this
      rw [this]
      exact ⟨fun h => h.2.1, fun h => ⟨begB_nil l, h, h0⟩⟩
    by_cases e : gi l 0 = n
    · rw [if_neg (by omega), if_pos (hb.2 e), if_pos (by omega)]
    · rw [if_neg (fun h => e (hb.1 h))]
      by_cases c : 0 ≤ gi l 0 ∧ gi l 0 < n
      · rw [if_pos c, if_pos (by omega)]
      · rw [if_neg c, if_neg (by omega)]
theorem sole_map (s : Int) (n : Nat) : (soleL s n).map (·.1) = (soleL 0 n).map (·.1) := by simp [soleL]
theorem sole_check {p : List (List Int)} (hc : checkE p = 0) (h2 : 2 ≤ p.length) {s : Nat} (hs : s < (ri p 0).length) (x : Int) : checkV p x (soleL s p.length) = if x ≤ minB p s p.length then 0 else 13 := by
  have hg := checkE_zero hc
  have h32 := hg.len
  have ho : ordE p.length (stV p) (soleL s p.length) (soleL s p.length).length = 0 := by
    refine ordE_ok (fun i hi => ?_) (fun i hi => ?_) _ (Nat.le_refl _)
    · rw [soleL_len] at hi
      rw [soleL_ci hi]
      simp only [badCut, right_one hi, Bool.not_true, Bool.false_or, Bool.or_eq_false_iff, decide_eq_false_iff_not]
      refine ⟨by omega, ?_⟩
      unfold stV; rw [if_neg (by omega)]; omega
    · rw [soleL_len] at hi
      rw [soleL_ci hi, soleL_ci (by omega)]
      have := behV_of (u := []) (a := [(i : Int)]) (b := [((i + 1 : Nat) : Int)]) (i := i) (j := (i + 1 : Nat)) (begB_refl _) (begB_refl _) (by omega)
      exact this
  have hcv : coversV p.length ((soleL s p.length).map (·.1)) = true := by
    refine (coversV_iff h32).2 ⟨fun l hl => ?_, fun l hw => ?_⟩
    · simp only [soleL, List.map_map, List.mem_map, List.mem_range] at hl
      obtain ⟨j, hj, rfl⟩ := hl
      exact right_one hj
    · have h0 : 0 < l.length := by rw [hw.2]; omega
      have hj := rightB_job hw.1 h0
      rw [sole_map, sole_cnt h0, if_pos ⟨hj.1, hj.2.1⟩]
  have hb : ∀ c ∈ soleL s p.length, ∃ j : Nat, j < p.length ∧ boundC p c = boundV p [(j : Int)] s := by
    intro c hcm
    simp only [soleL, List.mem_map, List.mem_range] at hcm
    obtain ⟨j, hj, rfl⟩ := hcm
    refine ⟨j, hj, ?_⟩
    unfold boundC
    rw [if_neg (by simp only [List.length_singleton]; omega)]
    simp
  by_cases c : x ≤ minB p s p.length
  · rw [if_pos c]
    refine checkV_zero.2 ⟨by rw [soleL_len]; omega, hc, ho, hcv, fun c hcm => ?_⟩
    obtain ⟨j, hj, e⟩ := hb c hcm
    rw [e]
    have := minB_le (p := p) (s := s) hj
    omega
  · rw [if_neg c]
    unfold checkV
    rw [if_neg (by rw [soleL_len]; omega), if_neg (by simp [hc]), if_neg (by simp [ho]), if_neg (by simp [hcv]), if_pos]
    obtain ⟨j, hj, e⟩ := minB_at (p := p) (s := s) (show 0 < p.length by omega)
    rw [List.any_eq_true]
    refine ⟨([(j : Int)], s), ?_, ?_⟩
    · simp only [soleL, List.mem_map, List.mem_range]; exact ⟨j, hj, rfl⟩
    · unfold boundC
      rw [if_neg (by simp only [List.length_singleton]; omega)]
      simp only [decide_eq_true_eq, Int.toNat_natCast]
      omega
end Go.Proofs.YtehbnckdllbmgaaGreatDoor
