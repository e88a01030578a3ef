/- Johnson's rule is optimal for two stations, in plain Lean. -/
import Derived.Test.YtijapbfkpmphpaaLowSpec
namespace Go.Proofs.Ytijapbfkpmphpaa

/-- one job more on two stations -/
def st2 (p : List (List Int)) (t : Int × Int) (j : Int) : Int × Int := (t.1 + mA p j, max t.2 (t.1 + mA p j) + mB p j)
def run2 (p : List (List Int)) (t : Int × Int) (l : List Int) : Int × Int := l.foldl (st2 p) t

theorem run2_mono (p : List (List Int)) : ∀ (l : List Int) (t u : Int × Int), t.1 ≤ u.1 → t.2 ≤ u.2 → (run2 p t l).1 ≤ (run2 p u l).1 ∧ (run2 p t l).2 ≤ (run2 p u l).2
  | [], _, _, h1, h2 => ⟨h1, h2⟩
  | j :: l, t, u, h1, h2 => run2_mono p l _ _ (by simp only [st2]; omega) (by simp only [st2]; omega)
theorem run2_cons (p t j l) : run2 p t (j :: l) = run2 p (st2 p t j) l := rfl

/-- two neighbours that stand the wrong way round -/
theorem swap2 (p : List (List Int)) (t : Int × Int) (x y : Int) (h : befV p y x = true) : (st2 p (st2 p t y) x).1 ≤ (st2 p (st2 p t x) y).1 ∧ (st2 p (st2 p t y) x).2 ≤ (st2 p (st2 p t x) y).2 := by
  rw [befV_iff] at h
  have h1 := cJ_lt p x y
  have h2 := cJ_lt p y x
  simp only [st2]
  generalize mA p x = a at *
  generalize mA p y = b at *
  generalize mB p x = c at *
  generalize mB p y = d at *
  refine ⟨by omega, ?_⟩
  rcases h with h | ⟨h, h', _⟩
  · rw [h2] at h
    rcases h with h | h | h <;> omega
  · have n1 : ¬((a ≤ c ∧ d < b) ∨ (a ≤ c ∧ b ≤ d ∧ a < b) ∨ (c < a ∧ d < b ∧ d < c)) := fun k => h' (h1.2 k)
    have n2 : ¬((b ≤ d ∧ c < a) ∨ (b ≤ d ∧ a ≤ c ∧ b < a) ∨ (d < b ∧ c < a ∧ c < d)) := fun k => h (h2.2 k)
    omega

/-- a job put in its place -/
def ins2 (p : List (List Int)) (x : Int) : List Int → List Int
  | [] => [x]
  | y :: l => if befV p x y then x :: y :: l else y :: ins2 p x l
def sort2 (p : List (List Int)) : List Int → List Int
  | [] => []
  | x :: l => ins2 p x (sort2 p l)
theorem ins2_perm (p : List (List Int)) (x : Int) : ∀ l, (ins2 p x l).Perm (x :: l)
  | [] => List.Perm.refl _
  | y :: l => by
    unfold ins2
    split
    · exact List.Perm.refl _
    · exact ((ins2_perm p x l).cons y).trans (List.Perm.swap x y l)
theorem sort2_perm (p : List (List Int)) : ∀ l, (sort2 p l).Perm l
  | [] => List.Perm.refl _
  | x :: l => (ins2_perm p x _).trans ((sort2_perm p l).cons x)
theorem ins2_sorted (p : List (List Int)) (x : Int) : ∀ l : List Int, x ∉ l → l.Pairwise (fun a b => befV p a b = true) → (ins2 p x l).Pairwise (fun a b => befV p a b = true)
  | [], _, _ => by simp [ins2]
  | y :: l, hx, h => by
    unfold ins2
    simp only [List.mem_cons, not_or] at hx
    split
    · rename_i hb
      rw [List.pairwise_cons] at h ⊢
      refine ⟨fun z hz => ?_, by rw [List.pairwise_cons]; exact h⟩
      rcases List.mem_cons.1 hz with rfl | hz
      · exact hb
      · exact befV_trans p hb (h.1 z hz)
    · rename_i hb
      have hyx : befV p y x = true := by
        rcases befV_total p hx.1 with h | h
        · exact absurd h hb
        · exact h
      rw [List.pairwise_cons] at h ⊢
      refine ⟨fun z hz => ?_, ins2_sorted p x l hx.2 h.2⟩
      rcases List.mem_cons.1 ((ins2_perm p x l).mem_iff.1 hz) with rfl | hz
      · exact hyx
      · exact h.1 z hz
theorem sort2_sorted (p : List (List Int)) : ∀ l : List Int, l.Nodup → (sort2 p l).Pairwise (fun a b => befV p a b = true)
  | [], _ => List.Pairwise.nil
  | x :: l, h => by
    rw [List.nodup_cons] at h
    exact ins2_sorted p x _ (fun hm => h.1 ((sort2_perm p l).mem_iff.1 hm)) (sort2_sorted p l h.2)
theorem ins2_run (p : List (List Int)) (x : Int) : ∀ (l : List Int) (t : Int × Int), x ∉ l → (run2 p t (ins2 p x l)).1 ≤ (run2 p t (x :: l)).1 ∧ (run2 p t (ins2 p x l)).2 ≤ (run2 p t (x :: l)).2
  | [], t, _ => ⟨Int.le_refl _, Int.le_refl _⟩
  | y :: l, t, hx => by
    unfold ins2
    simp only [List.mem_cons, not_or] at hx
    split
    · exact ⟨Int.le_refl _, Int.le_refl _⟩
    · rename_i hb
      have hyx : befV p y x = true := by
        rcases befV_total p hx.1 with h | h
        · exact absurd h hb
        · exact h
      have h1 := ins2_run p x l (st2 p t y) hx.2
      have h2 := swap2 p t x y hyx
      have h3 := run2_mono p l _ _ h2.1 h2.2
      simp only [run2_cons] at h1 h3 ⊢
      omega
theorem sort2_run (p : List (List Int)) : ∀ (l : List Int) (t : Int × Int), l.Nodup → (run2 p t (sort2 p l)).1 ≤ (run2 p t l).1 ∧ (run2 p t (sort2 p l)).2 ≤ (run2 p t l).2
  | [], t, _ => ⟨Int.le_refl _, Int.le_refl _⟩
  | x :: l, t, h => by
    rw [List.nodup_cons] at h
    have h1 := sort2_run p l (st2 p t x) h.2
    have h2 := ins2_run p x (sort2 p l) t (fun hm => h.1 ((sort2_perm p l).mem_iff.1 hm))
    simp only [run2_cons] at h1 h2 ⊢
    simp only [sort2]
    omega

/-- the times of the two stations -/
theorem tm_two {p : List (List Int)} {l : List Int} (k : Nat) (hk : k < l.length) (h0 : ∀ k, k < l.length → 0 ≤ mA p (gi l k)) : run2 p (0, 0) (l.take (k + 1)) = (tm p l k 0, tm p l k 1) := by
  have hA : ∀ k, gi (jobRow p l k) 0 = mA p (gi l k) := fun _ => rfl
  have hB : ∀ k, gi (jobRow p l k) 1 = mB p (gi l k) := fun _ => rfl
  induction k with
  | zero =>
    rw [take_succ_gi hk]
    have := h0 0 hk
    simp only [List.take_zero, List.nil_append, run2, List.foldl_cons, List.foldl_nil, st2, tm, rowT, hA, hB]
  | succ k ih =>
    have h1 := ih (by omega)
    rw [take_succ_gi hk]
    simp only [run2, List.foldl_append] at h1 ⊢
    rw [h1]
    simp only [List.foldl_cons, List.foldl_nil, st2, tm, rowT, hA, hB]
theorem lenV_two {p : List (List Int)} {l : List Int} (h2 : (ri p 0).length = 2) (h0 : ∀ k, k < l.length → 0 ≤ mA p (gi l k)) : lenV p l = (run2 p (0, 0) l).2 := by
  unfold lenV lastV
  by_cases e : l.length = 0
  · rw [if_pos e, List.eq_nil_of_length_eq_zero e]; rfl
  · rw [if_neg e, h2]
    have := tm_two (p := p) (l := l) (l.length - 1) (by omega) h0
    rw [show l.length - 1 + 1 = l.length by omega, List.take_length] at this
    rw [this]

/-- THE THEOREM: the sequence of Johnson's rule is right and no sequence is shorter. -/
theorem john_right {p : List (List Int)} : rightB p.length (selJ p p.length) = true ∧ (sort2 p (rangeI p.length)) = selJ p p.length := by
  have hp := sort2_perm p (rangeI p.length)
  have hl : (sort2 p (rangeI p.length)).length = p.length := by rw [hp.length_eq, rangeI_length]
  have h := selJ_unique p (sort2 p (rangeI p.length)) hl
    (fun j hj => hp.mem_iff.2 (mem_rangeI.2 (by omega))) (fun y hy => mem_rangeI.1 (hp.mem_iff.1 hy)) (sort2_sorted p _ (rangeI_nodup _)) p.length (by omega)
  rw [List.take_of_length_le (by omega)] at h
  refine ⟨?_, h.symm⟩
  rw [h]
  have hd : (sort2 p (rangeI p.length)).Nodup := hp.nodup_iff.2 (rangeI_nodup _)
  apply rightB_good
  intro k hk
  have hr := mem_rangeI.1 (hp.mem_iff.1 (gi_mem hk))
  simp only [badJob, Bool.or_eq_false_iff, decide_eq_false_iff_not]
  refine ⟨⟨by omega, by omega⟩, ?_⟩
  rw [List.any_eq_false]
  intro y hy
  rw [← List.take_append_drop k (sort2 p (rangeI p.length)), List.nodup_append] at hd
  have hm : gi (sort2 p (rangeI p.length)) k ∈ (sort2 p (rangeI p.length)).drop k := by
    have : gi ((sort2 p (rangeI p.length)).drop k) 0 = gi (sort2 p (rangeI p.length)) k := by rw [gi_drop, Nat.add_zero]
    rw [← this]; exact gi_mem (by simp; omega)
  have := hd.2.2 y hy _ hm
  simpa using fun h => this h.symm
theorem john_le {p : List (List Int)} (hg : Good p) (h2 : 0 < p.length → (ri p 0).length = 2) {l : List Int} (hl : rightB p.length l = true) (hn : l.length = p.length) : lenV p (selJ p p.length) ≤ lenV p l := by
  by_cases e : p.length = 0
  · have : l = [] := List.eq_nil_of_length_eq_zero (by omega)
    rw [this, e]; simp [selJ]
  · have h2 := h2 (by omega)
    have pos : ∀ l', rightB p.length l' = true → ∀ k, k < l'.length → 0 ≤ mA p (gi l' k) := fun l' h k hk => by
      have hj := rightB_job h hk
      have hs := hg.st _ hj.2.2
      exact (hg.num _ hj.2.2 0 (by omega)).1
    rw [lenV_two h2 (pos _ hl), lenV_two h2 (pos _ john_right.1), ← john_right.2]
    have key : sort2 p l = sort2 p (rangeI p.length) := by
      have hp := sort2_perm p l
      have hll : (sort2 p l).length = p.length := by rw [hp.length_eq, hn]
      have h := selJ_unique p (sort2 p l) hll (fun j hj => hp.mem_iff.2 (right_all hl hn hj))
        (fun y hy => by obtain ⟨k, hk, rfl⟩ := mem_gi (hp.mem_iff.1 hy); have := rightB_job hl hk; omega) (sort2_sorted p _ (rightB_nodup hl)) p.length (by omega)
      rw [List.take_of_length_le (by omega)] at h
      rw [← h, john_right.2]
    rw [← key]
    exact (sort2_run p l (0, 0) (rightB_nodup hl)).2
end Go.Proofs.Ytijapbfkpmphpaa
