/- Names and identifiers as lists of bytes: what stands between full stops; joining; in plain Lean. -/
import Derived.Lib.Split
set_option linter.unusedSimpArgs false
set_option linter.unusedVariables false
namespace Go.Proofs.YtlmfcigabojbmaaGreatDoor

def letC (c : UInt8) : Bool := (decide (97 ≤ c.toNat) && decide (c.toNat ≤ 122)) || (decide (65 ≤ c.toNat) && decide (c.toNat ≤ 90))
def digC (c : UInt8) : Bool := decide (48 ≤ c.toNat) && decide (c.toNat ≤ 57)
def okC (c : UInt8) : Bool := letC c || digC c || c == 95 || c == 45
def nameB (l : List UInt8) : Bool := !l.isEmpty && decide (l.length ≤ 16) && letC (l.headD 0) && l.all okC
/-- what stands between the full stops -/
def cutL : List UInt8 → List (List UInt8)
  | [] => [[]]
  | c :: r => if c = 46 then [] :: cutL r else match cutL r with
    | [] => [[c]]
    | x :: xs => (c :: x) :: xs
def joinL : List (List UInt8) → List UInt8
  | [] => []
  | [x] => x
  | x :: y :: xs => x ++ 46 :: joinL (y :: xs)
def idB (l : List UInt8) : Bool := decide (l.length ≤ 64) && decide ((cutL l).length ≤ 8) && (cutL l).all nameB
def namesB (ls : List (List UInt8)) : Bool := decide (1 ≤ ls.length) && decide (ls.length ≤ 8) && ls.all nameB && decide ((joinL ls).length ≤ 64)

theorem cutL_ne (l : List UInt8) : cutL l ≠ [] := by
  cases l with
  | nil => simp [cutL]
  | cons c r =>
    unfold cutL
    split
    · simp
    · split <;> simp
theorem cutL_dot (r : List UInt8) : cutL (46 :: r) = [] :: cutL r := by rw [cutL, if_pos rfl]
theorem cutL_other {c : UInt8} {r : List UInt8} (h : c ≠ 46) : ∃ x xs, cutL r = x :: xs ∧ cutL (c :: r) = (c :: x) :: xs := by
  cases e : cutL r with
  | nil => exact absurd e (cutL_ne r)
  | cons x xs => exact ⟨x, xs, rfl, by rw [cutL, if_neg h, e]⟩
theorem joinL_cons {x : List UInt8} {xs : List (List UInt8)} (h : xs ≠ []) : joinL (x :: xs) = x ++ 46 :: joinL xs := by
  cases xs with
  | nil => exact absurd rfl h
  | cons y xs => rfl
theorem join_cut (l : List UInt8) : joinL (cutL l) = l := by
  induction l with
  | nil => rfl
  | cons c r ih =>
    by_cases h : c = 46
    · subst h
      rw [cutL_dot, joinL_cons (cutL_ne r), ih]; rfl
    · obtain ⟨x, xs, e1, e2⟩ := cutL_other (r := r) h
      rw [e2]
      rw [e1] at ih
      cases xs with
      | nil => simp [joinL] at ih ⊢; exact ih
      | cons y ys => rw [joinL_cons (by simp)] at ih ⊢; rw [← ih]; rfl
theorem cut_plain {x : List UInt8} (h : ∀ c ∈ x, c ≠ 46) : cutL x = [x] := by
  induction x with
  | nil => rfl
  | cons c r ih =>
    obtain ⟨y, ys, e1, e2⟩ := cutL_other (c := c) (r := r) (h c (by simp))
    rw [ih fun d hd => h d (by simp [hd])] at e1
    simp at e1
    rw [e2, ← e1.1, ← e1.2]
theorem cut_append {x r : List UInt8} (h : ∀ c ∈ x, c ≠ 46) : cutL (x ++ 46 :: r) = x :: cutL r := by
  induction x with
  | nil => exact cutL_dot r
  | cons c x ih =>
    obtain ⟨y, ys, e1, e2⟩ := cutL_other (c := c) (r := x ++ 46 :: r) (h c (by simp))
    rw [ih fun d hd => h d (by simp [hd])] at e1
    simp at e1
    rw [List.cons_append, e2, ← e1.1, ← e1.2]
theorem cut_join {ls : List (List UInt8)} (h0 : ls ≠ []) (h : ∀ x ∈ ls, ∀ c ∈ x, c ≠ 46) : cutL (joinL ls) = ls := by
  induction ls with
  | nil => exact absurd rfl h0
  | cons x xs ih =>
    cases xs with
    | nil => exact cut_plain (h x (by simp))
    | cons y ys =>
      rw [joinL_cons (by simp), cut_append (h x (by simp)), ih (by simp) fun z hz => h z (by simp [hz])]
theorem okC_dot {c : UInt8} (h : okC c = true) : c ≠ 46 := by rintro rfl; exact absurd h (by decide)
theorem nameB_dot {l : List UInt8} (h : nameB l = true) : ∀ c ∈ l, c ≠ 46 := by
  unfold nameB at h
  simp only [Bool.and_eq_true, List.all_eq_true] at h
  exact fun c hc => okC_dot (h.2 c hc)
theorem nameB_len {l : List UInt8} (h : nameB l = true) : l.length ≤ 16 := by
  unfold nameB at h
  simp only [Bool.and_eq_true, decide_eq_true_eq] at h
  exact h.1.1.2
theorem idB_names (l : List UInt8) : idB l = namesB (cutL l) := by
  unfold idB namesB
  rw [join_cut]
  have : decide (1 ≤ (cutL l).length) = true := by
    rw [decide_eq_true_eq]
    have := cutL_ne l
    cases h : cutL l with
    | nil => exact absurd h this
    | cons x xs => simp
  rw [this]
  cases decide (l.length ≤ 64) <;> cases decide ((cutL l).length ≤ 8) <;> cases (cutL l).all nameB <;> rfl
theorem namesB_id {ls : List (List UInt8)} (h : namesB ls = true) : idB (joinL ls) = true ∧ cutL (joinL ls) = ls := by
  have h' := h
  unfold namesB at h
  simp only [Bool.and_eq_true, decide_eq_true_eq, List.all_eq_true] at h
  have h0 : ls ≠ [] := by rintro rfl; simp at h
  have hc := cut_join h0 fun x hx => nameB_dot (h.1.2 x hx)
  exact ⟨by rw [idB_names, hc]; exact h', hc⟩
theorem joinL_length {ls : List (List UInt8)} (h : ls ≠ []) : (joinL ls).length + 1 = (ls.map List.length).sum + ls.length := by
  induction ls with
  | nil => exact absurd rfl h
  | cons x xs ih =>
    cases xs with
    | nil => simp [joinL]
    | cons y ys =>
      rw [joinL_cons (by simp), List.length_append, List.length_cons, List.map_cons, List.sum_cons, List.length_cons]
      have := ih (by simp)
      omega

/-! the library's split -/
theorem index_dot {x r : List UInt8} (h : 46 ∉ x) : Go.Lib.index (x ++ 46 :: r) [46] = x.length := by
  induction x with
  | nil => simp [Go.Lib.index, List.isPrefixOf]
  | cons c x ih =>
    simp only [List.mem_cons, not_or] at h
    rw [List.cons_append, Go.Lib.index, ih h.2, if_neg (by simp [List.isPrefixOf]; exact h.1), if_neg (by rw [beq_iff_eq]; omega)]
    simp
theorem index_no {x : List UInt8} (h : 46 ∉ x) : Go.Lib.index x [46] = -1 := by
  induction x with
  | nil => rfl
  | cons c x ih =>
    simp only [List.mem_cons, not_or] at h
    rw [Go.Lib.index, ih h.2, if_neg (by simp [List.isPrefixOf]; exact h.1)]; rfl
theorem splitK_dot : ∀ (k : Nat) (l : List UInt8), l.count 46 ≤ k → Go.Lib.splitK [46] 0 k l = cutL l := by
  intro k
  induction k with
  | zero =>
    intro l h
    have h0 : ∀ c ∈ l, c ≠ 46 := fun c hc e => by subst e; have := List.count_pos_iff.2 hc; omega
    rw [cut_plain h0]; rfl
  | succ k ih =>
    intro l h
    by_cases hm : (46 : UInt8) ∈ l
    · obtain ⟨x, r, rfl, hx⟩ := List.eq_append_cons_of_mem hm
      have hi := index_dot (x := x) (r := r) hx
      rw [Go.Lib.splitK, hi, if_neg (by rw [beq_iff_eq]; omega), cut_append fun c hc e => hx (e ▸ hc)]
      have e1 : ((x.length : Int).toNat + 0) = x.length := by omega
      have e2 : ((x.length : Int).toNat + [(46 : UInt8)].length) = x.length + 1 := by simp
      rw [e1, e2, List.take_left, show (x ++ 46 :: r).drop (x.length + 1) = r by rw [List.drop_append]; simp, ih r (by simp [List.count_append, List.count_cons] at h; omega)]
    · rw [Go.Lib.splitK, index_no hm, cut_plain fun c hc e => hm (e ▸ hc)]; rfl
theorem count_dot : ∀ (n : Nat) (l : List UInt8), l.length = n → Go.Lib.count l [46] = l.count 46 := by
  intro n
  induction n using Nat.strongRecOn with
  | _ n ih =>
    intro l hl
    by_cases hm : (46 : UInt8) ∈ l
    · obtain ⟨x, r, rfl, hx⟩ := List.eq_append_cons_of_mem hm
      have hx0 : x.count 46 = 0 := List.count_eq_zero.2 hx
      rw [Go.Lib.count_hit (by simp) (index_dot hx), show (x ++ 46 :: r).drop (x.length + [(46 : UInt8)].length) = r by rw [List.drop_append]; simp, ih r.length (by simp at hl; omega) r rfl, List.count_append, List.count_cons, hx0]
      simp; omega
    · rw [Go.Lib.count_miss (index_no hm), List.count_eq_zero.2 hm]
theorem split_dot (l : List UInt8) : Go.Lib.split l [46] = cutL l := splitK_dot _ l (by rw [count_dot _ l rfl]; exact Nat.le_refl _)
theorem cutL_length (l : List UInt8) : (cutL l).length = l.count 46 + 1 := by
  induction l with
  | nil => rfl
  | cons c r ih =>
    by_cases h : c = 46
    · subst h; rw [cutL_dot, List.length_cons, ih, List.count_cons]; simp
    · obtain ⟨x, xs, e1, e2⟩ := cutL_other (r := r) h
      rw [e1] at ih
      rw [e2, List.count_cons, List.length_cons, if_neg (by simpa using h)]
      simp at ih; omega
end Go.Proofs.YtlmfcigabojbmaaGreatDoor
