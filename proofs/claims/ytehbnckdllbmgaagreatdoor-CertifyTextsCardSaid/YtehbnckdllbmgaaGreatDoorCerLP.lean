/- Plain: what the laws Back and Long want. -/
import Derived.Test.YtehbnckdllbmgaaGreatDoorCerM
import Derived.Test.YtehbnckdllbmgaaGreatDoorCerQ
import Derived.Lib.ItoaNum
set_option linter.unusedSimpArgs false
set_option linter.unusedVariables false
namespace Go.Proofs.YtehbnckdllbmgaaGreatDoor
open Go.RowKit

theorem dec_len : ∀ (k n : Nat), n < 10 ^ (k + 1) → (Lib.decDigits n).length ≤ k + 1
  | 0, n, h => by
    rw [Lib.decDigits_one (by simpa using h)]; simp
  | k + 1, n, h => by
    by_cases h1 : n < 10
    · rw [Lib.decDigits_one h1]; simp
    · rw [Lib.decDigits, dif_neg h1]
      have := dec_len k (n / 10) (by
        rw [Nat.div_lt_iff_lt_mul (by decide)]
        rw [Nat.pow_succ] at h
        exact h)
      simp
      omega
theorem itoa_len {n : Int} (h : in64 n) : (Lib.itoa n).length ≤ 21 := by
  have key : n.natAbs < 10 ^ (19 + 1) := by
    have : (10 : Nat) ^ (19 + 1) = 100000000000000000000 := by decide
    rw [this]
    unfold in64 at h
    omega
  have h2 := dec_len 19 _ key
  by_cases hn : n < 0
  · rw [itoa_neg hn]; simp; omega
  · rw [itoa_pos (by omega)]
    have : n.toNat = n.natAbs := by omega
    rw [this]; omega
theorem lineT_len {c : Cut} (h : in64C c) (hl : c.1.length ≤ 40) : (lineT c).length ≤ 1000 := by
  have h2 := itoa_len h.1
  have key : (joinW (c.1.map Lib.itoa)).length ≤ 900 := by
    by_cases hc : c.1 = []
    · rw [hc]; simp [joinW]
    · have hm : c.1.map Lib.itoa ≠ [] := by simpa using hc
      have h3 := joinW_length hm
      have h4 : ((c.1.map Lib.itoa).map List.length).sum ≤ 21 * c.1.length := by
        have : ∀ l : List Int, (∀ x ∈ l, in64 x) → ((l.map Lib.itoa).map List.length).sum ≤ 21 * l.length := by
          intro l
          induction l with
          | nil => intro _; simp
          | cons a l ih =>
            intro hx
            have := ih fun x hx' => hx x (List.mem_cons_of_mem _ hx')
            have h5 := itoa_len (hx a List.mem_cons_self)
            simp only [List.map_cons, List.sum_cons, List.length_cons]
            omega
        exact this _ h.2
      simp only [List.length_map] at h3
      omega
  unfold lineT lineB
  simp
  omega
theorem textT_len : ∀ {L : List Cut}, (∀ c ∈ L, in64C c) → (∀ c ∈ L, c.1.length ≤ 40) → (textT L).length ≤ 1000 * L.length
  | [], _, _ => by simp [textT]
  | c :: L, h, g => by
    have h1 := lineT_len (h c List.mem_cons_self) (g c List.mem_cons_self)
    have h2 := textT_len (L := L) (fun x hx => h x (List.mem_cons_of_mem _ hx)) (fun x hx => g x (List.mem_cons_of_mem _ hx))
    have e : textT (c :: L) = lineT c ++ textT L := by simp [textT]
    rw [e]
    simp only [List.length_append, List.length_cons]
    omega
theorem few_mem {L : List Cut} (h : fewB L = true) : ∀ c ∈ L, c.1.length ≤ 40 := by
  intro c hc
  unfold fewB at h
  simp only [Bool.and_eq_true, List.all_eq_true, decide_eq_true_eq] at h
  exact h.2 c hc
theorem few_text {L : List Cut} (h : fewB L = true) (h64 : ∀ c ∈ L, in64C c) : (textT L).length ≤ 300000 := by
  have h1 := textT_len h64 (few_mem h)
  have h2 := fewB_len h
  omega
/-- of the texts of cuts that fit, or not -/
theorem back_fit {L : List Cut} (h : L.length ≤ 300) (hf : L.all fitC = true) : parseT (textT L) = (L, 0, 0) := by
  obtain ⟨tq, e⟩ := parse_text L (textT L).length 0 [] (Nat.le_refl _) (by simp; omega)
  unfold parseT
  rw [e, if_pos hf]; rfl
theorem back_unfit {L : List Cut} (h : L.length ≤ 300) (hf : L.all fitC = false) : ∃ tq, parseT (textT L) = ([], 5, tq) := by
  obtain ⟨tq, e⟩ := parse_text L (textT L).length 0 [] (Nat.le_refl _) (by simp; omega)
  unfold parseT
  exact ⟨tq, by rw [e, if_neg (by rw [hf]; decide)]⟩
theorem parse_fitG : ∀ (f : Nat) (r : List UInt8) (at_ : Nat) (acc : List Cut), acc.all fitC = true → (parseG f r at_ acc).1.all fitC = true
  | 0, r, at_, acc, h => by rw [parseG]; exact h
  | f + 1, r, at_, acc, h => by
    rw [parseG]
    split
    · exact h
    split
    · rfl
    split
    · rfl
    split
    · rfl
    · rename_i c hc
      exact parse_fitG f _ _ _ (by rw [List.all_append, h]; simp [(cutS_some hc).1])
theorem parse_fit (s : List UInt8) : (parseT s).1.all fitC = true := parse_fitG _ _ _ _ rfl
theorem sum_le {l : List Nat} (h : ∀ x ∈ l, 1 ≤ x) : l.length ≤ l.sum := by
  induction l with
  | nil => simp
  | cons a l ih =>
    have h1 := h a List.mem_cons_self
    have h2 := ih fun x hx => h x (List.mem_cons_of_mem _ hx)
    simp only [List.length_cons, List.sum_cons]
    omega
theorem line_pref (c : Cut) : c.1.length ≤ (lineT c).length := by
  unfold lineT lineB
  by_cases hc : c.1 = []
  · rw [hc]; simp
  · have hm : c.1.map Lib.itoa ≠ [] := by simpa using hc
    have h3 := joinW_length hm
    have h4 : ((c.1.map Lib.itoa).map List.length).length ≤ ((c.1.map Lib.itoa).map List.length).sum := by
      refine sum_le fun x hx => ?_
      rw [List.map_map, List.mem_map] at hx
      obtain ⟨y, _, rfl⟩ := hx
      exact List.length_pos_iff.2 (itoa_ne y)
    simp only [List.length_map] at h3 h4
    simp
    omega
theorem pref_le {L : List Cut} {c : Cut} (h : c ∈ L) : c.1.length ≤ (textT L).length := by
  obtain ⟨k, hk, rfl⟩ := List.getElem_of_mem h
  have h1 := line_le hk
  rw [ci_lt hk] at h1
  have := line_pref L[k]
  omega
theorem back_text (s : List UInt8) : ((parseT s).2.1 = 0 → (parseT s).2.2 = 0 ∧ textT (parseT s).1 = s ∧ ((parseT s).1.all fitC = true)) ∧ ((parseT s).2.1 ≠ 0 → (parseT s).1 = [] ∧ 0 ≤ (parseT s).2.2 ∧ (parseT s).2.2 < s.length) := by
  have key := parse_back s.length s 0 [] (parseT s).1 (parseT s).2.1 (parseT s).2.2 (Nat.le_refl _) rfl
  refine ⟨fun h => ?_, fun h => ?_⟩
  · obtain ⟨k1, L, k2, k3⟩ := key.1 h
    rw [List.nil_append] at k2
    refine ⟨k1, by rw [k2]; exact k3, ?_⟩
    exact parse_fit s
  · obtain ⟨k1, k2, k3⟩ := key.2 h
    exact ⟨k1, by omega, by omega⟩
theorem fit_64 {c : Cut} (h : fitC c = true) : in64C c := by
  unfold fitC at h
  simp only [Bool.and_eq_true, List.all_eq_true] at h
  refine ⟨?_, fun x hx => ?_⟩
  · have := okN_iff.1 h.1; unfold in64; omega
  · have := okN_iff.1 (h.2 x hx); unfold in64; omega
end Go.Proofs.YtehbnckdllbmgaaGreatDoor
