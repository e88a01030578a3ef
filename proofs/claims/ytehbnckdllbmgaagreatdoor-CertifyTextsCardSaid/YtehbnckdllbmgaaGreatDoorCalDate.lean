/- Times as texts: week, day and hour; in plain Lean. -/
import Derived.Test.YtehbnckdllbmgaaGreatDoorIdSpec
import Derived.Lib.ItoaNum
set_option linter.unusedSimpArgs false
set_option linter.unusedVariables false
namespace Go.Proofs.YtehbnckdllbmgaaGreatDoor

def numL (ds : List UInt8) : Nat := ds.foldl (fun n c => 10 * n + (c.toNat - 48)) 0
theorem numL_snoc (ds : List UInt8) (c : UInt8) : numL (ds ++ [c]) = 10 * numL ds + (c.toNat - 48) := by unfold numL; rw [List.foldl_append]; rfl
def digU (n : Nat) : UInt8 := UInt8.ofNat (48 + n)
theorem digU_nat {n : Nat} (h : n < 10) : (digU n).toNat = 48 + n := by unfold digU; rw [UInt8.toNat_ofNat']; omega
theorem digU_dig {n : Nat} (h : n < 10) : digC (digU n) = true := by have := digU_nat h; unfold digC; simp only [this, Bool.and_eq_true, decide_eq_true_eq]; omega
theorem digC_range {c : UInt8} (h : digC c = true) : 48 ≤ c.toNat ∧ c.toNat ≤ 57 := by unfold digC at h; simpa using h
theorem digC_digU {c : UInt8} (h : digC c = true) : c = digU (c.toNat - 48) := by
  obtain ⟨h1, h2⟩ := digC_range h
  apply UInt8.toNat_inj.1
  rw [digU_nat (by omega)]; omega
theorem dec_succ (n : Nat) : Lib.decDigits n = if n < 10 then [digU n] else Lib.decDigits (n / 10) ++ [digU (n % 10)] := by
  by_cases h : n < 10
  · rw [if_pos h, Lib.decDigits_one h]; rfl
  · rw [if_neg h, Lib.decDigits, dif_neg h]; rfl
theorem dec_ne (n : Nat) : Lib.decDigits n ≠ [] := by rw [dec_succ]; split <;> simp
theorem dec_all : ∀ (n : Nat), (Lib.decDigits n).all digC = true := by
  intro n
  induction n using Nat.strongRecOn with
  | _ n ih =>
    rw [dec_succ]
    split
    · rename_i h; simp [digU_dig h]
    · rename_i h; rw [List.all_append, ih (n / 10) (by omega)]; simp [digU_dig (show n % 10 < 10 by omega)]
theorem numL_dec : ∀ (n : Nat), numL (Lib.decDigits n) = n := by
  intro n
  induction n using Nat.strongRecOn with
  | _ n ih =>
    rw [dec_succ]
    split
    · rename_i h; unfold numL; simp [digU_nat h]
    · rename_i h; rw [numL_snoc, ih (n / 10) (by omega), digU_nat (by omega)]; omega
/-- no zero ahead -/
def plainD (ds : List UInt8) : Bool := decide (ds.length = 1) || !(ds.headD 0 == 48)
theorem dec_head : ∀ (n : Nat), 1 ≤ n → (Lib.decDigits n).headD 0 ≠ 48 := by
  intro n
  induction n using Nat.strongRecOn with
  | _ n ih =>
    intro hn
    rw [dec_succ]
    split
    · rename_i h
      intro e
      have := congrArg UInt8.toNat e
      rw [List.headD_cons, digU_nat h] at this
      simp at this; omega
    · rename_i h
      have := ih (n / 10) (by omega) (by omega)
      cases hd : Lib.decDigits (n / 10) with
      | nil => exact absurd hd (dec_ne _)
      | cons x xs => rw [hd] at this; exact this
theorem plainD_dec (n : Nat) : plainD (Lib.decDigits n) = true := by
  unfold plainD
  by_cases h : n < 10
  · rw [dec_succ, if_pos h]; rfl
  · have := dec_head n (by omega)
    have e : ((Lib.decDigits n).headD 0 == 48) = false := by rw [beq_eq_false_iff_ne]; exact this
    rw [e]; simp
/-- digits without a zero ahead are the numeral of their number -/
theorem dec_numL : ∀ (k : Nat) (ds : List UInt8), ds.length = k → ds ≠ [] → ds.all digC = true → plainD ds = true → Lib.decDigits (numL ds) = ds := by
  intro k
  induction k with
  | zero => intro ds h1 h2; exact absurd (List.eq_nil_of_length_eq_zero h1) h2
  | succ k ih =>
    intro ds h1 h2 h3 h4
    obtain ⟨xs, c, rfl⟩ : ∃ xs c, ds = xs ++ [c] := by
      rcases List.eq_nil_or_concat ds with e | ⟨xs, c, e⟩
      · exact absurd e h2
      · exact ⟨xs, c, by rw [e, List.concat_eq_append]⟩
    rw [List.all_append] at h3
    simp only [List.all_cons, List.all_nil, Bool.and_true, Bool.and_eq_true] at h3
    have hc := digC_range h3.2
    rw [numL_snoc, dec_succ]
    by_cases hx : xs = []
    · subst hx
      have : numL [] = 0 := rfl
      rw [this, if_pos (by omega), List.nil_append]
      rw [show 10 * 0 + (c.toNat - 48) = c.toNat - 48 by omega, ← digC_digU h3.2]
    · have hl : xs.length = k := by simpa using h1
      have hp : plainD xs = true := by
        unfold plainD at h4 ⊢
        cases xs with
        | nil => exact absurd rfl hx
        | cons y ys =>
          simp at h4 ⊢
          exact .inr h4
      have e := ih xs hl hx h3.1 hp
      have h10 : 1 ≤ numL xs := by
        rcases Nat.eq_zero_or_pos (numL xs) with e0 | e0
        · exfalso
          rw [e0] at e
          have : Lib.decDigits 0 = [digU 0] := by rw [dec_succ]; rfl
          rw [this] at e
          rw [← e] at h4
          unfold plainD at h4
          simp at h4
          exact h4 rfl
        · exact e0
      rw [if_neg (by omega), show (10 * numL xs + (c.toNat - 48)) / 10 = numL xs by omega, e, show (10 * numL xs + (c.toNat - 48)) % 10 = c.toNat - 48 by omega, ← digC_digU h3.2]

/-! the text of a time -/
def dateL (t : Nat) : List UInt8 := 119 :: (Lib.decDigits (t / 168) ++ [32, 100, digU (t % 168 / 24 + 1), 32, digU (t % 24 / 10), digU (t % 24 % 10), 104])
def dateV (at_ : Int) : List UInt8 := if at_ < 0 ∨ 1048576 < at_ then [] else dateL at_.toNat
/-- the time of a text -/
def parseP : List UInt8 → Option Nat
  | [] => none
  | x :: t => match t.dropWhile digC with
    | [s1, d, c, s2, p, q, h] =>
      if x = 119 ∧ t.takeWhile digC ≠ [] ∧ plainD (t.takeWhile digC) = true ∧ s1 = 32 ∧ d = 100 ∧ 49 ≤ c.toNat ∧ c.toNat ≤ 55 ∧ s2 = 32 ∧ digC p = true ∧ digC q = true ∧ h = 104 ∧ 10 * (p.toNat - 48) + (q.toNat - 48) ≤ 23 then
        some (168 * numL (t.takeWhile digC) + 24 * (c.toNat - 49) + (10 * (p.toNat - 48) + (q.toNat - 48)))
      else none
    | _ => none
def parseE (l : List UInt8) : Int := match parseP l with
  | none => 5
  | some t => if t ≤ 1048576 then 0 else 9
def parseV (l : List UInt8) : Int := match parseP l with
  | none => 0
  | some t => if t ≤ 1048576 then t else 0
theorem span_digits {ds r : List UInt8} {x : UInt8} (h : ds.all digC = true) (hx : digC x = false) : (ds ++ x :: r).takeWhile digC = ds ∧ (ds ++ x :: r).dropWhile digC = x :: r := by
  induction ds with
  | nil => simp [List.takeWhile_cons, List.dropWhile_cons, hx]
  | cons c ds ih =>
    simp only [List.all_cons, Bool.and_eq_true] at h
    obtain ⟨e1, e2⟩ := ih h.2
    simp [List.takeWhile_cons, List.dropWhile_cons, h.1, e1, e2]
theorem parse_date {t : Nat} (ht : t ≤ 1048576) : parseP (dateL t) = some t := by
  obtain ⟨e1, e2⟩ := span_digits (ds := Lib.decDigits (t / 168)) (x := 32) (r := [100, digU (t % 168 / 24 + 1), 32, digU (t % 24 / 10), digU (t % 24 % 10), 104]) (dec_all _) (by decide)
  unfold dateL parseP
  dsimp only
  rw [e1, e2]
  dsimp only
  have n1 := digU_nat (show t % 168 / 24 + 1 < 10 by omega)
  have n2 := digU_nat (show t % 24 / 10 < 10 by omega)
  have n3 := digU_nat (show t % 24 % 10 < 10 by omega)
  rw [if_pos ⟨rfl, dec_ne _, plainD_dec _, rfl, rfl, by omega, by omega, rfl, digU_dig (by omega), digU_dig (by omega), rfl, by omega⟩, numL_dec, n1, n2, n3]
  congr 1
  omega
theorem date_parse {l : List UInt8} {t : Nat} (h : parseP l = some t) : dateL t = l := by
  unfold parseP at h
  cases l with
  | nil => cases h
  | cons x r =>
    dsimp only at h
    have hs := List.takeWhile_append_dropWhile (p := digC) (l := r)
    split at h
    · rename_i s1 d c s2 p q e heq
      split at h
      · rename_i hc
        obtain ⟨rfl, g2, g3, rfl, rfl, g6, g7, rfl, g9, g10, rfl, g12⟩ := hc
        have ht := Option.some.inj h
        have hall : (r.takeWhile digC).all digC = true := List.all_takeWhile
        have r9 := digC_range g9
        have r10 := digC_range g10
        rw [heq] at hs
        have e1 : t / 168 = numL (r.takeWhile digC) := by omega
        have e2 : t % 168 / 24 + 1 = c.toNat - 48 := by omega
        have e3 : t % 24 / 10 = p.toNat - 48 := by omega
        have e4 : t % 24 % 10 = q.toNat - 48 := by omega
        unfold dateL
        rw [e1, e2, e3, e4, dec_numL _ _ rfl g2 hall g3, ← digC_digU g9, ← digC_digU g10, ← digC_digU (c := c) (by unfold digC; simp; omega)]
        rw [hs]
      · cases h
    · cases h
theorem parse_nil : parseP [] = none := rfl
end Go.Proofs.YtehbnckdllbmgaaGreatDoor
