/- The program's Parse, in plain Lean: what each of its checks says. -/
import Derived.Test.YtbjnpiaooehmjaaDoorCalW
namespace Go.Proofs.YtbjnpiaooehmjaaDoor
open Go.RowKit

structure Cutt (l : List UInt8) (i : Nat) : Prop where
  g1 : l[i]? = some 32
  g2 : ∀ j, j < i → l[j]? ≠ some 32
theorem dig2 (t : Nat) : digC (digU (t % 24 / 10)) = true ∧ digC (digU (t % 24 % 10)) = true := ⟨digU_dig (by omega), digU_dig (by omega)⟩
structure PS (W R : List UInt8) : Prop where
  w1 : ¬ W.length < 2
  w2 : (W.getD 0 0).toNat = 119
  w3 : (W.drop 1).all digC = true
  w4 : ¬ ((W.getD 1 0).toNat = 48 ∧ 2 < W.length)
  r1 : R.length = 6
  r2 : (R.getD 0 0).toNat = 100
  r3 : 49 ≤ (R.getD 1 0).toNat
  r4 : (R.getD 1 0).toNat ≤ 55
  r5 : (R.getD 2 0).toNat = 32
  r6 : (R.getD 5 0).toNat = 104
  r7 : digC (R.getD 3 0) = true
  r8 : digC (R.getD 4 0) = true
  r9 : 10 * ((R.getD 3 0).toNat - 48) + ((R.getD 4 0).toNat - 48) ≤ 23
theorem Cutt.must {l : List UInt8} {i t : Nat} (h : Cutt l i) (hp : parseP l = some t) : PS (l.take i) (l.drop (i + 1)) := by
  obtain ⟨e1, e2⟩ := parse_cut hp h.g1 h.g2
  rw [e1, e2]
  have n1 := digU_nat (show t % 168 / 24 + 1 < 10 by omega)
  have n2 := digU_nat (show t % 24 / 10 < 10 by omega)
  have n3 := digU_nat (show t % 24 % 10 < 10 by omega)
  have hne := dec_ne (t / 168)
  have hpl := plainD_dec (t / 168)
  refine ⟨?_, rfl, dec_all _, ?_, rfl, rfl, ?_, ?_, rfl, rfl, (dig2 t).1, (dig2 t).2, ?_⟩
  · cases hd : Lib.decDigits (t / 168) with
    | nil => exact absurd hd hne
    | cons a r => simp
  · rintro ⟨h1, h2⟩
    have h1 := UInt8.toNat_inj.1 (show _ = (48 : UInt8).toNat from h1)
    rw [List.getD_cons_succ] at h1
    rw [List.length_cons] at h2
    unfold plainD at hpl
    cases hd : Lib.decDigits (t / 168) with
    | nil => exact absurd hd hne
    | cons a r =>
      rw [hd] at h1 h2 hpl
      rw [List.getD_cons_zero] at h1
      subst h1
      simp at hpl h2
      subst hpl
      simp at h2
  · simp only [List.getD_cons_succ, List.getD_cons_zero, n1]; omega
  · simp only [List.getD_cons_succ, List.getD_cons_zero, n1]; omega
  · simp only [List.getD_cons_succ, List.getD_cons_zero, n2, n3]; omega
theorem Cutt.no {l : List UInt8} {i : Nat} (h : Cutt l i) (hb : ¬ PS (l.take i) (l.drop (i + 1))) : parseP l = none := by
  cases hp : parseP l with
  | none => rfl
  | some t => exact absurd (h.must hp) hb
theorem Cutt.yes {l : List UInt8} {i : Nat} (h : Cutt l i) (hs : PS (l.take i) (l.drop (i + 1))) :
    parseP l = some (168 * numL ((l.take i).drop 1) + 24 * (((l.drop (i + 1)).getD 1 0).toNat - 49) + (10 * (((l.drop (i + 1)).getD 3 0).toNat - 48) + (((l.drop (i + 1)).getD 4 0).toNat - 48))) := by
  have hi := (List.getElem?_eq_some_iff.1 h.g1).1
  have hl : l = l.take i ++ 32 :: l.drop (i + 1) := by
    have e := (List.getElem?_eq_some_iff.1 h.g1).2
    rw [← e, ← List.drop_eq_getElem_cons, List.take_append_drop]
  generalize l.take i = W at hs hl ⊢
  generalize l.drop (i + 1) = R at hs hl ⊢
  subst hl
  obtain ⟨w1, w2, w3, w4, r1, r2, r3, r4, r5, r6, r7, r8, r9⟩ := hs
  have w2 := UInt8.toNat_inj.1 (show _ = (119 : UInt8).toNat from w2)
  have r2 := UInt8.toNat_inj.1 (show _ = (100 : UInt8).toNat from r2)
  have r5 := UInt8.toNat_inj.1 (show _ = (32 : UInt8).toNat from r5)
  have r6 := UInt8.toNat_inj.1 (show _ = (104 : UInt8).toNat from r6)
  cases W with
  | nil => exact absurd (by simp) w1
  | cons x ds =>
    rw [List.getD_cons_zero] at w2
    rw [List.drop_succ_cons, List.drop_zero] at w3 ⊢
    obtain ⟨a0, a1, a2, a3, a4, a5, rfl⟩ : ∃ a0 a1 a2 a3 a4 a5, R = [a0, a1, a2, a3, a4, a5] := by
      cases R with
      | nil => simp at r1
      | cons a0 l0 => cases l0 with
        | nil => simp at r1
        | cons a1 l1 => cases l1 with
          | nil => simp at r1
          | cons a2 l2 => cases l2 with
            | nil => simp at r1
            | cons a3 l3 => cases l3 with
              | nil => simp at r1
              | cons a4 l4 => cases l4 with
                | nil => simp at r1
                | cons a5 l5 => cases l5 with
                  | nil => exact ⟨_, _, _, _, _, _, rfl⟩
                  | cons a6 l6 => simp at r1
    simp only [List.getD_cons_succ, List.getD_cons_zero] at r2 r3 r4 r5 r6 r7 r8 r9 ⊢
    obtain ⟨e1, e2⟩ := span_digits (x := 32) (r := [a0, a1, a2, a3, a4, a5]) w3 (by decide)
    have hne : ds ≠ [] := by rintro rfl; simp at w1
    rw [List.cons_append, parse_tail e2 w2 (by rw [e1]; exact hne) ?_, e1, if_pos]
    · unfold tailB
      simp only [Bool.and_eq_true, decide_eq_true_eq, beq_iff_eq]
      exact ⟨⟨⟨⟨⟨⟨⟨⟨trivial, r2⟩, r3⟩, r4⟩, r5⟩, r7⟩, r8⟩, r6⟩, r9⟩
    · rw [e1]
      unfold plainD
      cases ds with
      | nil => exact absurd rfl hne
      | cons y r =>
        simp only [List.getD_cons_succ, List.getD_cons_zero, List.length_cons] at w4
        simp
        by_cases e : r = []
        · exact .inl e
        · refine .inr fun e2 => w4 ⟨by rw [e2]; rfl, ?_⟩
          have := List.length_pos_iff.2 e
          omega
end Go.Proofs.YtbjnpiaooehmjaaDoor
