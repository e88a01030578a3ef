/- Check digits: sealing, opening, and what is detected; in plain Lean. -/
import Derived.Test.YtlmfcigabojbmaaGreatDoorIdSpec
set_option linter.unusedSimpArgs false
set_option linter.unusedVariables false
namespace Go.Proofs.YtlmfcigabojbmaaGreatDoor

def modR (l : List UInt8) : Nat := l.foldl (fun r c => (256 * r + c.toNat) % 97) 0
def valR (l : List UInt8) : Nat := l.foldl (fun r c => 256 * r + c.toNat) 0
def chkN (l : List UInt8) : Nat := 98 - 100 * modR l % 97
def chkL (l : List UInt8) : List UInt8 := [UInt8.ofNat (48 + chkN l / 10), UInt8.ofNat (48 + chkN l % 10)]
def sealL (l : List UInt8) : List UInt8 := l ++ 47 :: chkL l
/-- the error of opening -/
def openE (l : List UInt8) : Int :=
  if l.length < 4 then 3 else
  if idB (l.take (l.length - 3)) = false ∨ l.getD (l.length - 3) 0 ≠ 47 ∨ digC (l.getD (l.length - 2) 0) = false ∨ digC (l.getD (l.length - 1) 0) = false then 5 else
  if l.drop (l.length - 2) = chkL (l.take (l.length - 3)) then 0 else 16
def openL (l : List UInt8) : List UInt8 := if openE l = 0 then l.take (l.length - 3) else []

theorem modR_snoc (l : List UInt8) (c : UInt8) : modR (l ++ [c]) = (256 * modR l + c.toNat) % 97 := by simp [modR]
theorem modR_lt (l : List UInt8) : modR l < 97 := by
  rcases List.eq_nil_or_concat l with rfl | ⟨x, c, rfl⟩
  · decide
  · rw [List.concat_eq_append, modR_snoc]; omega
theorem fold_mod (l : List UInt8) : ∀ r r' : Nat, r % 97 = r' % 97 → (l.foldl (fun r c => (256 * r + c.toNat) % 97) r) % 97 = (l.foldl (fun r c => 256 * r + c.toNat) r') % 97 := by
  induction l with
  | nil => intro r r' h; exact h
  | cons c l ih => intro r r' h; exact ih _ _ (by dsimp only; omega)
theorem modR_val (l : List UInt8) : modR l = valR l % 97 := by
  have := fold_mod l 0 0 rfl
  have h := modR_lt l
  unfold modR valR at *
  omega
theorem chkN_bd (l : List UInt8) : 2 ≤ chkN l ∧ chkN l ≤ 98 := by unfold chkN; omega
theorem chk_digits {n : Nat} (h : n ≤ 98) : digC (UInt8.ofNat (48 + n / 10)) = true ∧ digC (UInt8.ofNat (48 + n % 10)) = true ∧ (UInt8.ofNat (48 + n / 10)).toNat = 48 + n / 10 ∧ (UInt8.ofNat (48 + n % 10)).toNat = 48 + n % 10 := by
  have e1 : (UInt8.ofNat (48 + n / 10)).toNat = 48 + n / 10 := by rw [UInt8.toNat_ofNat']; omega
  have e2 : (UInt8.ofNat (48 + n % 10)).toNat = 48 + n % 10 := by rw [UInt8.toNat_ofNat']; omega
  refine ⟨?_, ?_, e1, e2⟩
  · unfold digC; rw [e1]; simp; omega
  · unfold digC; rw [e2]; simp; omega
theorem chkL_inj {a b : List UInt8} (h : chkL a = chkL b) : modR a = modR b := by
  unfold chkL at h
  simp only [List.cons.injEq, and_true] at h
  have ha := chk_digits (chkN_bd a).2
  have hb := chk_digits (chkN_bd b).2
  have h1 := congrArg UInt8.toNat h.1
  have h2 := congrArg UInt8.toNat h.2
  rw [ha.2.2.1, hb.2.2.1] at h1
  rw [ha.2.2.2, hb.2.2.2] at h2
  have hn : chkN a = chkN b := by omega
  have l1 := modR_lt a
  have l2 := modR_lt b
  unfold chkN at hn
  omega
theorem chkL_length (l) : (chkL l).length = 2 := rfl
theorem sealL_length (l) : (sealL l).length = l.length + 3 := by simp [sealL, chkL_length]
theorem seal_take (l) : (sealL l).take l.length = l := by unfold sealL; rw [List.take_left]
theorem seal_parts (l : List UInt8) : (sealL l).getD l.length 0 = 47 ∧ digC ((sealL l).getD (l.length + 1) 0) = true ∧ digC ((sealL l).getD (l.length + 2) 0) = true ∧ (sealL l).drop (l.length + 1) = chkL l := by
  have h := chk_digits (chkN_bd l).2
  unfold sealL
  refine ⟨by simp, ?_, ?_, by rw [List.drop_append]; simp⟩
  · rw [List.getD_eq_getElem?_getD, List.getElem?_append_right (by omega), show l.length + 1 - l.length = 1 by omega]; exact h.1
  · rw [List.getD_eq_getElem?_getD, List.getElem?_append_right (by omega), show l.length + 2 - l.length = 2 by omega]; exact h.2.1
theorem idB_pos {l : List UInt8} (h : idB l = true) : 1 ≤ l.length ∧ l.length ≤ 64 := by
  have h' := h
  unfold idB at h
  simp only [Bool.and_eq_true, decide_eq_true_eq] at h
  refine ⟨?_, h.1.1⟩
  cases l with
  | nil => exact absurd h' (by decide)
  | cons c r => simp
/-- what is sealed is opened -/
theorem open_seal {l : List UInt8} (h : idB l = true) : openE (sealL l) = 0 ∧ openL (sealL l) = l := by
  have hp := idB_pos h
  have hs := seal_parts l
  have hl := sealL_length l
  have e : openE (sealL l) = 0 := by
    unfold openE
    rw [if_neg (by omega), hl, show l.length + 3 - 3 = l.length by omega, show l.length + 3 - 2 = l.length + 1 by omega, show l.length + 3 - 1 = l.length + 2 by omega, seal_take, if_neg (by rw [h, hs.1, hs.2.1, hs.2.2.1]; simp), if_pos hs.2.2.2]
  refine ⟨e, ?_⟩
  unfold openL
  rw [if_pos e, hl, show l.length + 3 - 3 = l.length by omega, seal_take]
theorem openE_zero {l : List UInt8} (h : openE l = 0) : 4 ≤ l.length ∧ idB (l.take (l.length - 3)) = true ∧ l.getD (l.length - 3) 0 = 47 ∧ l.drop (l.length - 2) = chkL (l.take (l.length - 3)) := by
  unfold openE at h
  by_cases h1 : l.length < 4
  · rw [if_pos h1] at h; omega
  rw [if_neg h1] at h
  split at h
  · omega
  rename_i h2
  split at h
  · rename_i h3
    refine ⟨by omega, ?_, ?_, h3⟩
    · cases hb : idB (l.take (l.length - 3))
      · exact absurd (.inl hb) h2
      · rfl
    · exact Classical.byContradiction fun hn => h2 (.inr (.inl hn))
  · omega
/-- what is opened was sealed -/
theorem seal_open {l : List UInt8} (h : openE l = 0) : idB (openL l) = true ∧ sealL (openL l) = l := by
  have hz := openE_zero h
  unfold openL
  rw [if_pos h]
  refine ⟨hz.2.1, ?_⟩
  unfold sealL
  rw [← hz.2.2.2]
  have hn : l.length - 3 < l.length := by omega
  have hd : l.drop (l.length - 3) = 47 :: l.drop (l.length - 2) := by
    rw [List.drop_eq_getElem_cons hn, show l.length - 3 + 1 = l.length - 2 by omega]
    have := hz.2.2.1
    rw [List.getD_eq_getElem?_getD, List.getElem?_eq_getElem hn] at this
    rw [show l[l.length - 3] = 47 from this]
  rw [← hd, List.take_append_drop]

/-! detecting -/
theorem joinL_mem {ls : List (List UInt8)} {c : UInt8} (h : c ∈ joinL ls) : c = 46 ∨ ∃ x ∈ ls, c ∈ x := by
  induction ls with
  | nil => simp [joinL] at h
  | cons x xs ih =>
    cases xs with
    | nil => exact .inr ⟨x, by simp, h⟩
    | cons y ys =>
      rw [joinL_cons (by simp), List.mem_append, List.mem_cons] at h
      rcases h with h | h | h
      · exact .inr ⟨x, by simp, h⟩
      · exact .inl h
      · rcases ih h with h | ⟨z, hz, hc⟩
        · exact .inl h
        · exact .inr ⟨z, by simp at hz ⊢; exact .inr hz, hc⟩
theorem idB_byte {l : List UInt8} (h : idB l = true) {c : UInt8} (hc : c ∈ l) : 45 ≤ c.toNat ∧ c.toNat ≤ 122 := by
  unfold idB at h
  simp only [Bool.and_eq_true, List.all_eq_true] at h
  rw [← join_cut l] at hc
  rcases joinL_mem hc with rfl | ⟨x, hx, hcx⟩
  · decide
  · have hn := h.2 x hx
    unfold nameB at hn
    simp only [Bool.and_eq_true, List.all_eq_true] at hn
    have := hn.2 c hcx
    unfold okC letC digC at this
    simp only [Bool.or_eq_true, Bool.and_eq_true, decide_eq_true_eq, beq_iff_eq] at this
    rcases this with (((h | h) | h) | rfl) | rfl
    · omega
    · omega
    · omega
    · decide
    · decide
theorem fold_add (l : List UInt8) : ∀ r : Nat, l.foldl (fun r c => 256 * r + c.toNat) r = r * 256 ^ l.length + valR l := by
  induction l with
  | nil => intro r; simp [valR]
  | cons c l ih =>
    intro r
    have h0 : valR (c :: l) = l.foldl (fun r c => 256 * r + c.toNat) (256 * 0 + c.toNat) := rfl
    rw [List.foldl_cons, ih, h0, ih, List.length_cons, Nat.pow_succ]
    have e : r * (256 ^ l.length * 256) = 256 * r * 256 ^ l.length := by rw [Nat.mul_comm (256 ^ l.length) 256, ← Nat.mul_assoc, Nat.mul_comm r 256]
    rw [e, Nat.add_mul, Nat.mul_zero, Nat.zero_add]; omega
theorem valR_append (x y : List UInt8) : valR (x ++ y) = valR x * 256 ^ y.length + valR y := by
  unfold valR
  rw [List.foldl_append]; exact fold_add y _
theorem valR_cons (c : UInt8) (y : List UInt8) : valR (c :: y) = c.toNat * 256 ^ y.length + valR y := by
  have := valR_append [c] y
  simpa [valR] using this
theorem cop_pow (k : Nat) : Nat.Coprime 97 (256 ^ k) := Nat.Coprime.pow_right k (by decide)
theorem mod_cancel {a b d p : Nat} (hp : Nat.Coprime 97 p) (h : (a * p + d) % 97 = (b * p + d) % 97) : a % 97 = b % 97 := by
  have key : ∀ {a b : Nat}, a ≤ b → (a * p + d) % 97 = (b * p + d) % 97 → a % 97 = b % 97 := by
    intro a b hab h
    have h1 : 97 ∣ (b - a) * p := by
      rw [Nat.sub_mul]
      have : a * p ≤ b * p := Nat.mul_le_mul_right p hab
      omega
    have h2 := Nat.Coprime.dvd_of_dvd_mul_right hp h1
    omega
  rcases Nat.le_total a b with h1 | h1
  · exact key h1 h
  · exact (key h1 h.symm).symm
theorem replaced {x y : List UInt8} {c d : UInt8} (h1 : idB (x ++ c :: y) = true) (h2 : idB (x ++ d :: y) = true) (h : modR (x ++ c :: y) = modR (x ++ d :: y)) : c = d := by
  have b1 := idB_byte h1 (c := c) (by simp)
  have b2 := idB_byte h2 (c := d) (by simp)
  rw [modR_val, modR_val, valR_append, valR_append, valR_cons, valR_cons, List.length_cons, List.length_cons] at h
  have h' : (c.toNat * 256 ^ y.length + (valR x * 256 ^ (y.length + 1) + valR y)) % 97 = (d.toNat * 256 ^ y.length + (valR x * 256 ^ (y.length + 1) + valR y)) % 97 := by
    rw [show c.toNat * 256 ^ y.length + (valR x * 256 ^ (y.length + 1) + valR y) = valR x * 256 ^ (y.length + 1) + (c.toNat * 256 ^ y.length + valR y) by omega, h]
    congr 1; omega
  have := mod_cancel (cop_pow _) h'
  exact UInt8.toNat_inj.1 (by omega)
theorem exchanged {x y : List UInt8} {c d : UInt8} (h1 : idB (x ++ c :: d :: y) = true) (h : modR (x ++ c :: d :: y) = modR (x ++ d :: c :: y)) : c = d := by
  have b1 := idB_byte h1 (c := c) (by simp)
  have b2 := idB_byte h1 (c := d) (by simp)
  rw [modR_val, modR_val, valR_append, valR_append, valR_cons, valR_cons, valR_cons, valR_cons] at h
  simp only [List.length_cons, Nat.pow_succ] at h
  generalize hq : 256 ^ y.length = q at h
  have hc : Nat.Coprime 97 q := by rw [← hq]; exact cop_pow _
  have e : ∀ a b : Nat, a * (q * 256) + (b * q + valR y) = (a * 256 + b) * q + valR y := fun a b => by
    rw [Nat.add_mul, Nat.mul_comm q 256, ← Nat.mul_assoc]; omega
  rw [e, e] at h
  have h' : ((c.toNat * 256 + d.toNat) * q + (valR x * (q * 256 * 256) + valR y)) % 97 = ((d.toNat * 256 + c.toNat) * q + (valR x * (q * 256 * 256) + valR y)) % 97 := by
    rw [show (c.toNat * 256 + d.toNat) * q + (valR x * (q * 256 * 256) + valR y) = valR x * (q * 256 * 256) + ((c.toNat * 256 + d.toNat) * q + valR y) by omega, h]
    congr 1; omega
  have h2 := mod_cancel hc h'
  have h3 : (255 * c.toNat) % 97 = (255 * d.toNat) % 97 := by omega
  exact UInt8.toNat_inj.1 (by omega)
/-- a replaced byte is detected -/
theorem detect_one {x y : List UInt8} {c d : UInt8} (h : idB (x ++ c :: y) = true) (hne : c ≠ d) : openE ((x ++ d :: y) ++ 47 :: chkL (x ++ c :: y)) ≠ 0 := by
  intro hz
  have hz' := openE_zero hz
  have hl : ((x ++ d :: y) ++ 47 :: chkL (x ++ c :: y)).length = (x ++ d :: y).length + 3 := by rw [List.length_append, List.length_cons, chkL_length]
  rw [hl, show (x ++ d :: y).length + 3 - 3 = (x ++ d :: y).length by omega, List.take_left, show (x ++ d :: y).length + 3 - 2 = (x ++ d :: y).length + 1 by omega] at hz'
  have hd : ((x ++ d :: y) ++ 47 :: chkL (x ++ c :: y)).drop ((x ++ d :: y).length + 1) = chkL (x ++ c :: y) := by
    rw [List.drop_append, List.drop_eq_nil_of_le (by omega), show (x ++ d :: y).length + 1 - (x ++ d :: y).length = 1 by omega]; rfl
  rw [hd] at hz'
  exact hne (replaced h hz'.2.1 (chkL_inj hz'.2.2.2))
/-- two exchanged neighbours are detected -/
theorem detect_two {x y : List UInt8} {c d : UInt8} (h : idB (x ++ c :: d :: y) = true) (hne : c ≠ d) : openE ((x ++ d :: c :: y) ++ 47 :: chkL (x ++ c :: d :: y)) ≠ 0 := by
  intro hz
  have hz' := openE_zero hz
  have hl : ((x ++ d :: c :: y) ++ 47 :: chkL (x ++ c :: d :: y)).length = (x ++ d :: c :: y).length + 3 := by rw [List.length_append, List.length_cons, chkL_length]
  rw [hl, show (x ++ d :: c :: y).length + 3 - 3 = (x ++ d :: c :: y).length by omega, List.take_left, show (x ++ d :: c :: y).length + 3 - 2 = (x ++ d :: c :: y).length + 1 by omega] at hz'
  have hd : ((x ++ d :: c :: y) ++ 47 :: chkL (x ++ c :: d :: y)).drop ((x ++ d :: c :: y).length + 1) = chkL (x ++ c :: d :: y) := by
    rw [List.drop_append, List.drop_eq_nil_of_le (by omega), show (x ++ d :: c :: y).length + 1 - (x ++ d :: c :: y).length = 1 by omega]; rfl
  rw [hd] at hz'
  exact hne (exchanged h (chkL_inj hz'.2.2.2))
end Go.Proofs.YtlmfcigabojbmaaGreatDoor
