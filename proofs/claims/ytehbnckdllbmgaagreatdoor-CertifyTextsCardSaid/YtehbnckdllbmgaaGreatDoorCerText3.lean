/- What the library's functions of strings make of a certificate's text; in plain Lean. -/
import Derived.Test.YtehbnckdllbmgaaGreatDoorCerSpec4
import Derived.Test.YtehbnckdllbmgaaGreatDoorCalDate
import Derived.Lib.Join
import Derived.Lib.AtoiAll
import Derived.Lib.IndexMore
set_option linter.unusedSimpArgs false
set_option linter.unusedVariables false

/- Certificates as texts: numbers, lines, reading them back; in plain Lean. -/
namespace Go.Proofs.YtehbnckdllbmgaaGreatDoor
/-! what stands between blanks -/
def cutW : List UInt8 → List (List UInt8)
  | [] => [[]]
  | c :: r => if c = 32 then [] :: cutW r else match cutW r with
    | [] => [[c]]
    | x :: xs => (c :: x) :: xs
def joinW : List (List UInt8) → List UInt8
  | [] => []
  | [x] => x
  | x :: y :: xs => x ++ 32 :: joinW (y :: xs)
theorem cutW_ne (l : List UInt8) : cutW l ≠ [] := by
  cases l with
  | nil => simp [cutW]
  | cons c r =>
    unfold cutW
    split
    · simp
    · split <;> simp
theorem cutW_sp (r : List UInt8) : cutW (32 :: r) = [] :: cutW r := by rw [cutW, if_pos rfl]
theorem cutW_other {c : UInt8} {r : List UInt8} (h : c ≠ 32) : ∃ x xs, cutW r = x :: xs ∧ cutW (c :: r) = (c :: x) :: xs := by
  cases e : cutW r with
  | nil => exact absurd e (cutW_ne r)
  | cons x xs => exact ⟨x, xs, rfl, by rw [cutW, if_neg h, e]⟩
theorem joinW_cons {x : List UInt8} {xs : List (List UInt8)} (h : xs ≠ []) : joinW (x :: xs) = x ++ 32 :: joinW xs := by
  cases xs with
  | nil => exact absurd rfl h
  | cons y xs => rfl
theorem joinW_cut (l : List UInt8) : joinW (cutW l) = l := by
  induction l with
  | nil => rfl
  | cons c r ih =>
    by_cases h : c = 32
    · subst h
      rw [cutW_sp, joinW_cons (cutW_ne r), ih]; rfl
    · obtain ⟨x, xs, e1, e2⟩ := cutW_other (r := r) h
      rw [e2]
      rw [e1] at ih
      cases xs with
      | nil => simp [joinW] at ih ⊢; exact ih
      | cons y ys => rw [joinW_cons (by simp)] at ih ⊢; rw [← ih]; rfl
theorem cutW_plain {x : List UInt8} (h : ∀ c ∈ x, c ≠ 32) : cutW x = [x] := by
  induction x with
  | nil => rfl
  | cons c r ih =>
    obtain ⟨y, ys, e1, e2⟩ := cutW_other (c := c) (r := r) (h c (by simp))
    rw [ih fun d hd => h d (by simp [hd])] at e1
    simp at e1
    rw [e2, ← e1.1, ← e1.2]
theorem cutW_append {x r : List UInt8} (h : ∀ c ∈ x, c ≠ 32) : cutW (x ++ 32 :: r) = x :: cutW r := by
  induction x with
  | nil => exact cutW_sp r
  | cons c x ih =>
    obtain ⟨y, ys, e1, e2⟩ := cutW_other (c := c) (r := x ++ 32 :: r) (h c (by simp))
    rw [ih fun d hd => h d (by simp [hd])] at e1
    simp at e1
    rw [List.cons_append, e2, ← e1.1, ← e1.2]
theorem cutW_join {ls : List (List UInt8)} (h0 : ls ≠ []) (h : ∀ x ∈ ls, ∀ c ∈ x, c ≠ 32) : cutW (joinW ls) = ls := by
  induction ls with
  | nil => exact absurd rfl h0
  | cons x xs ih =>
    cases xs with
    | nil => exact cutW_plain (h x (by simp))
    | cons y ys =>
      rw [joinW_cons (by simp), cutW_append (h x (by simp)), ih (by simp) fun z hz => h z (by simp [hz])]
theorem joinW_length {ls : List (List UInt8)} (h : ls ≠ []) : (joinW ls).length + 1 = (ls.map List.length).sum + ls.length := by
  induction ls with
  | nil => exact absurd rfl h
  | cons x xs ih =>
    cases xs with
    | nil => simp [joinW]
    | cons y ys =>
      rw [joinW_cons (by simp), List.length_append, List.length_cons, List.map_cons, List.sum_cons, List.length_cons]
      have := ih (by simp)
      omega

theorem index_sp {x r : List UInt8} (h : 32 ∉ x) : Go.Lib.index (x ++ 32 :: r) [32] = x.length := by
  induction x with
  | nil => simp [Go.Lib.index, List.isPrefixOf]
  | cons c x ih =>
    simp only [List.mem_cons, not_or] at h
    rw [List.cons_append, Go.Lib.index, ih h.2, if_neg (by simp [List.isPrefixOf]; exact h.1), if_neg (by rw [beq_iff_eq]; omega)]
    simp
theorem index_nosp {x : List UInt8} (h : 32 ∉ x) : Go.Lib.index x [32] = -1 := by
  induction x with
  | nil => rfl
  | cons c x ih =>
    simp only [List.mem_cons, not_or] at h
    rw [Go.Lib.index, ih h.2, if_neg (by simp [List.isPrefixOf]; exact h.1)]; rfl
theorem splitK_sp : ∀ (k : Nat) (l : List UInt8), l.count 32 ≤ k → Go.Lib.splitK [32] 0 k l = cutW l := by
  intro k
  induction k with
  | zero =>
    intro l h
    have h0 : ∀ c ∈ l, c ≠ 32 := fun c hc e => by subst e; have := List.count_pos_iff.2 hc; omega
    rw [cutW_plain h0]; rfl
  | succ k ih =>
    intro l h
    by_cases hm : (32 : UInt8) ∈ l
    · obtain ⟨x, r, rfl, hx⟩ := List.eq_append_cons_of_mem hm
      have hi := index_sp (x := x) (r := r) hx
      rw [Go.Lib.splitK, hi, if_neg (by rw [beq_iff_eq]; omega), cutW_append fun c hc e => hx (e ▸ hc)]
      have e1 : ((x.length : Int).toNat + 0) = x.length := by omega
      have e2 : ((x.length : Int).toNat + [(32 : UInt8)].length) = x.length + 1 := by simp
      rw [e1, e2, List.take_left, show (x ++ 32 :: r).drop (x.length + 1) = r by rw [List.drop_append]; simp, ih r (by simp [List.count_append, List.count_cons] at h; omega)]
    · rw [Go.Lib.splitK, index_nosp hm, cutW_plain fun c hc e => hm (e ▸ hc)]; rfl
theorem count_sp : ∀ (n : Nat) (l : List UInt8), l.length = n → Go.Lib.count l [32] = l.count 32 := by
  intro n
  induction n using Nat.strongRecOn with
  | _ n ih =>
    intro l hl
    by_cases hm : (32 : UInt8) ∈ l
    · obtain ⟨x, r, rfl, hx⟩ := List.eq_append_cons_of_mem hm
      have hx0 : x.count 32 = 0 := List.count_eq_zero.2 hx
      rw [Go.Lib.count_hit (by simp) (index_sp hx), show (x ++ 32 :: r).drop (x.length + [(32 : UInt8)].length) = r by rw [List.drop_append]; simp, ih r.length (by simp at hl; omega) r rfl, List.count_append, List.count_cons, hx0]
      simp; omega
    · rw [Go.Lib.count_miss (index_nosp hm), List.count_eq_zero.2 hm]
theorem split_sp (l : List UInt8) : Go.Lib.split l [32] = cutW l := splitK_sp _ l (by rw [count_sp _ l rfl]; exact Nat.le_refl _)
theorem cutW_length (l : List UInt8) : (cutW l).length = l.count 32 + 1 := by
  induction l with
  | nil => rfl
  | cons c r ih =>
    by_cases h : c = 32
    · subst h; rw [cutW_sp, List.length_cons, ih, List.count_cons]; simp
    · obtain ⟨x, xs, e1, e2⟩ := cutW_other (r := r) h
      rw [e1] at ih
      rw [e2, List.count_cons, List.length_cons, if_neg (by simpa using h)]
      simp at ih; omega
/-! numbers -/
theorem itoa_nat (n : Nat) : Lib.itoa n = Lib.decDigits n := by unfold Lib.itoa; rw [if_neg (by omega), Int.toNat_natCast]
theorem itoa_neg {n : Int} (h : n < 0) : Lib.itoa n = 45 :: Lib.decDigits n.natAbs := by unfold Lib.itoa; rw [if_pos h]
theorem itoa_pos {n : Int} (h : 0 ≤ n) : Lib.itoa n = Lib.decDigits n.toNat := by unfold Lib.itoa; rw [if_neg (by omega)]
theorem itoa_ne (n : Int) : Lib.itoa n ≠ [] := by
  by_cases h : n < 0
  · rw [itoa_neg h]; simp
  · rw [itoa_pos (by omega)]; exact dec_ne _
theorem itoa_mem {n : Int} {c : UInt8} (h : c ∈ Lib.itoa n) : c = 45 ∨ digC c = true := by
  have key : ∀ m, c ∈ Lib.decDigits m → digC c = true := fun m hm => List.all_eq_true.1 (dec_all m) c hm
  by_cases hn : n < 0
  · rw [itoa_neg hn] at h
    rcases List.mem_cons.1 h with h | h
    · exact .inl h
    · exact .inr (key _ h)
  · rw [itoa_pos (by omega)] at h; exact .inr (key _ h)
theorem itoa_no {n : Int} {c : UInt8} (h : c ∈ Lib.itoa n) : c ≠ 32 ∧ c ≠ 58 ∧ c ≠ 10 := by
  rcases itoa_mem h with rfl | h
  · decide
  · refine ⟨?_, ?_, ?_⟩ <;> rintro rfl <;> exact absurd h (by decide)
theorem dec_inj {a b : Nat} (h : Lib.decDigits a = Lib.decDigits b) : a = b := by rw [← numL_dec a, h, numL_dec]
theorem dec_no45 (a : Nat) (r : List UInt8) : Lib.decDigits a ≠ 45 :: r := by
  intro h
  have := dec_all a
  rw [h] at this
  simp [digC] at this
theorem itoa_inj {a b : Int} (h : Lib.itoa a = Lib.itoa b) : a = b := by
  by_cases ha : a < 0
  · by_cases hb : b < 0
    · rw [itoa_neg ha, itoa_neg hb] at h
      have := dec_inj (List.cons.inj h).2
      omega
    · rw [itoa_neg ha, itoa_pos (by omega)] at h
      exact absurd h.symm (dec_no45 _ _)
  · by_cases hb : b < 0
    · rw [itoa_neg hb, itoa_pos (by omega)] at h
      exact absurd h (dec_no45 _ _)
    · rw [itoa_pos (by omega), itoa_pos (by omega)] at h
      have := dec_inj h
      omega
/-- a number that a text may have -/
def okN (n : Int) : Bool := decide (0 ≤ n) && decide (n ≤ 1099511627776)
theorem okN_iff {n : Int} : okN n = true ↔ 0 ≤ n ∧ n ≤ 1099511627776 := by unfold okN; simp
/-- the number of a text -/
def numP (x : List UInt8) : Option Int := if x ≠ [] ∧ x.all digC = true ∧ plainD x = true ∧ numL x ≤ 1099511627776 then some (numL x : Int) else none
theorem numP_iff {x : List UInt8} {n : Int} : numP x = some n ↔ okN n = true ∧ Lib.itoa n = x := by
  unfold numP
  constructor
  · intro h
    split at h
    · rename_i hc
      cases h
      refine ⟨okN_iff.2 ⟨by omega, by omega⟩, ?_⟩
      rw [itoa_nat]
      exact dec_numL _ x rfl hc.1 hc.2.1 hc.2.2.1
    · cases h
  · rintro ⟨h1, rfl⟩
    obtain ⟨h2, h3⟩ := okN_iff.1 h1
    obtain ⟨k, rfl⟩ : ∃ k : Nat, n = k := ⟨n.toNat, by omega⟩
    rw [itoa_nat, if_pos ⟨dec_ne _, dec_all _, plainD_dec _, by rw [numL_dec]; omega⟩, numL_dec]
theorem numP_itoa {n : Int} (h : okN n = true) : numP (Lib.itoa n) = some n := numP_iff.2 ⟨h, rfl⟩
theorem numP_none {x : List UInt8} (h : ∀ n, okN n = true → Lib.itoa n ≠ x) : numP x = none := by
  cases hx : numP x with
  | none => rfl
  | some n => have := numP_iff.1 hx; exact absurd this.2 (h n this.1)

/-! a line -/
def lineB (c : Cut) : List UInt8 := joinW (c.1.map Lib.itoa) ++ 58 :: 32 :: Lib.itoa c.2
def lineT (c : Cut) : List UInt8 := lineB c ++ [10]
def textT (L : List Cut) : List UInt8 := L.flatMap lineT
def fitC (c : Cut) : Bool := okN c.2 && c.1.all okN
/-- the first colon with a blank behind it -/
def cut2 : List UInt8 → Option (List UInt8 × List UInt8)
  | [] => none
  | c :: r => if c = 58 ∧ r.head? = some 32 then some ([], r.drop 1) else match cut2 r with
    | none => none
    | some (a, b) => some (c :: a, b)
def allN : List (List UInt8) → Option (List Int)
  | [] => some []
  | x :: xs => match numP x with
    | none => none
    | some n => match allN xs with
      | none => none
      | some ns => some (n :: ns)
/-- the cut of a line -/
def cutS (x : List UInt8) : Option Cut := match cut2 x with
  | none => none
  | some (a, b) => match numP b with
    | none => none
    | some st => if a = [] then some ([], st) else match allN (cutW a) with
      | none => none
      | some ns => some (ns, st)
theorem cut2_some : ∀ {x a b : List UInt8}, cut2 x = some (a, b) → x = a ++ 58 :: 32 :: b
  | [], a, b, h => by cases h
  | c :: r, a, b, h => by
    unfold cut2 at h
    split at h
    · rename_i hc
      cases h
      obtain ⟨rfl, h2⟩ := hc
      cases r with
      | nil => cases h2
      | cons d t => simp at h2; subst h2; rfl
    · cases h2 : cut2 r with
      | none => rw [h2] at h; cases h
      | some ab =>
        obtain ⟨a', b'⟩ := ab
        rw [h2] at h
        cases h
        rw [cut2_some h2]; rfl
theorem cut2_app : ∀ {a : List UInt8} (b : List UInt8), 58 ∉ a → cut2 (a ++ 58 :: 32 :: b) = some (a, b)
  | [], b, _ => by simp [cut2]
  | c :: a, b, h => by
    simp only [List.mem_cons, not_or] at h
    rw [List.cons_append, cut2, if_neg (fun e => h.1 e.1.symm), cut2_app b h.2]
theorem allN_map : ∀ {ns : List Int}, ns.all okN = true → allN (ns.map Lib.itoa) = some ns
  | [], _ => rfl
  | n :: ns, h => by
    simp only [List.all_cons, Bool.and_eq_true] at h
    rw [List.map_cons, allN, numP_itoa h.1, allN_map h.2]
theorem allN_some : ∀ {xs : List (List UInt8)} {ns : List Int}, allN xs = some ns → ns.all okN = true ∧ ns.map Lib.itoa = xs
  | [], ns, h => by cases h; exact ⟨rfl, rfl⟩
  | x :: xs, ns, h => by
    unfold allN at h
    cases h1 : numP x with
    | none => rw [h1] at h; cases h
    | some n =>
      rw [h1] at h
      dsimp only at h
      cases h2 : allN xs with
      | none => rw [h2] at h; cases h
      | some ms =>
        rw [h2] at h
        cases h
        obtain ⟨a1, a2⟩ := allN_some h2
        obtain ⟨b1, b2⟩ := numP_iff.1 h1
        exact ⟨by simp [b1, a1], by rw [List.map_cons, b2, a2]⟩
theorem allN_append : ∀ (xs ys : List (List UInt8)), allN (xs ++ ys) = match allN xs with
    | none => none
    | some a => match allN ys with
      | none => none
      | some b => some (a ++ b)
  | [], ys => by simp only [List.nil_append, allN]; cases allN ys <;> rfl
  | x :: xs, ys => by
    rw [List.cons_append, allN, allN_append xs ys, allN]
    cases numP x with
    | none => rfl
    | some n =>
      dsimp only
      cases allN xs with
      | none => rfl
      | some a =>
        dsimp only
        cases allN ys <;> rfl
theorem joinW_mem : ∀ {xs : List (List UInt8)} {c : UInt8}, c ∈ joinW xs → c = 32 ∨ ∃ x ∈ xs, c ∈ x
  | [], c, h => by cases h
  | [x], c, h => .inr ⟨x, by simp, h⟩
  | x :: y :: xs, c, h => by
    unfold joinW at h
    rcases List.mem_append.1 h with h | h
    · exact .inr ⟨x, by simp, h⟩
    · rcases List.mem_cons.1 h with h | h
      · exact .inl h
      · rcases joinW_mem h with h | ⟨z, hz, hc⟩
        · exact .inl h
        · exact .inr ⟨z, by simp at hz ⊢; exact .inr hz, hc⟩
theorem joinI_no {l : List Int} {c : UInt8} (h : c ∈ joinW (l.map Lib.itoa)) : c ≠ 58 ∧ c ≠ 10 := by
  rcases joinW_mem h with rfl | ⟨x, hx, hc⟩
  · decide
  · obtain ⟨n, _, rfl⟩ := List.mem_map.1 hx
    exact (itoa_no hc).2
theorem cutI {l : List Int} (h : l ≠ []) : cutW (joinW (l.map Lib.itoa)) = l.map Lib.itoa :=
  cutW_join (by simpa using h) fun x hx c hc => by
    obtain ⟨n, _, rfl⟩ := List.mem_map.1 hx
    exact (itoa_no hc).1
theorem joinI_ne {l : List Int} (h : l ≠ []) : joinW (l.map Lib.itoa) ≠ [] := by
  intro e
  have := cutI h
  rw [e] at this
  cases l with
  | nil => exact h rfl
  | cons n l =>
    simp only [cutW, List.map_cons] at this
    exact itoa_ne n (List.cons.inj this).1.symm
theorem map_itoa_inj : ∀ {a b : List Int}, a.map Lib.itoa = b.map Lib.itoa → a = b
  | [], [], _ => rfl
  | [], _ :: _, h => by simp at h
  | _ :: _, [], h => by simp at h
  | x :: a, y :: b, h => by
    simp only [List.map_cons, List.cons.injEq] at h
    rw [itoa_inj h.1, map_itoa_inj h.2]
theorem lineB_cut2 (c : Cut) : cut2 (lineB c) = some (joinW (c.1.map Lib.itoa), Lib.itoa c.2) := cut2_app _ fun h => (joinI_no h).1 rfl
theorem lineB_inj {c d : Cut} (h : lineB c = lineB d) : c = d := by
  have h1 := lineB_cut2 c
  rw [h, lineB_cut2 d] at h1
  simp only [Option.some.injEq, Prod.mk.injEq] at h1
  obtain ⟨c1, c2⟩ := c
  obtain ⟨d1, d2⟩ := d
  obtain ⟨e1, e2⟩ := h1
  dsimp only at e1 e2
  rw [itoa_inj e2]
  congr 1
  by_cases hc : c1 = []
  · subst hc
    by_cases hd : d1 = []
    · exact hd.symm
    · exact absurd e1 (joinI_ne hd)
  · by_cases hd : d1 = []
    · subst hd; exact absurd e1.symm (joinI_ne hc)
    · have := cutI hc
      rw [← e1, cutI hd] at this
      exact (map_itoa_inj this).symm
theorem cutS_line {c : Cut} (h : fitC c = true) : cutS (lineB c) = some c := by
  unfold fitC at h
  simp only [Bool.and_eq_true] at h
  unfold cutS
  rw [lineB_cut2]
  dsimp only
  rw [numP_itoa h.1]
  dsimp only
  obtain ⟨l, s⟩ := c
  by_cases e : l = []
  · subst e; rfl
  · rw [if_neg (joinI_ne e), cutI e, allN_map h.2]
theorem cutS_some {x : List UInt8} {c : Cut} (h : cutS x = some c) : fitC c = true ∧ lineB c = x := by
  unfold cutS at h
  cases h1 : cut2 x with
  | none => rw [h1] at h; cases h
  | some ab =>
    obtain ⟨a, b⟩ := ab
    rw [h1] at h
    dsimp only at h
    cases h2 : numP b with
    | none => rw [h2] at h; cases h
    | some st =>
      rw [h2] at h
      dsimp only at h
      obtain ⟨k1, k2⟩ := numP_iff.1 h2
      have hx := cut2_some h1
      by_cases e : a = []
      · rw [if_pos e] at h
        cases h
        subst e
        refine ⟨by simp [fitC, k1], ?_⟩
        rw [hx, ← k2]; rfl
      · rw [if_neg e] at h
        cases h3 : allN (cutW a) with
        | none => rw [h3] at h; cases h
        | some ns =>
          rw [h3] at h
          cases h
          obtain ⟨m1, m2⟩ := allN_some h3
          refine ⟨by simp [fitC, k1, m1], ?_⟩
          unfold lineB
          dsimp only
          rw [m2, joinW_cut, k2, hx]
theorem cutS_iff {x : List UInt8} {c : Cut} : cutS x = some c ↔ fitC c = true ∧ lineB c = x :=
  ⟨cutS_some, fun ⟨h1, h2⟩ => by rw [← h2]; exact cutS_line h1⟩
theorem cutS_unfit {c : Cut} (h : fitC c = false) : cutS (lineB c) = none := by
  cases e : cutS (lineB c) with
  | none => rfl
  | some d =>
    obtain ⟨h1, h2⟩ := cutS_some e
    rw [lineB_inj h2, h] at h1; cases h1
theorem lineB_no {c : Cut} {b : UInt8} (h : b ∈ lineB c) : b ≠ 10 := by
  unfold lineB at h
  rcases List.mem_append.1 h with h | h
  · exact (joinI_no h).2
  · rcases List.mem_cons.1 h with h | h
    · subst h; decide
    · rcases List.mem_cons.1 h with h | h
      · subst h; decide
      · exact (itoa_no h).2.2

/-! the whole text -/
def lnL (r : List UInt8) : List UInt8 := r.takeWhile fun c => c != 10
def parseG : Nat → List UInt8 → Nat → List Cut → List Cut × Int × Int
  | 0, _, _, acc => (acc, 0, 0)
  | f + 1, r, at_, acc => if r = [] then (acc, 0, 0) else if acc.length = 20000 then ([], 4, at_) else
    if (lnL r).length = r.length then ([], 5, at_) else match cutS (lnL r) with
      | none => ([], 5, at_)
      | some c => parseG f (r.drop ((lnL r).length + 1)) (at_ + (lnL r).length + 1) (acc ++ [c])
def parseT (s : List UInt8) : List Cut × Int × Int := parseG s.length s 0 []
theorem lnL_app {x r : List UInt8} (h : ∀ c ∈ x, c ≠ 10) : lnL (x ++ 10 :: r) = x := by
  unfold lnL
  induction x with
  | nil => simp [List.takeWhile_cons]
  | cons c x ih =>
    rw [List.cons_append, List.takeWhile_cons, if_pos (by simpa using h c (by simp)), ih fun d hd => h d (by simp [hd])]
theorem lnL_split {r : List UInt8} (h : (lnL r).length ≠ r.length) : r = lnL r ++ 10 :: r.drop ((lnL r).length + 1) := by
  unfold lnL at *
  induction r with
  | nil => exact absurd rfl h
  | cons c r ih =>
    by_cases e : c = 10
    · subst e; simp [List.takeWhile_cons]
    · rw [List.takeWhile_cons, if_pos (by simpa using e)] at h ⊢
      simp only [List.length_cons, List.cons_append, List.drop_succ_cons, List.cons.injEq, true_and]
      exact ih fun he => h (by simp [he])
theorem lnL_le (r : List UInt8) : (lnL r).length ≤ r.length := (List.takeWhile_sublist _).length_le
theorem textT_cons (c : Cut) (L : List Cut) : textT (c :: L) = lineB c ++ 10 :: textT L := by unfold textT lineT; simp
theorem parseG_nil {f at_ acc} : parseG f [] at_ acc = (acc, 0, 0) := by cases f <;> simp [parseG]
theorem parseG_step {f : Nat} {r : List UInt8} {at_ : Nat} {acc : List Cut} (h0 : r ≠ []) (h1 : acc.length ≠ 20000) (h2 : (lnL r).length ≠ r.length) {c : Cut} (h3 : cutS (lnL r) = some c) :
    parseG (f + 1) r at_ acc = parseG f (r.drop ((lnL r).length + 1)) (at_ + (lnL r).length + 1) (acc ++ [c]) := by
  rw [parseG, if_neg h0, if_neg h1, if_neg h2, h3]
theorem parse_text : ∀ (L : List Cut) (f at_ : Nat) (acc : List Cut), (textT L).length ≤ f → acc.length + L.length ≤ 20000 → ∃ to : Int, parseG f (textT L) at_ acc = if L.all fitC = true then (acc ++ L, 0, 0) else ([], 5, to)
  | [], f, at_, acc, _, _ => ⟨0, by simp [textT, parseG_nil]⟩
  | c :: L, f, at_, acc, hf, hl => by
    rw [textT_cons] at hf ⊢
    simp only [List.length_cons] at hl
    have hne : lineB c ++ 10 :: textT L ≠ [] := by simp
    have hln := lnL_app (x := lineB c) (r := textT L) fun b hb => lineB_no hb
    have hlen : (lnL (lineB c ++ 10 :: textT L)).length ≠ (lineB c ++ 10 :: textT L).length := by rw [hln]; simp
    cases f with
    | zero => simp at hf
    | succ f =>
      cases hc : fitC c with
      | false =>
        refine ⟨at_, ?_⟩
        rw [if_neg (by simp [hc]), parseG, if_neg hne, if_neg (by omega), if_neg hlen, hln, cutS_unfit hc]
      | true =>
        rw [parseG_step hne (by omega) hlen (by rw [hln]; exact cutS_line hc), hln]
        have hd : (lineB c ++ 10 :: textT L).drop ((lineB c).length + 1) = textT L := by rw [List.drop_append]; simp
        rw [hd]
        obtain ⟨to, e⟩ := parse_text L f (at_ + (lineB c).length + 1) (acc ++ [c]) (by simp at hf; omega) (by simp; omega)
        refine ⟨to, ?_⟩
        rw [e, List.all_cons, hc, Bool.true_and, List.append_assoc]; rfl
theorem parse_back : ∀ (f : Nat) (r : List UInt8) (at_ : Nat) (acc : List Cut) (x : List Cut) (e to : Int), r.length ≤ f → parseG f r at_ acc = (x, e, to) →
    (e = 0 → to = 0 ∧ ∃ L, x = acc ++ L ∧ textT L = r) ∧ (e ≠ 0 → x = [] ∧ (at_ : Int) ≤ to ∧ to < at_ + r.length)
  | 0, r, at_, acc, x, e, to, hf, h => by
    have hr : r = [] := List.eq_nil_of_length_eq_zero (by omega)
    subst hr
    cases h
    exact ⟨fun _ => ⟨rfl, [], by simp, rfl⟩, fun h => absurd rfl h⟩
  | f + 1, r, at_, acc, x, e, to, hf, h => by
    by_cases h0 : r = []
    · subst h0
      rw [parseG_nil] at h
      cases h
      exact ⟨fun _ => ⟨rfl, [], by simp, rfl⟩, fun h => absurd rfl h⟩
    · have hp := List.length_pos_iff.2 h0
      rw [parseG, if_neg h0] at h
      by_cases h1 : acc.length = 20000
      · rw [if_pos h1] at h
        cases h
        exact ⟨fun h => (by cases h), fun _ => ⟨rfl, Int.le_refl _, by omega⟩⟩
      · rw [if_neg h1] at h
        by_cases h2 : (lnL r).length = r.length
        · rw [if_pos h2] at h
          cases h
          exact ⟨fun h => (by cases h), fun _ => ⟨rfl, Int.le_refl _, by omega⟩⟩
        · rw [if_neg h2] at h
          have hs := lnL_split h2
          have hle := lnL_le r
          cases h3 : cutS (lnL r) with
          | none =>
            rw [h3] at h
            cases h
            exact ⟨fun h => (by cases h), fun _ => ⟨rfl, Int.le_refl _, by omega⟩⟩
          | some c =>
            rw [h3] at h
            dsimp only at h
            have hd : (r.drop ((lnL r).length + 1)).length = r.length - ((lnL r).length + 1) := by simp
            obtain ⟨k1, k2⟩ := parse_back f _ _ _ x e to (by omega) h
            refine ⟨fun he => ?_, fun he => ?_⟩
            · obtain ⟨m1, L, m2, m3⟩ := k1 he
              refine ⟨m1, c :: L, by rw [m2, List.append_assoc]; rfl, ?_⟩
              rw [textT_cons, m3, (cutS_some h3).2]
              exact hs.symm
            · obtain ⟨m1, m2, m3⟩ := k2 he
              exact ⟨m1, by omega, by omega⟩
/-- lines of the empty prefix -/
def zeroT (k : Nat) : List UInt8 := textT (List.replicate k ([], 0))
theorem zero_line : lineB ([], 0) = [58, 32, 48] := by simp [lineB, joinW, Lib.itoa, Lib.decDigits_one]
theorem zeroT_succ (k : Nat) : zeroT (k + 1) = [58, 32, 48, 10] ++ zeroT k := by
  unfold zeroT
  rw [List.replicate_succ, textT_cons, zero_line]; rfl
theorem zeroT_len (k : Nat) : (zeroT k).length = 4 * k := by
  induction k with
  | zero => rfl
  | succ k ih => rw [zeroT_succ, List.length_append, ih]; simp; omega
theorem zero_fit : fitC ([], 0) = true := by simp [fitC, okN]
theorem parse_zero : ∀ (k f at_ : Nat) (acc : List Cut), 4 * k ≤ f → acc.length ≤ 20000 → 20000 < acc.length + k → parseG f (zeroT k) at_ acc = ([], 4, ((at_ + 4 * (20000 - acc.length) : Nat) : Int))
  | 0, f, at_, acc, _, h1, h2 => by omega
  | k + 1, f, at_, acc, hf, h1, h2 => by
    cases f with
    | zero => omega
    | succ f =>
      rw [zeroT_succ]
      have hln : lnL ([58, 32, 48, 10] ++ zeroT k) = [58, 32, 48] := lnL_app (x := [58, 32, 48]) (r := zeroT k) (by simp)
      by_cases e : acc.length = 20000
      · rw [parseG, if_neg (by simp), if_pos e, e]; simp
      · rw [parseG_step (by simp) e (by rw [hln]; simp) (by rw [hln, ← zero_line]; exact cutS_line zero_fit), hln]
        have hd : ([58, 32, 48, 10] ++ zeroT k).drop (([58, 32, 48] : List UInt8).length + 1) = zeroT k := rfl
        rw [hd, parse_zero k f _ (acc ++ [([], 0)]) (by omega) (by simp; omega) (by simp; omega)]
        simp; omega
theorem parseT_zero (k : Nat) : (k ≤ 20000 → parseT (zeroT k) = (List.replicate k ([], 0), 0, 0)) ∧ (20000 < k → parseT (zeroT k) = ([], 4, 80000)) := by
  refine ⟨fun h => ?_, fun h => ?_⟩
  · obtain ⟨to, e⟩ := parse_text (List.replicate k ([], 0)) (zeroT k).length 0 [] (Nat.le_refl _) (by simpa using h)
    unfold parseT
    show parseG _ (textT _) _ _ = _
    rw [e, if_pos (by rw [List.all_eq_true]; intro c hc; rw [List.eq_of_mem_replicate hc]; exact zero_fit), List.nil_append]
  · unfold parseT
    rw [parse_zero k _ 0 [] (by rw [zeroT_len]; omega) (by simp) (by simpa using h)]
    rfl
end Go.Proofs.YtehbnckdllbmgaaGreatDoor

/- Certificates as texts: the way in which the reference reads a line; in plain Lean. -/
namespace Go.Proofs.YtehbnckdllbmgaaGreatDoor
/-! the reference's way through a line -/
def dgL (x : List UInt8) : List UInt8 := x.takeWhile digC
theorem dgL_all (x : List UInt8) : (dgL x).all digC = true := List.all_takeWhile
theorem dgL_app {ds r : List UInt8} (h : ds.all digC = true) (hr : (r.headD 0 |> digC) = false) : dgL (ds ++ r) = ds := by
  unfold dgL
  cases r with
  | nil =>
    rw [List.append_nil]
    have := List.takeWhile_append_of_pos (p := digC) (l₁ := ds) (l₂ := []) (List.all_eq_true.1 h)
    simpa using this
  | cons c r => exact (span_digits h hr).1
theorem dgL_len (x : List UInt8) : (dgL x).length ≤ x.length := (List.takeWhile_sublist _).length_le
theorem dgL_eq (x : List UInt8) : dgL x ++ x.drop (dgL x).length = x := by
  have h := List.takeWhile_append_dropWhile (p := digC) (l := x)
  have h2 : x.drop (dgL x).length = x.dropWhile digC := by
    have := congrArg (List.drop (dgL x).length) h
    rw [← this]
    unfold dgL
    exact List.drop_left
  rw [h2]; exact h
def scanR : Nat → List UInt8 → List Int → Option (List Int × List UInt8)
  | 0, x, acc => some (acc, x)
  | f + 1, x, acc => if dgL x = [] then some (acc, x) else match numP (dgL x) with
    | none => none
    | some n => if (x.drop (dgL x).length).head? = some 32 ∧ dgL (x.drop ((dgL x).length + 1)) ≠ [] then scanR f (x.drop ((dgL x).length + 1)) (acc ++ [n]) else some (acc ++ [n], x.drop (dgL x).length)
def tailR (ns : List Int) (r : List UInt8) : Option Cut := if r.take 2 = [58, 32] then match numP (dgL (r.drop 2)) with
    | none => none
    | some st => if (dgL (r.drop 2)).length = (r.drop 2).length then some (ns, st) else none
  else none
def refCut (x : List UInt8) : Option Cut := match scanR x.length x [] with
  | none => none
  | some (ns, r) => tailR ns r
theorem scan_sound : ∀ (f : Nat) (x : List UInt8) (acc ns' : List Int) (r : List UInt8), x.length ≤ f → scanR f x acc = some (ns', r) → ∃ ns, ns' = acc ++ ns ∧ ns.all okN = true ∧ x = joinW (ns.map Lib.itoa) ++ r ∧ (dgL x ≠ [] → ns ≠ [])
  | 0, x, acc, ns', r, hf, h => by
    cases h
    have hx : x = [] := List.eq_nil_of_length_eq_zero (by omega)
    subst hx
    exact ⟨[], by simp, rfl, rfl, fun h => absurd rfl h⟩
  | f + 1, x, acc, ns', r, hf, h => by
    unfold scanR at h
    by_cases h0 : dgL x = []
    · rw [if_pos h0] at h
      cases h
      exact ⟨[], by simp, rfl, rfl, fun h => absurd h0 h⟩
    · rw [if_neg h0] at h
      cases h1 : numP (dgL x) with
      | none => rw [h1] at h; cases h
      | some n =>
        rw [h1] at h
        dsimp only at h
        obtain ⟨k1, k2⟩ := numP_iff.1 h1
        have he := dgL_eq x
        by_cases h2 : (x.drop (dgL x).length).head? = some 32 ∧ dgL (x.drop ((dgL x).length + 1)) ≠ []
        · rw [if_pos h2] at h
          obtain ⟨ns, m1, m2, m3, m4⟩ := scan_sound f _ _ _ _ (by have := List.length_pos_iff.2 h0; have := dgL_len x; simp; omega) h
          have hne := m4 h2.2
          refine ⟨n :: ns, by rw [m1, List.append_assoc]; rfl, by simp [k1, m2], ?_, fun _ => by simp⟩
          have hd : x.drop (dgL x).length = 32 :: x.drop ((dgL x).length + 1) := by
            cases e : x.drop (dgL x).length with
            | nil => rw [e] at h2; cases h2.1
            | cons c t =>
              have hc := h2.1
              rw [e] at hc
              simp at hc
              subst hc
              have : x.drop ((dgL x).length + 1) = (x.drop (dgL x).length).drop 1 := by rw [List.drop_drop]
              rw [this, e]; rfl
          rw [List.map_cons, joinW_cons (by simpa using hne), k2, List.append_assoc, List.cons_append, ← m3, ← hd, he]
        · rw [if_neg h2] at h
          cases h
          exact ⟨[n], rfl, by simp [k1], by rw [List.map_cons, List.map_nil, joinW, k2, he], fun _ => by simp⟩
theorem itoa_ok {n : Int} (h : okN n = true) : (Lib.itoa n).all digC = true := by
  rw [itoa_pos (okN_iff.1 h).1]; exact dec_all _
theorem scan_full : ∀ (l : List Int) (f : Nat) (r : List UInt8) (acc : List Int), l.all okN = true → (joinW (l.map Lib.itoa) ++ 58 :: r).length ≤ f → scanR f (joinW (l.map Lib.itoa) ++ 58 :: r) acc = some (acc ++ l, 58 :: r)
  | [], f, r, acc, _, hf => by
    cases f with
    | zero => simp at hf
    | succ f =>
      unfold scanR
      have : dgL (joinW (([] : List Int).map Lib.itoa) ++ 58 :: r) = [] := by simp [dgL, joinW, List.takeWhile_cons, digC]
      rw [if_pos this, List.append_nil]; rfl
  | [n], f, r, acc, h, hf => by
    simp only [List.all_cons, List.all_nil, Bool.and_true] at h
    have hd : dgL (Lib.itoa n ++ 58 :: r) = Lib.itoa n := dgL_app (itoa_ok h) (by rfl)
    cases f with
    | zero => simp at hf
    | succ f =>
      unfold scanR
      rw [List.map_cons, List.map_nil, joinW, hd, if_neg (itoa_ne n), numP_itoa h]
      dsimp only
      rw [if_neg, List.drop_left]
      rintro ⟨h1, _⟩
      rw [List.drop_left] at h1
      simp at h1
  | n :: m :: l, f, r, acc, h, hf => by
    have h' := h
    simp only [List.all_cons, Bool.and_eq_true] at h
    rw [List.map_cons, joinW_cons (by simp), List.append_assoc, List.cons_append] at hf ⊢
    have hd : dgL (Lib.itoa n ++ 32 :: (joinW ((m :: l).map Lib.itoa) ++ 58 :: r)) = Lib.itoa n := dgL_app (itoa_ok h.1) (by rfl)
    have h1 : (Lib.itoa n ++ 32 :: (joinW ((m :: l).map Lib.itoa) ++ 58 :: r)).drop (Lib.itoa n).length = 32 :: (joinW ((m :: l).map Lib.itoa) ++ 58 :: r) := List.drop_left
    have h2 : (Lib.itoa n ++ 32 :: (joinW ((m :: l).map Lib.itoa) ++ 58 :: r)).drop ((Lib.itoa n).length + 1) = joinW ((m :: l).map Lib.itoa) ++ 58 :: r := by
      rw [← List.drop_drop, h1]; rfl
    have h3 : dgL (joinW ((m :: l).map Lib.itoa) ++ 58 :: r) ≠ [] := by
      have hm : ∃ t, joinW ((m :: l).map Lib.itoa) ++ 58 :: r = Lib.itoa m ++ t := by
        cases l with
        | nil => exact ⟨58 :: r, rfl⟩
        | cons a b => rw [List.map_cons, joinW_cons (by simp), List.append_assoc]; exact ⟨_, rfl⟩
      obtain ⟨t, e⟩ := hm
      rw [e]
      unfold dgL
      have hall := itoa_ok h.2.1
      have hne := itoa_ne m
      cases hh : Lib.itoa m with
      | nil => exact absurd hh hne
      | cons c u =>
        rw [hh] at hall
        simp only [List.all_cons, Bool.and_eq_true] at hall
        rw [List.cons_append, List.takeWhile_cons, if_pos hall.1]; simp
    cases f with
    | zero => simp at hf
    | succ f =>
      unfold scanR
      rw [hd, if_neg (itoa_ne n), numP_itoa h.1]
      dsimp only
      rw [h1, h2, if_pos ⟨rfl, h3⟩, scan_full (m :: l) f r (acc ++ [n]) (by simp [h.2]) (by simp at hf ⊢; omega), List.append_assoc]; rfl
/-- THE LAW of lines: the reference reads what the program reads -/
theorem refCut_eq (x : List UInt8) : refCut x = cutS x := by
  cases h : cutS x with
  | some c =>
    obtain ⟨h1, rfl⟩ := cutS_some h
    unfold fitC at h1
    simp only [Bool.and_eq_true] at h1
    unfold refCut lineB
    rw [scan_full c.1 _ _ [] h1.2 (Nat.le_refl _), List.nil_append]
    dsimp only
    unfold tailR
    have hd : dgL (Lib.itoa c.2) = Lib.itoa c.2 := by
      have := dgL_app (r := []) (itoa_ok h1.1) (by decide)
      rwa [List.append_nil] at this
    rw [if_pos (by simp)]
    simp only [List.drop_succ_cons, List.drop_zero]
    rw [hd, numP_itoa h1.1]
    dsimp only
    rw [if_pos rfl]
  | none =>
    cases h2 : refCut x with
    | none => rfl
    | some c =>
      exfalso
      unfold refCut at h2
      cases h3 : scanR x.length x [] with
      | none => rw [h3] at h2; cases h2
      | some nr =>
        obtain ⟨ns, r⟩ := nr
        rw [h3] at h2
        dsimp only at h2
        obtain ⟨ns0, e1, e2, e3, _⟩ := scan_sound _ _ _ _ _ (Nat.le_refl _) h3
        rw [List.nil_append] at e1
        subst e1
        unfold tailR at h2
        by_cases h4 : r.take 2 = [58, 32]
        · rw [if_pos h4] at h2
          cases h5 : numP (dgL (r.drop 2)) with
          | none => rw [h5] at h2; cases h2
          | some st =>
            rw [h5] at h2
            dsimp only at h2
            by_cases h6 : (dgL (r.drop 2)).length = (r.drop 2).length
            · obtain ⟨k1, k2⟩ := numP_iff.1 h5
              have h7 : dgL (r.drop 2) = r.drop 2 := by
                have := dgL_eq (r.drop 2)
                rw [h6, List.drop_length, List.append_nil] at this
                exact this
              have h8 : r = 58 :: 32 :: Lib.itoa st := by
                rw [k2, h7]
                have := (List.take_append_drop 2 r).symm
                rw [h4] at this
                exact this
              have : cutS x = some (ns, st) := cutS_iff.2 ⟨by simp [fitC, k1, e2], by rw [e3, h8]; rfl⟩
              rw [h] at this; cases this
            · rw [if_neg h6] at h2; cases h2
        · rw [if_neg h4] at h2; cases h2
/-- number of the reference -/
def numR (x : List UInt8) : Int × Nat × Bool := if dgL x = [] ∨ (1 < (dgL x).length ∧ x.headD 0 = 48) ∨ 15 < (dgL x).length then (0, 0, false) else (numL (dgL x), (dgL x).length, decide (numL (dgL x) ≤ 1099511627776))
theorem dgL_head {x : List UInt8} (h : dgL x ≠ []) : (dgL x).headD 0 = x.headD 0 := by
  unfold dgL at *
  cases x with
  | nil => exact absurd rfl h
  | cons c r =>
    rw [List.takeWhile_cons] at h ⊢
    split
    · rfl
    · rename_i e; rw [if_neg e] at h; exact absurd rfl h
theorem numL_big : ∀ (k : Nat) (ds : List UInt8), ds.length = k + 1 → ds.all digC = true → ds.headD 0 ≠ 48 → 10 ^ k ≤ numL ds
  | 0, ds, h, ha, hh => by
    match ds, h with
    | [c], _ =>
      simp only [List.all_cons, List.all_nil, Bool.and_true] at ha
      have := digC_range ha
      simp only [List.headD_cons] at hh
      have h1 : c.toNat ≠ 48 := fun e => hh (UInt8.toNat_inj.1 (e.trans rfl))
      unfold numL
      simp
      omega
  | k + 1, ds, h, ha, hh => by
    obtain ⟨xs, c, rfl⟩ : ∃ xs c, ds = xs ++ [c] := by
      rcases List.eq_nil_or_concat ds with e | ⟨xs, c, e⟩
      · subst e; simp at h
      · exact ⟨xs, c, by rw [e, List.concat_eq_append]⟩
    rw [List.all_append, Bool.and_eq_true] at ha
    have hl : xs.length = k + 1 := by simp at h; omega
    have h1 := numL_big k xs hl ha.1 (by
      cases xs with
      | nil => simp at hl
      | cons y ys => simpa using hh)
    rw [numL_snoc, Nat.pow_succ]
    omega
theorem numR_ok {x : List UInt8} : (numR x).2.2 = true ↔ ∃ n, numP (dgL x) = some n := by
  unfold numR
  constructor
  · intro h
    split at h
    · cases h
    · rename_i hc
      simp only [not_or, not_and] at hc
      obtain ⟨h1, h2, h3⟩ := hc
      simp only [decide_eq_true_eq] at h
      have hq : plainD (dgL x) = true := by
        unfold plainD
        have hp := List.length_pos_iff.2 h1
        by_cases e : (dgL x).length = 1
        · simp [e]
        · have e2 : (x.headD 0 == 48) = false := beq_eq_false_iff_ne.2 (h2 (by omega))
          rw [dgL_head h1, e2]
          simp
      refine ⟨numL (dgL x), ?_⟩
      unfold numP
      rw [if_pos ⟨h1, dgL_all x, hq, h⟩]
  · rintro ⟨n, h⟩
    unfold numP at h
    split at h
    · rename_i hc
      obtain ⟨h1, h2, h3, h4⟩ := hc
      have hhead : ¬ (1 < (dgL x).length ∧ x.headD 0 = 48) := by
        rintro ⟨a, b⟩
        unfold plainD at h3
        rw [dgL_head h1, b] at h3
        simp at h3; omega
      have h15 : ¬ 15 < (dgL x).length := by
        intro hl
        obtain ⟨k, hk⟩ : ∃ k, (dgL x).length = k + 1 := ⟨(dgL x).length - 1, by omega⟩
        have := numL_big k (dgL x) hk h2 (by rw [dgL_head h1]; intro e; exact hhead ⟨by omega, e⟩)
        have h13 : 10 ^ 13 ≤ 10 ^ k := Nat.pow_le_pow_right (by omega) (by omega)
        omega
      rw [if_neg (by rintro (h | h | h); exact h1 h; exact hhead h; exact h15 h)]
      simpa using h4
    · cases h
theorem numR_some {x : List UInt8} {n : Int} (h : numP (dgL x) = some n) : numR x = (n, (dgL x).length, true) := by
  have h0 := numR_ok.2 ⟨n, h⟩
  unfold numR at h0 ⊢
  split
  · rename_i hc; rw [if_pos hc] at h0; cases h0
  · rename_i hc
    rw [if_neg hc] at h0
    simp only [decide_eq_true_eq] at h0
    unfold numP at h
    split at h
    · cases h; rw [decide_eq_true h0]
    · cases h
theorem numR_none {x : List UInt8} (h : numP (dgL x) = none) : (numR x).2.2 = false := by
  cases hh : (numR x).2.2
  · rfl
  · obtain ⟨n, e⟩ := numR_ok.1 hh
    rw [h] at e; cases e
end Go.Proofs.YtehbnckdllbmgaaGreatDoor

/- What the library's functions of strings make of a certificate's text; in plain Lean. -/
namespace Go.Proofs.YtehbnckdllbmgaaGreatDoor
theorem join_joinW : ∀ xs : List (List UInt8), Lib.join xs [32] = joinW xs
  | [] => rfl
  | [x] => by rw [Lib.join_one]; rfl
  | x :: y :: r => by
    have h := join_joinW (y :: r)
    rw [Lib.join_cons] at h ⊢
    show x ++ Lib.joinTail [32] (y :: r) = x ++ 32 :: joinW (y :: r)
    rw [← h]
    simp [Lib.joinTail]
theorem index_cut2 : ∀ l : List UInt8, (cut2 l = none ∧ Lib.index l [58, 32] = -1) ∨ ∃ a b, cut2 l = some (a, b) ∧ Lib.index l [58, 32] = a.length
  | [] => .inl ⟨rfl, rfl⟩
  | c :: r => by
    by_cases h : c = 58 ∧ r.head? = some 32
    · obtain ⟨rfl, h2⟩ := h
      cases r with
      | nil => cases h2
      | cons d t =>
        simp at h2; subst h2
        exact .inr ⟨[], t, by simp [cut2], by simp [Lib.index, List.isPrefixOf]⟩
    · have hp : ([58, 32] : List UInt8).isPrefixOf (c :: r) = false := by
        cases r with
        | nil => simp [List.isPrefixOf]
        | cons d t =>
          simp only [List.isPrefixOf, List.head?_cons, Option.some.injEq] at h ⊢
          simp only [Bool.and_true, Bool.and_eq_false_iff, beq_eq_false_iff_ne]
          by_cases hc : c = 58
          · exact .inr fun e => h ⟨hc, e.symm⟩
          · exact .inl fun e => hc e.symm
      rcases index_cut2 r with ⟨h1, h2⟩ | ⟨a, b, h1, h2⟩
      · left
        refine ⟨by rw [cut2, if_neg h, h1], ?_⟩
        rw [Lib.index, h2, if_neg (by rw [hp]; simp)]; rfl
      · right
        refine ⟨c :: a, b, by rw [cut2, if_neg h, h1], ?_⟩
        rw [Lib.index, h2, if_neg (by rw [hp]; simp), if_neg (by rw [beq_iff_eq]; omega)]
        simp
theorem cut_cut2 (l : List UInt8) : Lib.cut l [58, 32] = match cut2 l with
    | some (a, b) => (a, b, true)
    | none => (l, [], false) := by
  unfold Lib.cut
  rcases index_cut2 l with ⟨h1, h2⟩ | ⟨a, b, h1, h2⟩
  · rw [h1, h2, if_neg (by decide)]
  · rw [h1, h2, if_pos (by omega), Int.toNat_natCast]
    have e := cut2_some h1
    rw [e]
    simp
theorem index_ln : ∀ l : List UInt8, ((lnL l).length = l.length ∧ Lib.index l [10] = -1) ∨ ((lnL l).length ≠ l.length ∧ Lib.index l [10] = (lnL l).length)
  | [] => .inl ⟨rfl, rfl⟩
  | c :: r => by
    by_cases h : c = 10
    · subst h
      right
      refine ⟨by simp [lnL], by simp [lnL, Lib.index, List.isPrefixOf]⟩
    · have e : lnL (c :: r) = c :: lnL r := by simp [lnL, h]
      have hp : ([10] : List UInt8).isPrefixOf (c :: r) = false := by simp [List.isPrefixOf]; exact fun e => h e.symm
      rw [e]
      rcases index_ln r with ⟨h1, h2⟩ | ⟨h1, h2⟩
      · left
        refine ⟨by simp [h1], ?_⟩
        rw [Lib.index, h2, if_neg (by rw [hp]; simp)]; rfl
      · right
        refine ⟨by simpa using h1, ?_⟩
        rw [Lib.index, h2, if_neg (by rw [hp]; simp), if_neg (by rw [beq_iff_eq]; omega)]
        simp
theorem cut_ln (l : List UInt8) : ∃ b, Lib.cut l [10] = (lnL l, b, decide ((lnL l).length ≠ l.length)) := by
  unfold Lib.cut
  rcases index_ln l with ⟨h1, h2⟩ | ⟨h1, h2⟩
  · refine ⟨[], ?_⟩
    rw [h2, if_neg (by decide), decide_eq_false (by simpa using h1)]
    have : lnL l = l := by
      have := List.IsPrefix.eq_of_length (List.takeWhile_prefix (l := l) (fun c => c != 10)) h1
      exact this
    rw [this]
  · refine ⟨l.drop ((lnL l).length + 1), ?_⟩
    rw [h2, if_pos (by omega), decide_eq_true h1, Int.toNat_natCast]
    have : l.take (lnL l).length = lnL l := List.prefix_iff_eq_take.1 (List.takeWhile_prefix _) |>.symm
    rw [this]; rfl
theorem parse10d : ∀ (ds : List UInt8) (acc : Nat), ds.all digC = true → ds.foldl (fun n c => 10 * n + (c.toNat - 48)) acc < 9223372036854775808 → Lib.parseUint10 acc ds = .ok (ds.foldl (fun n c => 10 * n + (c.toNat - 48)) acc)
  | [], acc, _, _ => rfl
  | c :: r, acc, h, hb => by
    simp only [List.all_cons, Bool.and_eq_true] at h
    have hc : 48 ≤ c.toNat ∧ c.toNat ≤ 57 := by
      have := h.1
      unfold digC at this
      simpa using this
    have hge : ∀ (ds : List UInt8) (acc : Nat), acc ≤ ds.foldl (fun n c => 10 * n + (c.toNat - 48)) acc := by
      intro ds
      induction ds with
      | nil => intro acc; exact Nat.le_refl _
      | cons c r ih => intro acc; have := ih (10 * acc + (c.toNat - 48)); rw [List.foldl_cons]; omega
    rw [List.foldl_cons] at hb ⊢
    have h1 := hge r (10 * acc + (c.toNat - 48))
    unfold Lib.parseUint10
    rw [if_pos hc, if_neg (by omega), if_neg (by omega), show acc * 10 + (c.toNat - 48) = 10 * acc + (c.toNat - 48) by omega]
    exact parse10d r _ h.2 hb
theorem atoi_itoa {n : Int} (h : okN n = true) : Lib.atoiAll (Lib.itoa n) = .ok n := by
  obtain ⟨h0, h1⟩ := okN_iff.1 h
  have ne := itoa_ne n
  have hd : (Lib.itoa n).all digC = true := by
    rw [itoa_pos h0]
    exact dec_all _
  have hnum : numL (Lib.itoa n) = n.toNat := by rw [itoa_pos h0, numL_dec]
  cases hl : Lib.itoa n with
  | nil => exact absurd hl ne
  | cons c r =>
    have hc := digC_range (c := c) (by rw [hl] at hd; simp only [List.all_cons, Bool.and_eq_true] at hd; exact hd.1)
    unfold Lib.atoiAll
    dsimp only
    rw [if_neg (by omega)]
    unfold Lib.parseMag
    rw [if_neg (by simp), ← hl, parse10d _ 0 hd (by show numL (Lib.itoa n) < _; rw [hnum]; omega)]
    have e2 : (Lib.itoa n).foldl (fun n c => 10 * n + (c.toNat - 48)) 0 = n.toNat := hnum
    dsimp only
    rw [e2, if_neg (by omega), if_neg (by omega), if_neg (by omega)]
    rw [show ((n.toNat : Nat) : Int) = n by omega]
end Go.Proofs.YtehbnckdllbmgaaGreatDoor
