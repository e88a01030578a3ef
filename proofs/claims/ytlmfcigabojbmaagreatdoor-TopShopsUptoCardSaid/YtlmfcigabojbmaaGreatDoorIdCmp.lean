/- The natural order of strings of bytes is a total order; in plain Lean. -/
import Derived.Test.YtlmfcigabojbmaaGreatDoorIdSpec
set_option linter.unusedSimpArgs false
set_option linter.unusedVariables false
namespace Go.Proofs.YtlmfcigabojbmaaGreatDoor

structure Ord3 {α : Type} (c : α → α → Int) : Prop where
  rng : ∀ x y, c x y = -1 ∨ c x y = 0 ∨ c x y = 1
  anti : ∀ x y, c y x = - c x y
  tr : ∀ x y z, c x y ≤ 0 → c y z ≤ 0 → c x z ≤ 0
section
variable {α β : Type} {c : α → α → Int}
theorem Ord3.refl (h : Ord3 c) (x : α) : c x x = 0 := by have := h.anti x x; omega
theorem Ord3.lt_le (h : Ord3 c) {x y z : α} (h1 : c x y < 0) (h2 : c y z ≤ 0) : c x z < 0 := by
  have a := h.tr x y z (by omega) h2
  refine Classical.byContradiction fun hn => ?_
  have b := h.anti x z
  have d := h.tr y z x h2 (by omega)
  have e := h.anti x y
  omega
theorem Ord3.le_lt (h : Ord3 c) {x y z : α} (h1 : c x y ≤ 0) (h2 : c y z < 0) : c x z < 0 := by
  have a := h.tr x y z h1 (by omega)
  refine Classical.byContradiction fun hn => ?_
  have b := h.anti x z
  have d := h.tr z x y (by omega) h1
  have e := h.anti y z
  omega
/-- by the first difference -/
def lexI (c : α → α → Int) : List α → List α → Int
  | [], [] => 0
  | [], _ :: _ => -1
  | _ :: _, [] => 1
  | x :: xs, y :: ys => if c x y = 0 then lexI c xs ys else c x y
theorem lexI_cons (x y : α) (xs ys) : lexI c (x :: xs) (y :: ys) = if c x y = 0 then lexI c xs ys else c x y := rfl
theorem lexI_ok (h : Ord3 c) : Ord3 (lexI c) := by
  refine ⟨fun x => ?_, fun x => ?_, fun x => ?_⟩
  · induction x with
    | nil => intro y; cases y <;> simp [lexI]
    | cons a x ih =>
      intro y
      cases y with
      | nil => simp [lexI]
      | cons b y =>
        rw [lexI_cons]
        split
        · exact ih y
        · exact h.rng a b
  · induction x with
    | nil => intro y; cases y <;> simp [lexI]
    | cons a x ih =>
      intro y
      cases y with
      | nil => simp [lexI]
      | cons b y =>
        rw [lexI_cons, lexI_cons, h.anti a b]
        by_cases e : c a b = 0
        · rw [if_pos (by omega), if_pos e]; exact ih y
        · rw [if_neg (by omega), if_neg e]
  · induction x with
    | nil => intro y z _ _; cases z <;> simp [lexI]
    | cons a x ih =>
      intro y z h1 h2
      cases y with
      | nil => simp [lexI] at h1
      | cons b y =>
        cases z with
        | nil => simp [lexI] at h2
        | cons d z =>
          rw [lexI_cons] at h1 h2 ⊢
          by_cases e1 : c a b = 0
          · rw [if_pos e1] at h1
            by_cases e2 : c b d = 0
            · rw [if_pos e2] at h2
              have e3 : c a d = 0 := by
                have p := h.tr a b d (by omega) (by omega)
                have q := h.tr d b a (by have := h.anti b d; omega) (by have := h.anti a b; omega)
                have r := h.anti a d
                omega
              rw [if_pos e3]; exact ih y z h1 h2
            · rw [if_neg e2] at h2
              have := h.le_lt (x := a) (y := b) (z := d) (by omega) (by omega)
              rw [if_neg (by omega)]; omega
          · rw [if_neg e1] at h1
            have h3 : c b d ≤ 0 := by
              by_cases e2 : c b d = 0
              · omega
              · rw [if_neg e2] at h2; exact h2
            have := h.lt_le (x := a) (y := b) (z := d) (by omega) h3
            rw [if_neg (by omega)]; omega
theorem lexI_zero (h : ∀ x y, c x y = 0 → x = y) : ∀ x y, lexI c x y = 0 → x = y := by
  intro x
  induction x with
  | nil => intro y hy; cases y with | nil => rfl | cons b y => simp [lexI] at hy
  | cons a x ih =>
    intro y hy
    cases y with
    | nil => simp [lexI] at hy
    | cons b y =>
      rw [lexI_cons] at hy
      by_cases e : c a b = 0
      · rw [if_pos e] at hy; rw [h a b e, ih y hy]
      · rw [if_neg e] at hy; exact absurd hy e
theorem on_ok (h : Ord3 c) (f : β → α) : Ord3 fun x y => c (f x) (f y) := ⟨fun x y => h.rng _ _, fun x y => h.anti _ _, fun x y z => h.tr _ _ _⟩
theorem then_ok {d : α → α → Int} (h : Ord3 c) (g : Ord3 d) : Ord3 fun x y => if c x y = 0 then d x y else c x y := by
  refine ⟨fun x y => ?_, fun x y => ?_, fun x y z h1 h2 => ?_⟩
  · split
    · exact g.rng x y
    · exact h.rng x y
  · skip
    rw [h.anti x y]
    by_cases e : c x y = 0
    · rw [if_pos (by omega), if_pos e]; exact g.anti x y
    · rw [if_neg (by omega), if_neg e]
  · skip
    by_cases e1 : c x y = 0
    · rw [if_pos e1] at h1
      by_cases e2 : c y z = 0
      · rw [if_pos e2] at h2
        have e3 : c x z = 0 := by
          have p := h.tr x y z (by omega) (by omega)
          have q := h.tr z y x (by have := h.anti y z; omega) (by have := h.anti x y; omega)
          have r := h.anti x z
          omega
        rw [if_pos e3]; exact g.tr x y z h1 h2
      · rw [if_neg e2] at h2
        have := h.le_lt (x := x) (y := y) (z := z) (by omega) (by omega)
        rw [if_neg (by omega)]; omega
    · rw [if_neg e1] at h1
      have h3 : c y z ≤ 0 := by
        by_cases e2 : c y z = 0
        · omega
        · rw [if_neg e2] at h2; exact h2
      have := h.lt_le (x := x) (y := y) (z := z) (by omega) h3
      rw [if_neg (by omega)]; omega
end

def cN (x y : Nat) : Int := if x < y then -1 else if y < x then 1 else 0
theorem cN_ok : Ord3 cN := by
  refine ⟨fun x y => ?_, fun x y => ?_, fun x y z h1 h2 => ?_⟩
  · unfold cN; split
    · simp
    · split <;> simp
  · unfold cN; split <;> split <;> omega
  · unfold cN at h1 h2 ⊢
    split at h1 <;> split at h2 <;> split <;> omega
theorem cN_zero {x y : Nat} (h : cN x y = 0) : x = y := by unfold cN at h; split at h; omega; split at h <;> omega
theorem cN_ne {x y : Nat} (h : x ≠ y) : cN x y ≠ 0 := fun e => h (cN_zero e)
def cB (x y : UInt8) : Int := cN x.toNat y.toNat
theorem cB_ok : Ord3 cB := on_ok cN_ok UInt8.toNat
theorem cB_zero {x y : UInt8} (h : cB x y = 0) : x = y := UInt8.toNat_inj.1 (cN_zero h)
/-- byte by byte -/
def bytesC (a b : List UInt8) : Int := lexI cB a b
theorem bytesC_ok : Ord3 bytesC := lexI_ok cB_ok
theorem bytesC_zero {a b : List UInt8} (h : bytesC a b = 0) : a = b := lexI_zero (fun _ _ => cB_zero) a b h

/-! elements -/
def elemN (l : List UInt8) : Nat := max (l.takeWhile digC).length 1
def stripZ (l : List UInt8) : List UInt8 := l.dropWhile (· == 48)
def digH (l : List UInt8) : Bool := digC (l.headD 0)
def cmpE (a b : List UInt8) : Int :=
  if digH a = false ∨ digH b = false then bytesC (a.take 1) (b.take 1) else
  if (stripZ a).length < (stripZ b).length then -1 else if (stripZ b).length < (stripZ a).length then 1 else bytesC (stripZ a) (stripZ b)
def cmpR : Nat → List UInt8 → List UInt8 → Int → Int
  | 0, _, _, t => t
  | n + 1, x, y, t => match x, y with
    | [], [] => t
    | [], _ :: _ => -1
    | _ :: _, [] => 1
    | a :: x, b :: y => if cmpE ((a :: x).take (elemN (a :: x))) ((b :: y).take (elemN (b :: y))) = 0 then cmpR n ((a :: x).drop (elemN (a :: x))) ((b :: y).drop (elemN (b :: y))) t else cmpE ((a :: x).take (elemN (a :: x))) ((b :: y).take (elemN (b :: y)))
def natC (a b : List UInt8) : Int := cmpR (a.length + 1) a b (bytesC a b)

/-! keys -/
def keyE (p : List UInt8) : List Nat := if digH p = true then 48 :: (stripZ p).length :: (stripZ p).map UInt8.toNat else [(p.headD 0).toNat]
def keys : Nat → List UInt8 → List (List Nat)
  | 0, _ => []
  | _, [] => []
  | n + 1, a :: x => keyE ((a :: x).take (elemN (a :: x))) :: keys n ((a :: x).drop (elemN (a :: x)))
theorem lex_map (a b : List UInt8) : lexI cN (a.map UInt8.toNat) (b.map UInt8.toNat) = bytesC a b := by
  unfold bytesC
  induction a generalizing b with
  | nil => cases b <;> rfl
  | cons x a ih =>
    cases b with
    | nil => rfl
    | cons y b => rw [List.map_cons, List.map_cons, lexI_cons, lexI_cons, ih b]; rfl
theorem digC_iff {c : UInt8} : digC c = true ↔ 48 ≤ c.toNat ∧ c.toNat ≤ 57 := by simp [digC]
theorem one_byte (c d : UInt8) : bytesC [c] [d] = cN c.toNat d.toNat := by
  unfold bytesC
  rw [lexI_cons]
  show (if cN c.toNat d.toNat = 0 then (0 : Int) else cN c.toNat d.toNat) = cN c.toNat d.toNat
  split <;> omega
theorem cmpE_key {p q : List UInt8} (hp : p ≠ []) (hq : q ≠ []) : cmpE p q = lexI cN (keyE p) (keyE q) := by
  cases p with
  | nil => exact absurd rfl hp
  | cons c p =>
    cases q with
    | nil => exact absurd rfl hq
    | cons d q =>
      unfold cmpE keyE
      have hc : digH (c :: p) = digC c := rfl
      have hd : digH (d :: q) = digC d := rfl
      cases h1 : digC c
      · rw [if_pos (.inl (hc.trans h1)), if_neg (by rw [hc, h1]; simp)]
        have e1 : ¬ (48 ≤ c.toNat ∧ c.toNat ≤ 57) := fun h => by rw [digC_iff.2 h] at h1; cases h1
        show bytesC [c] [d] = _
        rw [one_byte]
        cases h2 : digC d
        · rw [if_neg (by rw [hd, h2]; simp), lexI_cons]
          show cN c.toNat d.toNat = if cN c.toNat d.toNat = 0 then (0 : Int) else cN c.toNat d.toNat
          split <;> omega
        · have e2 := digC_iff.1 h2
          rw [if_pos (hd.trans h2), lexI_cons]
          show cN c.toNat d.toNat = if cN c.toNat 48 = 0 then _ else cN c.toNat 48
          rw [if_neg (cN_ne (by omega))]
          unfold cN
          split <;> split <;> (try split) <;> omega
      · have e1 := digC_iff.1 h1
        cases h2 : digC d
        · rw [if_pos (.inr (hd.trans h2)), if_pos (hc.trans h1), if_neg (by rw [hd, h2]; simp)]
          have e2 : ¬ (48 ≤ d.toNat ∧ d.toNat ≤ 57) := fun h => by rw [digC_iff.2 h] at h2; cases h2
          show bytesC [c] [d] = _
          rw [one_byte, lexI_cons]
          show cN c.toNat d.toNat = if cN 48 d.toNat = 0 then _ else cN 48 d.toNat
          rw [if_neg (cN_ne (by omega))]
          unfold cN
          split <;> split <;> (try split) <;> omega
        · rw [if_neg (by rw [hc, hd, h1, h2]; simp), if_pos (hc.trans h1), if_pos (hd.trans h2), lexI_cons, if_pos (show cN 48 48 = 0 from rfl), lexI_cons, lex_map]
          by_cases e : (stripZ (c :: p)).length = (stripZ (d :: q)).length
          · rw [if_neg (by omega), if_neg (by omega), if_pos (by rw [e]; exact cN_ok.refl _)]
          · rw [if_neg (cN_ne e)]
            unfold cN
            split
            · rfl
            · split <;> omega
theorem elemN_pos (l : List UInt8) : 1 ≤ elemN l := by unfold elemN; omega
theorem take_elem_ne (a : UInt8) (x : List UInt8) : (a :: x).take (elemN (a :: x)) ≠ [] := by
  have := elemN_pos (a :: x)
  cases h : elemN (a :: x) with
  | zero => omega
  | succ n => simp
theorem keys_nil (n : Nat) : keys n [] = [] := by cases n <;> rfl
theorem cmpR_keys (t : Int) : ∀ (n : Nat) (x y : List UInt8), x.length < n → ∀ m, y.length ≤ m → cmpR n x y t = if lexI (lexI cN) (keys n x) (keys m y) = 0 then t else lexI (lexI cN) (keys n x) (keys m y) := by
  intro n
  induction n with
  | zero => intro x y h; omega
  | succ n ih =>
    intro x y hx m hm
    cases x with
    | nil =>
      cases y with
      | nil => rw [keys_nil, keys_nil]; rfl
      | cons b y =>
        cases m with
        | zero => simp at hm
        | succ m => rfl
    | cons a x =>
      cases y with
      | nil => rw [keys_nil]; rfl
      | cons b y =>
        cases m with
        | zero => simp at hm
        | succ m =>
          have e1 : keys (n + 1) (a :: x) = keyE ((a :: x).take (elemN (a :: x))) :: keys n ((a :: x).drop (elemN (a :: x))) := rfl
          have e2 : keys (m + 1) (b :: y) = keyE ((b :: y).take (elemN (b :: y))) :: keys m ((b :: y).drop (elemN (b :: y))) := rfl
          have p1 := elemN_pos (a :: x)
          have p2 := elemN_pos (b :: y)
          rw [e1, e2, lexI_cons, ← cmpE_key (take_elem_ne a x) (take_elem_ne b y)]
          show (if cmpE _ _ = 0 then cmpR n _ _ t else cmpE _ _) = _
          by_cases e : cmpE ((a :: x).take (elemN (a :: x))) ((b :: y).take (elemN (b :: y))) = 0
          · rw [if_pos e, if_pos e]
            exact ih _ _ (by simp only [List.length_drop, List.length_cons] at hx ⊢; omega) m (by simp only [List.length_drop, List.length_cons] at hm ⊢; omega)
          · rw [if_neg e, if_neg e, if_neg e]
/-- enough fuel -/
theorem keys_fuel : ∀ (n : Nat) (x : List UInt8), x.length ≤ n → ∀ m, x.length ≤ m → keys n x = keys m x := by
  intro n
  induction n with
  | zero => intro x hx m _; have : x = [] := List.eq_nil_of_length_eq_zero (by omega); subst this; rw [keys_nil, keys_nil]
  | succ n ih =>
    intro x hx m hm
    cases x with
    | nil => rw [keys_nil, keys_nil]
    | cons a x =>
      cases m with
      | zero => simp at hm
      | succ m =>
        have p1 := elemN_pos (a :: x)
        show _ :: keys n _ = _ :: keys m _
        rw [ih _ (by simp only [List.length_drop, List.length_cons] at hx ⊢; omega) m (by simp only [List.length_drop, List.length_cons] at hm ⊢; omega)]
def keyL (x : List UInt8) : List (List Nat) := keys x.length x
theorem natC_eq (a b : List UInt8) : natC a b = if lexI (lexI cN) (keyL a) (keyL b) = 0 then bytesC a b else lexI (lexI cN) (keyL a) (keyL b) := by
  unfold natC keyL
  rw [cmpR_keys _ _ a b (by omega) b.length (Nat.le_refl _), keys_fuel (a.length + 1) a (by omega) a.length (Nat.le_refl _)]
/-- the natural order is a total order -/
theorem natC_ok : Ord3 natC := by
  have h := then_ok (on_ok (lexI_ok (lexI_ok cN_ok)) keyL) bytesC_ok
  have e : natC = fun x y => if lexI (lexI cN) (keyL x) (keyL y) = 0 then bytesC x y else lexI (lexI cN) (keyL x) (keyL y) := by funext x y; exact natC_eq x y
  rw [e]; exact h
theorem natC_zero {a b : List UInt8} : natC a b = 0 ↔ a = b := by
  constructor
  · intro h
    rw [natC_eq] at h
    by_cases e : lexI (lexI cN) (keyL a) (keyL b) = 0
    · rw [if_pos e] at h; exact bytesC_zero h
    · rw [if_neg e] at h; exact absurd h e
  · rintro rfl; exact natC_ok.refl a
end Go.Proofs.YtlmfcigabojbmaaGreatDoor
