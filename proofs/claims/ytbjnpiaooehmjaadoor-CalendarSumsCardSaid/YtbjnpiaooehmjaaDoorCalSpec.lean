/- The working hours of a calendar, in plain Lean: counting them by shifts and closed days. -/
namespace Go.Proofs.YtbjnpiaooehmjaaDoor

/-- a shift: from an hour of the week up to another one -/
structure Sp where
  a : Int
  b : Int
instance : Inhabited Sp := ⟨⟨0, 0⟩⟩
/-- the error of shifts behind one that ends at p -/
def shE : Int → List Sp → Int
  | _, [] => 0
  | p, s :: r => if s.a < 0 ∨ s.b ≤ s.a ∨ 168 < s.b then 9 else if s.a < p then 11 else shE s.b r
/-- the error of closed days behind p -/
def clE : Int → List Int → Int
  | _, [] => 0
  | p, d :: r => if d < 0 ∨ 43690 < d then 9 else if d ≤ p then 11 else clE d r
def newE (sh : List Sp) (cl : List Int) : Int :=
  if sh.length = 0 then 3 else if 21 < sh.length ∨ 400 < cl.length then 4 else if shE 0 sh ≠ 0 then shE 0 sh else clE (-1) cl

/-- shifts behind p -/
def OkS : Int → List Sp → Prop
  | _, [] => True
  | p, s :: r => 0 ≤ s.a ∧ p ≤ s.a ∧ s.a < s.b ∧ s.b ≤ 168 ∧ OkS s.b r
def OkC : Int → List Int → Prop
  | _, [] => True
  | p, d :: r => 0 ≤ d ∧ d ≤ 43690 ∧ p < d ∧ OkC d r
theorem okS_of : ∀ (sh : List Sp) (p : Int), shE p sh = 0 → OkS p sh := by
  intro sh
  induction sh with
  | nil => intro p _; trivial
  | cons s r ih =>
    intro p h
    unfold shE at h
    split at h
    · omega
    · split at h
      · omega
      · exact ⟨by omega, by omega, by omega, by omega, ih _ h⟩
theorem okC_of : ∀ (cl : List Int) (p : Int), clE p cl = 0 → OkC p cl := by
  intro cl
  induction cl with
  | nil => intro p _; trivial
  | cons s r ih =>
    intro p h
    unfold clE at h
    split at h
    · omega
    · split at h
      · omega
      · exact ⟨by omega, by omega, by omega, ih _ h⟩
theorem newE_ok {sh : List Sp} {cl : List Int} (h : newE sh cl = 0) : 1 ≤ sh.length ∧ sh.length ≤ 21 ∧ cl.length ≤ 400 ∧ OkS 0 sh ∧ OkC (-1) cl := by
  unfold newE at h
  split at h
  · omega
  split at h
  · omega
  split at h
  · contradiction
  · exact ⟨by omega, by omega, by omega, okS_of _ _ (by omega), okC_of _ _ h⟩
theorem OkS.mem {sh : List Sp} : ∀ {p : Int}, OkS p sh → ∀ s ∈ sh, 0 ≤ s.a ∧ p ≤ s.a ∧ s.a < s.b ∧ s.b ≤ 168 := by
  induction sh with
  | nil => intro p _ s hs; cases hs
  | cons x r ih =>
    intro p h s hs
    obtain ⟨h1, h2, h3, h4, h5⟩ := h
    rcases List.mem_cons.1 hs with rfl | hs
    · exact ⟨h1, h2, h3, h4⟩
    · have := ih h5 s hs; exact ⟨this.1, by omega, this.2.2⟩
theorem OkC.mem {cl : List Int} : ∀ {p : Int}, OkC p cl → ∀ d ∈ cl, 0 ≤ d ∧ d ≤ 43690 ∧ p < d := by
  induction cl with
  | nil => intro p _ s hs; cases hs
  | cons x r ih =>
    intro p h s hs
    obtain ⟨h1, h2, h3, h5⟩ := h
    rcases List.mem_cons.1 hs with rfl | hs
    · exact ⟨h1, h2, h3⟩
    · have := ih h5 s hs; exact ⟨this.1, this.2.1, by omega⟩

/-! counting -/
def cnt (f : Nat → Bool) : Nat → Nat
  | 0 => 0
  | t + 1 => cnt f t + if f t then 1 else 0
theorem cnt_le (f : Nat → Bool) (t : Nat) : cnt f t ≤ t := by
  induction t with
  | zero => exact Nat.le_refl _
  | succ t ih => unfold cnt; split <;> omega
theorem cnt_mono (f : Nat → Bool) {s t : Nat} (h : s ≤ t) : cnt f s ≤ cnt f t := by
  obtain ⟨k, rfl⟩ := Nat.exists_eq_add_of_le h
  induction k with
  | zero => exact Nat.le_refl _
  | succ k ih => have := ih (by omega); rw [← Nat.add_assoc, cnt]; omega
theorem cnt_step (f : Nat → Bool) {s t : Nat} (h : s ≤ t) : cnt f t ≤ cnt f s + (t - s) := by
  obtain ⟨k, rfl⟩ := Nat.exists_eq_add_of_le h
  induction k with
  | zero => rw [Nat.add_zero]; omega
  | succ k ih => have := ih (by omega); rw [← Nat.add_assoc, cnt]; split <;> omega
theorem cnt_add (f : Nat → Bool) (a b : Nat) : cnt f (a + b) = cnt f a + cnt (fun i => f (a + i)) b := by
  induction b with
  | zero => rfl
  | succ b ih => rw [← Nat.add_assoc, cnt, cnt, ih, Nat.add_assoc]
theorem cnt_congr {f g : Nat → Bool} {t : Nat} (h : ∀ i, i < t → f i = g i) : cnt f t = cnt g t := by
  induction t with
  | zero => rfl
  | succ t ih => rw [cnt, cnt, ih fun i hi => h i (by omega), h t (by omega)]
/-- one of the hours from s on -/
theorem cnt_lt {f : Nat → Bool} {s t : Nat} (h : cnt f s < cnt f t) : ∃ i, s ≤ i ∧ i < t ∧ f i = true ∧ cnt f i = cnt f s := by
  induction t with
  | zero => have := cnt_mono f (Nat.zero_le s); omega
  | succ t ih =>
    by_cases hs : cnt f s < cnt f t
    · obtain ⟨i, h1, h2, h3, h4⟩ := ih hs; exact ⟨i, h1, by omega, h3, h4⟩
    · have hst : s ≤ t := by
        by_cases e : s ≤ t
        · exact e
        · have := cnt_mono f (show t + 1 ≤ s by omega); omega
      have hm := cnt_mono f hst
      rw [cnt] at h
      refine ⟨t, hst, by omega, ?_, by omega⟩
      cases e : f t
      · rw [e] at h; simp at h; omega
      · rfl

/-- is an hour of the week in a shift? -/
def hW (sh : List Sp) (h : Nat) : Bool := sh.any fun s => decide (s.a ≤ h) && decide ((h : Int) < s.b)
def fW (sh : List Sp) (t : Nat) : Bool := hW sh (t % 168)
def clD (cl : List Int) (d : Nat) : Bool := cl.any fun x => decide (x = d)
/-- does the yard work in an hour? -/
def wk (sh : List Sp) (cl : List Int) (t : Nat) : Bool := fW sh t && !clD cl (t / 24)

/-- the hours of the shifts before an hour of the week -/
def shf (sh : List Sp) (h : Int) : Int := (sh.map fun s => max 0 (min h s.b - s.a)).sum
theorem shf_zero {sh : List Sp} : ∀ {p : Int}, OkS p sh → shf sh 0 = 0 := by
  induction sh with
  | nil => intro p _; rfl
  | cons s r ih =>
    intro p h
    unfold shf at ih ⊢
    rw [List.map_cons, List.sum_cons, ih h.2.2.2.2]
    have := h.1; have := h.2.2.1
    omega
theorem shf_past {sh : List Sp} : ∀ {p h : Int}, OkS p sh → h ≤ p → shf sh h = 0 := by
  induction sh with
  | nil => intro p h _ _; rfl
  | cons s r ih =>
    intro p h hs hp
    obtain ⟨h1, h2, h3, h4, h5⟩ := hs
    have := ih (h := h) h5 (by omega)
    unfold shf at this ⊢
    rw [List.map_cons, List.sum_cons, this]
    omega
theorem hW_past {sh : List Sp} : ∀ {p : Int} {h : Nat}, OkS p sh → (h : Int) < p → hW sh h = false := by
  induction sh with
  | nil => intro p h _ _; rfl
  | cons s r ih =>
    intro p h hs hp
    obtain ⟨h1, h2, h3, h4, h5⟩ := hs
    have := ih (h := h) h5 (by omega)
    unfold hW at this ⊢
    rw [List.any_cons, this]
    have e : decide (s.a ≤ (h : Int)) = false := by rw [decide_eq_false_iff_not]; omega
    rw [e]; rfl
theorem shf_succ {sh : List Sp} : ∀ {p : Int} (h : Nat), OkS p sh → shf sh ((h : Int) + 1) = shf sh h + if hW sh h then 1 else 0 := by
  induction sh with
  | nil => intro p h _; rfl
  | cons s r ih =>
    intro p h hs
    obtain ⟨h1, h2, h3, h4, h5⟩ := hs
    have e1 : ∀ k : Int, shf (s :: r) k = max 0 (min k s.b - s.a) + shf r k := fun k => by unfold shf; rw [List.map_cons, List.sum_cons]
    rw [e1, e1]
    by_cases hb : (h : Int) < s.b
    · have r0 := shf_past (h := (h : Int) + 1) h5 (by omega)
      have r1 := shf_past (h := (h : Int)) h5 (by omega)
      have r2 := hW_past (h := h) h5 hb
      have e2 : hW (s :: r) h = decide (s.a ≤ (h : Int)) := by
        unfold hW at r2 ⊢
        rw [List.any_cons, r2, Bool.or_false]
        have : decide ((h : Int) < s.b) = true := by rw [decide_eq_true_eq]; exact hb
        rw [this, Bool.and_true]
      rw [r0, r1, e2]
      by_cases ha : s.a ≤ (h : Int)
      · have : decide (s.a ≤ (h : Int)) = true := by rw [decide_eq_true_eq]; exact ha
        rw [this, if_pos rfl]; omega
      · have : decide (s.a ≤ (h : Int)) = false := by rw [decide_eq_false_iff_not]; exact ha
        rw [this, if_neg (by simp)]; omega
    · have e2 : hW (s :: r) h = hW r h := by
        unfold hW
        rw [List.any_cons]
        have : decide ((h : Int) < s.b) = false := by rw [decide_eq_false_iff_not]; exact hb
        rw [this, Bool.and_false, Bool.false_or]
      rw [ih h h5, e2]
      omega
theorem shf_cnt {sh : List Sp} {p : Int} (hs : OkS p sh) (h : Nat) : shf sh h = cnt (hW sh) h := by
  induction h with
  | zero => exact shf_zero hs
  | succ h ih =>
    have := shf_succ h hs
    rw [show ((h + 1 : Nat) : Int) = (h : Int) + 1 by omega, this, ih, cnt]
    split <;> simp

/-! weeks -/
theorem fW_week (sh : List Sp) (q r : Nat) (hr : r ≤ 168) : cnt (fun i => fW sh (168 * q + i)) r = cnt (hW sh) r := by
  apply cnt_congr
  intro i hi
  unfold fW
  rw [show (168 * q + i) % 168 = i by omega]
theorem cnt_weeks (sh : List Sp) (q : Nat) : cnt (fW sh) (168 * q) = q * cnt (hW sh) 168 := by
  induction q with
  | zero => rw [Nat.mul_zero, Nat.zero_mul]; rfl
  | succ q ih =>
    rw [show 168 * (q + 1) = 168 * q + 168 by omega, cnt_add, ih, fW_week sh q 168 (Nat.le_refl _), Nat.succ_mul]
theorem cnt_full (sh : List Sp) (q r : Nat) (hr : r ≤ 168) : cnt (fW sh) (168 * q + r) = q * cnt (hW sh) 168 + cnt (hW sh) r := by
  rw [cnt_add, cnt_weeks, fW_week sh q r hr]
theorem cnt_time (sh : List Sp) (t : Nat) : cnt (fW sh) t = t / 168 * cnt (hW sh) 168 + cnt (hW sh) (t % 168) := by
  have := cnt_full sh (t / 168) (t % 168) (by omega)
  rwa [Nat.div_add_mod] at this
/-- the hours of a day that are before t -/
theorem cnt_day (sh : List Sp) (d u : Nat) (h1 : 24 * d ≤ u) (h2 : u ≤ 24 * d + 24) : cnt (fW sh) u = cnt (fW sh) (24 * d) + (cnt (hW sh) ((24 * d) % 168 + (u - 24 * d)) - cnt (hW sh) ((24 * d) % 168)) := by
  have e1 : 24 * d = 168 * (d / 7) + (24 * d) % 168 := by omega
  have e2 : u = 168 * (d / 7) + ((24 * d) % 168 + (u - 24 * d)) := by omega
  have f1 := cnt_full sh (d / 7) ((24 * d) % 168) (by omega)
  have f2 := cnt_full sh (d / 7) ((24 * d) % 168 + (u - 24 * d)) (by omega)
  rw [← e1] at f1
  rw [← e2] at f2
  have := cnt_mono (hW sh) (show (24 * d) % 168 ≤ (24 * d) % 168 + (u - 24 * d) by omega)
  omega

/-! closed days -/
theorem clD_past {cl : List Int} {p : Int} {d : Nat} (h : OkC p cl) (hd : (d : Int) ≤ p) : clD cl d = false := by
  unfold clD
  rw [List.any_eq_false]
  intro x hx
  have := h.mem x hx
  simp; omega
theorem cnt_one (f : Nat → Bool) (d t : Nat) : cnt (fun i => f i && decide (i / 24 = d)) t = cnt f (min (24 * d + 24) t) - cnt f (min (24 * d) t) := by
  induction t with
  | zero => simp [cnt]
  | succ t ih =>
    rw [cnt, ih]
    by_cases h1 : t < 24 * d
    · have e : decide (t / 24 = d) = false := by rw [decide_eq_false_iff_not]; omega
      rw [e, Bool.and_false, show min (24 * d + 24) (t + 1) = t + 1 by omega, show min (24 * d) (t + 1) = t + 1 by omega, show min (24 * d + 24) t = t by omega, show min (24 * d) t = t by omega]
      simp
    · by_cases h2 : t < 24 * d + 24
      · have e : decide (t / 24 = d) = true := by rw [decide_eq_true_eq]; omega
        rw [e, Bool.and_true, show min (24 * d + 24) (t + 1) = t + 1 by omega, show min (24 * d) (t + 1) = 24 * d by omega, show min (24 * d + 24) t = t by omega, show min (24 * d) t = 24 * d by omega, cnt]
        have := cnt_mono f (show 24 * d ≤ t by omega)
        split <;> omega
      · have e : decide (t / 24 = d) = false := by rw [decide_eq_false_iff_not]; omega
        rw [e, Bool.and_false, show min (24 * d + 24) (t + 1) = 24 * d + 24 by omega, show min (24 * d) (t + 1) = 24 * d by omega, show min (24 * d + 24) t = 24 * d + 24 by omega, show min (24 * d) t = 24 * d by omega]
        simp
theorem cnt_split (f g : Nat → Bool) (t : Nat) : cnt f t = cnt (fun i => f i && !g i) t + cnt (fun i => f i && g i) t := by
  induction t with
  | zero => rfl
  | succ t ih =>
    rw [cnt, cnt, cnt, ih]
    cases f t <;> cases g t <;> simp <;> omega
/-- the hours of a closed day before t -/
def lost (sh : List Sp) (t : Nat) (d : Int) : Int := if 24 * d < t then cnt (fW sh) (min (24 * d.toNat + 24) t) - cnt (fW sh) (24 * d.toNat) else 0
theorem cnt_wk (sh : List Sp) (t : Nat) : ∀ (cl : List Int) (p : Int), OkC p cl → (cnt (wk sh cl) t : Int) = cnt (fW sh) t - (cl.map (lost sh t)).sum := by
  intro cl
  induction cl with
  | nil => intro p _; have : cnt (wk sh []) t = cnt (fW sh) t := cnt_congr fun i _ => by unfold wk clD; simp
           rw [this]; simp
  | cons d r ih =>
    intro p h
    obtain ⟨h1, h2, h3, h4⟩ := h
    have e := ih d h4
    obtain ⟨k, rfl⟩ : ∃ k : Nat, d = k := ⟨d.toNat, by omega⟩
    have s := cnt_split (wk sh r) (fun i => decide (i / 24 = k)) t
    have e1 : cnt (fun i => wk sh r i && !decide (i / 24 = k)) t = cnt (wk sh ((k : Int) :: r)) t := cnt_congr fun i _ => by
      unfold wk
      have : clD ((k : Int) :: r) (i / 24) = (decide (i / 24 = k) || clD r (i / 24)) := by
        unfold clD
        rw [List.any_cons]
        congr 1
        by_cases hi : i / 24 = k
        · rw [decide_eq_true hi, decide_eq_true (by omega)]
        · rw [decide_eq_false hi, decide_eq_false (by omega)]
      rw [this]
      cases fW sh i <;> cases clD r (i / 24) <;> cases decide (i / 24 = k) <;> rfl
    have e2 : cnt (fun i => wk sh r i && decide (i / 24 = k)) t = cnt (fun i => fW sh i && decide (i / 24 = k)) t := cnt_congr fun i _ => by
      by_cases hi : i / 24 = k
      · have : clD r (i / 24) = false := clD_past h4 (by omega)
        unfold wk; rw [this]; simp
      · have : decide (i / 24 = k) = false := by rw [decide_eq_false_iff_not]; exact hi
        rw [this]; simp
    rw [e1, e2, cnt_one] at s
    rw [List.map_cons, List.sum_cons]
    have hm := cnt_mono (fW sh) (show min (24 * k) t ≤ min (24 * k + 24) t by omega)
    have hl : lost sh t (k : Int) = ((cnt (fW sh) (min (24 * k + 24) t) - cnt (fW sh) (min (24 * k) t) : Nat) : Int) := by
      unfold lost
      rw [Int.toNat_natCast]
      by_cases hlt : 24 * k < t
      · rw [if_pos (by omega), show min (24 * k) t = 24 * k by omega]
        rw [show min (24 * k) t = 24 * k by omega] at hm
        omega
      · rw [if_neg (by omega), show min (24 * k) t = t by omega, show min (24 * k + 24) t = t by omega]; simp
    rw [hl]
    omega
theorem lost_zero (sh : List Sp) {t : Nat} : ∀ (cl : List Int) (p : Int), OkC p cl → (t : Int) ≤ 24 * p → (cl.map (lost sh t)).sum = 0 := by
  intro cl
  induction cl with
  | nil => intro p _ _; rfl
  | cons d r ih =>
    intro p h hp
    obtain ⟨h1, h2, h3, h4⟩ := h
    rw [List.map_cons, List.sum_cons, ih d h4 (by omega)]
    unfold lost
    rw [if_neg (by omega)]; rfl
end Go.Proofs.YtbjnpiaooehmjaaDoor
