/- region's edges, within, apart, contours, place, Check, Area2 (printed by wip/gen_rga.py). -/
import Derived.Test.YtfmhickjefogdaaGreatPk10
set_option linter.unusedSimpArgs false
set_option linter.unusedVariables false

/- Functions as values (IndexFunc, ContainsFunc at points and rectangles); poly's simple (printed by wip/gen_pob.py). -/
namespace Go.Proofs.YtfmhickjefogdaaGreat
open Go.RowKit

theorem same_pos {ux uy vx vy : Int} (hc : ux * vy = uy * vx) (hd : 0 < ux * vx + uy * vy) (hu : 0 < ux) : 0 < vx := by
  rcases Int.lt_trichotomy vx 0 with h | h | h
  · exfalso
    have h1 : ux * vx < 0 := Int.mul_neg_of_pos_of_neg hu h
    have h2 : 0 < uy * vy := by omega
    rcases Int.lt_trichotomy uy 0 with g | g | g
    · have h3 : 0 < uy * vx := Int.mul_pos_of_neg_of_neg g h
      have h4 : vy < 0 := by
        rcases Int.lt_or_le vy 0 with k | k
        · exact k
        · have := Int.mul_nonneg (show 0 ≤ -uy by omega) k
          rw [Int.neg_mul] at this
          omega
      have h5 : ux * vy < 0 := Int.mul_neg_of_pos_of_neg hu h4
      omega
    · subst g; simp at h2
    · have h3 : uy * vx < 0 := Int.mul_neg_of_pos_of_neg g h
      have h4 : 0 < vy := by
        rcases Int.lt_or_le 0 vy with k | k
        · exact k
        · have := Int.mul_nonneg (show 0 ≤ uy by omega) (show 0 ≤ -vy by omega)
          rw [Int.mul_neg] at this
          omega
      have h5 : 0 < ux * vy := Int.mul_pos hu h4
      omega
  · exfalso
    subst h
    rw [Int.mul_zero] at hc
    rcases Int.mul_eq_zero.1 hc with h | h
    · omega
    · subst h; simp at hd
  · exact h
theorem shorter {ux uy vx vy : Int} (hc : ux * vy = uy * vx) (hu : 0 < ux) (hv : 0 < vx) (hle : vx ≤ ux) : (0 ≤ vy ∧ vy ≤ uy) ∨ (uy ≤ vy ∧ vy ≤ 0) := by
  rcases Int.le_total 0 uy with g | g
  · have h1 : 0 ≤ ux * vy := by rw [hc]; exact Int.mul_nonneg g (by omega)
    have h2 : 0 ≤ vy := by
      rcases Int.lt_or_le vy 0 with k | k
      · have := Int.mul_neg_of_pos_of_neg hu k; omega
      · exact k
    have h3 : ux * vy ≤ ux * uy := by
      rw [hc, Int.mul_comm ux uy]
      exact Int.mul_le_mul_of_nonneg_left hle g
    exact Or.inl ⟨h2, Int.le_of_mul_le_mul_left h3 hu⟩
  · have h1 : 0 ≤ ux * (-vy) := by
      rw [Int.mul_neg, hc, ← Int.neg_mul]
      exact Int.mul_nonneg (by omega) (by omega)
    have h2 : 0 ≤ -vy := by
      rcases Int.lt_or_le (-vy) 0 with k | k
      · have := Int.mul_neg_of_pos_of_neg hu k; omega
      · exact k
    have h3 : ux * (-vy) ≤ ux * (-uy) := by
      rw [Int.mul_neg, hc, ← Int.neg_mul, Int.mul_comm ux (-uy)]
      exact Int.mul_le_mul_of_nonneg_left hle (by omega)
    have h4 := Int.le_of_mul_le_mul_left h3 hu
    exact Or.inr ⟨by omega, by omega⟩
/-- a point lies within the box of 0 and another one -/
def InB (ux uy vx vy : Int) : Prop := ((0 ≤ vx ∧ vx ≤ ux) ∨ (ux ≤ vx ∧ vx ≤ 0)) ∧ ((0 ≤ vy ∧ vy ≤ uy) ∨ (uy ≤ vy ∧ vy ≤ 0))
theorem back_pos {ux uy vx vy : Int} (hc : ux * vy = uy * vx) (hd : 0 < ux * vx + uy * vy) (hu : 0 < ux) : InB ux uy vx vy ∨ InB vx vy ux uy := by
  have hv := same_pos hc hd hu
  rcases Int.le_total vx ux with h | h
  · exact Or.inl ⟨Or.inl ⟨by omega, h⟩, shorter hc hu hv h⟩
  · exact Or.inr ⟨Or.inl ⟨by omega, h⟩, shorter (by rw [Int.mul_comm vx uy, ← hc, Int.mul_comm]) hv hu h⟩
theorem back_box {ux uy vx vy : Int} (hc : ux * vy = uy * vx) (hd : 0 < ux * vx + uy * vy) : InB ux uy vx vy ∨ InB vx vy ux uy := by
  rcases Int.lt_trichotomy ux 0 with h | h | h
  · have k := @back_pos (-ux) uy (-vx) vy (by rw [Int.neg_mul, Int.mul_neg, hc]) (by rw [Int.neg_mul_neg]; exact hd) (by omega)
    rcases k with ⟨h1, h2⟩ | ⟨h1, h2⟩
    · exact Or.inl ⟨by omega, h2⟩
    · exact Or.inr ⟨by omega, h2⟩
  · subst h
    rw [Int.zero_mul] at hc hd
    have h1 : vx = 0 := by
      rcases Int.mul_eq_zero.1 hc.symm with g | g
      · subst g; simp at hd
      · exact g
    subst h1
    have hd : 0 < uy * vy := by omega
    rcases Int.lt_trichotomy uy 0 with g | g | g
    · have h4 : vy < 0 := by
        rcases Int.lt_or_le vy 0 with k | k
        · exact k
        · have := Int.mul_nonneg (show 0 ≤ -uy by omega) k
          rw [Int.neg_mul] at this
          omega
      rcases Int.le_total vy uy with k | k
      · exact Or.inr ⟨Or.inl ⟨by omega, by omega⟩, Or.inr ⟨k, by omega⟩⟩
      · exact Or.inl ⟨Or.inl ⟨by omega, by omega⟩, Or.inr ⟨k, by omega⟩⟩
    · subst g; simp at hd
    · have h4 : 0 < vy := by
        rcases Int.lt_or_le 0 vy with k | k
        · exact k
        · have := Int.mul_nonneg (show 0 ≤ uy by omega) (show 0 ≤ -vy by omega)
          rw [Int.mul_neg] at this
          omega
      rcases Int.le_total vy uy with k | k
      · exact Or.inl ⟨Or.inl ⟨by omega, by omega⟩, Or.inl ⟨by omega, k⟩⟩
      · exact Or.inr ⟨Or.inl ⟨by omega, by omega⟩, Or.inl ⟨by omega, k⟩⟩
  · exact back_pos hc hd h
/-- the first index at which p holds, else -1 -/
def findG {α : Type} (p : α → Bool) (xs : List α) : Int := match xs.findIdx? p with | some i => i | none => -1
theorem findG_hit {α : Type} [Inhabited α] (p : α → Bool) (xs : List α) (k : Nat) (hk : k < xs.length) (h1 : ∀ j, j < k → p (xs.getD j default) = false) (h2 : p (xs.getD k default) = true) : findG p xs = k := by
  have : xs.findIdx? p = some k := by
    rw [List.findIdx?_eq_some_iff_getElem]
    refine ⟨hk, ?_, ?_⟩
    · simpa [hk] using h2
    · intro j hj
      have := h1 j hj
      simp [show j < xs.length by omega] at this
      simp [this]
  simp [findG, this]
theorem findG_miss {α : Type} [Inhabited α] (p : α → Bool) (xs : List α) (h1 : ∀ j, j < xs.length → p (xs.getD j default) = false) : findG p xs = -1 := by
  have : xs.findIdx? p = none := by
    rw [List.findIdx?_eq_none_iff]
    intro x hx
    obtain ⟨j, hj, rfl⟩ := List.mem_iff_getElem.1 hx
    have := h1 j hj
    simpa [hj] using this
  simp [findG, this]
theorem findG_any {α : Type} (p : α → Bool) (xs : List α) : decide (0 ≤ findG p xs) = xs.any p := by
  unfold findG
  cases h : xs.findIdx? p with
  | none =>
    have : xs.any p = false := by
      rw [List.findIdx?_eq_none_iff] at h
      rw [List.any_eq_false]
      intro x hx; rw [h x hx]; decide
    rw [this]; rfl
  | some i =>
    have : xs.any p = true := by
      rw [List.findIdx?_eq_some_iff_getElem] at h
      obtain ⟨hi, h1, _⟩ := h
      rw [List.any_eq_true]
      exact ⟨_, List.getElem_mem hi, h1⟩
    rw [this]; simp


/-- the table with the functions that are values -/
def gmEn2 : FuncId → Bool
  | 39 => true
  | 40 => true
  | 87 => true
  | 26 => true
  | 23 => true
  | 81 => true
  | 12 => true
  | 21 => true
  | 52 => true
  | 79 => true
  | 20 => true
  | 30 => true
  | 42 => true
  | 80 => true
  | 38 => true
  | 73 => true
  | 101 => true
  | f => gmEn f
theorem gmEn2_ok (f : FuncId) (h : gmEn2 f = true) (args : Array Value) (w : World) : (callFunc f args).run Tryz.prog w = .ok (.enter f args) w := by
  unfold gmEn2 at h
  split at h
  · exact enters_of Tryz.func39 (by kernel_rfl) rfl args w
  · exact enters_of Tryz.func40 (by kernel_rfl) rfl args w
  · exact enters_of Tryz.func87 (by kernel_rfl) rfl args w
  · exact enters_of Tryz.func26 (by kernel_rfl) rfl args w
  · exact enters_of Tryz.func23 (by kernel_rfl) rfl args w
  · exact enters_of Tryz.func81 (by kernel_rfl) rfl args w
  · exact enters_of Tryz.func12 (by kernel_rfl) rfl args w
  · exact enters_of Tryz.func21 (by kernel_rfl) rfl args w
  · exact enters_of Tryz.func52 (by kernel_rfl) rfl args w
  · exact enters_of Tryz.func79 (by kernel_rfl) rfl args w
  · exact enters_of Tryz.func20 (by kernel_rfl) rfl args w
  · exact enters_of Tryz.func30 (by kernel_rfl) rfl args w
  · exact enters_of Tryz.func42 (by kernel_rfl) rfl args w
  · exact enters_of Tryz.func80 (by kernel_rfl) rfl args w
  · exact enters_of Tryz.func38 (by kernel_rfl) rfl args w
  · exact enters_of Tryz.func73 (by kernel_rfl) rfl args w
  · exact enters_of Tryz.func101 (by kernel_rfl) rfl args w
  · exact gmEn_ok f h args w
def gmT2 : QTab := { gmT with en := gmEn2 }
theorem gmT2_ok : gmT2.Ok := ⟨gmT_ok.fo, gmT_ok.sc, gmT_ok.ag, gmT_ok.es, gmT_ok.ln, gmEn2_ok, gmSl_ok⟩
def rcV (x : Rct) : Value := .agg #[.int .i64 x.x0, .int .i64 x.y0, .int .i64 x.x1, .int .i64 x.y1]

/-- A function value that answers a predicate, in every world that keeps what W0 has. -/
def FnPt (fv : Value) (W0 : World) (q : Pnt → Prop) (p : Pnt → Bool) : Prop :=
  ∃ F caps, fv = .func (.func F) #[] caps ∧ (∀ args w, (callFunc F args).run Tryz.prog w = .ok (.enter F args) w) ∧
    ∀ (x : Pnt) (w : World), q x → Below W0.heap.size W0 w → Calls Tryz.prog F (#[ptV x] ++ caps) w (Ret w (.bool (p x)))
set_option maxHeartbeats 800000 in
theorem indexFunc_Pt (fv v : Value) (q : Pnt → Prop) (p : Pnt → Bool) (xs : List Pnt) (w : World) (h : SPt w v xs) (hq : ∀ x ∈ xs, q x) (hf : FnPt fv w q p) :
    Calls Tryz.prog 73 #[v, fv] w (Ret w (.int .i64 (findG p xs))) := by
  obtain ⟨F, caps, rfl, hcf, hf⟩ := hf
  obtain ⟨a, cap, rfl, h1, h2, h3⟩ := h
  have HF := Lib.hid hf; clear hf
  have H3 := Lib.hid h3; clear h3
  have HQ := Lib.hid hq; clear hq
  have hm : xs.length ≤ 9223372036854775807 := by unfold maxLen at h2; omega
  go_enter Tryz.func73, Tryz.ntmps73
  go_wp2
  go_loopw [8] (fun i wr => ∃ k : Nat, k ≤ xs.length ∧ i = .int .i64 k ∧ Hid (Below w.heap.size w wr) ∧ Hid (∀ j, j < k → p (pti xs j) = false)) (fun i _ => xs.length - (intOf i).toNat)
  case atStart => exact ⟨0, Nat.zero_le _, rfl, Lib.hid (Below.refl _ _), Lib.hid fun j hj => by omega⟩
  case round =>
    obtain ⟨k, hk, rfl, hb, hj⟩ := hrel
    by_cases hlt : k < xs.length
    · obtain ⟨b, off, ha, hc⟩ := H3.out k hlt
      rw [ha]
      have hc' := hc.keep hb.out
      have c0 := hc'.c0
      have c1 := hc'.c1
      clear hc hc'
      go_wp2_with fail
      refine (HF.out (pti xs k) _ (HQ.out _ (pti_mem hlt)) hb.out).mono ?_
      rintro e w1 ⟨rfl, hb1⟩
      have HB1 := Lib.hid (ext_trans hb.out hb1)
      clear hb1 c0 c1
      generalize hx : p (pti xs k) = x
      have HX := Lib.hid hx; clear hx
      cases x
      · go_wp2_with fail
        go_roundw
        case rel =>
          refine ⟨k+1, by omega, by go_num, HB1, Lib.hid ?_⟩
          intro j hjk
          by_cases e : j = k
          · subst e; exact HX.out
          · exact hj.out j (by omega)
        case measure => simp [intOf]; omega
      · go_wp2_with fail
        go_ret
        exact ⟨ret_int (findG_hit p xs k hlt hj.out HX.out).symm, HB1.out⟩
    · go_wp2_with fail
      go_ret
      exact ⟨ret_int (findG_miss p xs (fun j h => hj.out j (by omega))).symm, hb.out⟩
theorem contains_Pt (fv v : Value) (q : Pnt → Prop) (p : Pnt → Bool) (xs : List Pnt) (w : World) (h : SPt w v xs) (hq : ∀ x ∈ xs, q x) (hf : FnPt fv w q p) :
    Calls Tryz.prog 42 #[v, fv] w (Ret w (.bool (xs.any p))) := by
  have HI := Lib.hid (indexFunc_Pt fv v q p xs w h hq hf)
  obtain ⟨a, cap, rfl, _⟩ := h
  obtain ⟨F, caps, rfl, _⟩ := hf
  go_enter Tryz.func42, Tryz.ntmps42
  go_wp2_with fail
  refine HI.out.mono ?_
  rintro e w1 ⟨rfl, hb⟩
  have HB := Lib.hid hb
  clear hb
  go_wp2_with fail
  go_ret
  exact ⟨ret_bool (findG_any p xs), HB.out⟩
/-- A function value that answers a predicate, in every world that keeps what W0 has. -/
def FnRc (fv : Value) (W0 : World) (q : Rct → Prop) (p : Rct → Bool) : Prop :=
  ∃ F caps, fv = .func (.func F) #[] caps ∧ (∀ args w, (callFunc F args).run Tryz.prog w = .ok (.enter F args) w) ∧
    ∀ (x : Rct) (w : World), q x → Below W0.heap.size W0 w → Calls Tryz.prog F (#[rcV x] ++ caps) w (Ret w (.bool (p x)))
set_option maxHeartbeats 800000 in
theorem indexFunc_Rc (fv v : Value) (q : Rct → Prop) (p : Rct → Bool) (xs : List Rct) (w : World) (h : SRc w v xs) (hq : ∀ x ∈ xs, q x) (hf : FnRc fv w q p) :
    Calls Tryz.prog 101 #[v, fv] w (Ret w (.int .i64 (findG p xs))) := by
  obtain ⟨F, caps, rfl, hcf, hf⟩ := hf
  obtain ⟨a, cap, rfl, h1, h2, h3⟩ := h
  have HF := Lib.hid hf; clear hf
  have H3 := Lib.hid h3; clear h3
  have HQ := Lib.hid hq; clear hq
  have hm : xs.length ≤ 9223372036854775807 := by unfold maxLen at h2; omega
  go_enter Tryz.func101, Tryz.ntmps101
  go_wp2
  go_loopw [8] (fun i wr => ∃ k : Nat, k ≤ xs.length ∧ i = .int .i64 k ∧ Hid (Below w.heap.size w wr) ∧ Hid (∀ j, j < k → p (rci xs j) = false)) (fun i _ => xs.length - (intOf i).toNat)
  case atStart => exact ⟨0, Nat.zero_le _, rfl, Lib.hid (Below.refl _ _), Lib.hid fun j hj => by omega⟩
  case round =>
    obtain ⟨k, hk, rfl, hb, hj⟩ := hrel
    by_cases hlt : k < xs.length
    · obtain ⟨b, off, ha, hc⟩ := H3.out k hlt
      rw [ha]
      have hc' := hc.keep hb.out
      have c0 := hc'.c0
      have c1 := hc'.c1
      have c2 := hc'.c2
      have c3 := hc'.c3
      clear hc hc'
      go_wp2_with fail
      refine (HF.out (rci xs k) _ (HQ.out _ (rci_mem hlt)) hb.out).mono ?_
      rintro e w1 ⟨rfl, hb1⟩
      have HB1 := Lib.hid (ext_trans hb.out hb1)
      clear hb1 c0 c1 c2 c3
      generalize hx : p (rci xs k) = x
      have HX := Lib.hid hx; clear hx
      cases x
      · go_wp2_with fail
        go_roundw
        case rel =>
          refine ⟨k+1, by omega, by go_num, HB1, Lib.hid ?_⟩
          intro j hjk
          by_cases e : j = k
          · subst e; exact HX.out
          · exact hj.out j (by omega)
        case measure => simp [intOf]; omega
      · go_wp2_with fail
        go_ret
        exact ⟨ret_int (findG_hit p xs k hlt hj.out HX.out).symm, HB1.out⟩
    · go_wp2_with fail
      go_ret
      exact ⟨ret_int (findG_miss p xs (fun j h => hj.out j (by omega))).symm, hb.out⟩
theorem contains_Rc (fv v : Value) (q : Rct → Prop) (p : Rct → Bool) (xs : List Rct) (w : World) (h : SRc w v xs) (hq : ∀ x ∈ xs, q x) (hf : FnRc fv w q p) :
    Calls Tryz.prog 80 #[v, fv] w (Ret w (.bool (xs.any p))) := by
  have HI := Lib.hid (indexFunc_Rc fv v q p xs w h hq hf)
  obtain ⟨a, cap, rfl, _⟩ := h
  obtain ⟨F, caps, rfl, _⟩ := hf
  go_enter Tryz.func80, Tryz.ntmps80
  go_wp2_with fail
  refine HI.out.mono ?_
  rintro e w1 ⟨rfl, hb⟩
  have HB := Lib.hid hb
  clear hb
  go_wp2_with fail
  go_ret
  exact ⟨ret_bool (findG_any p xs), HB.out⟩
def dotW (a b c : Pnt) : Int := IntKind.i64.wrap (IntKind.i64.wrap (IntKind.i64.wrap (a.x - b.x) * IntKind.i64.wrap (c.x - b.x)) + IntKind.i64.wrap (IntKind.i64.wrap (a.y - b.y) * IntKind.i64.wrap (c.y - b.y)))
theorem back_on {a b c : Pnt} (ha : Nr a) (hb : Nr b) (hc : Nr c) (h : (onP a b c || onP c a b) = false) : (decide (turnP a b c = 0) && decide (0 < dotW a b c)) = false := by
  rw [Bool.or_eq_false_iff] at h
  rw [← Bool.not_eq_true]
  intro k
  rw [Bool.and_eq_true, decide_eq_true_eq, decide_eq_true_eq, turn_trn ha hb hc] at k
  have n1 : ¬ onZ a b c := fun x => absurd ((onP_iff ha hb hc).2 x) (by rw [h.1]; decide)
  have n2 : ¬ onZ c a b := fun x => absurd ((onP_iff hc ha hb).2 x) (by rw [h.2]; decide)
  obtain ⟨k1, k2⟩ := k
  obtain ⟨a1, a2, a3, a4⟩ := ha
  obtain ⟨b1, b2, b3, b4⟩ := hb
  obtain ⟨c1, c2, c3, c4⟩ := hc
  have e1 := mul_small (x := a.x - b.x) (y := c.x - b.x) (by omega) (by omega) (by omega) (by omega)
  have e2 := mul_small (x := a.y - b.y) (y := c.y - b.y) (by omega) (by omega) (by omega) (by omega)
  unfold dotW at k2
  rw [IntWalk.i64_in (a.x - b.x) (by omega), IntWalk.i64_in (c.x - b.x) (by omega), IntWalk.i64_in (a.y - b.y) (by omega), IntWalk.i64_in (c.y - b.y) (by omega), IntWalk.i64_in ((a.x - b.x) * (c.x - b.x)) (by omega), IntWalk.i64_in ((a.y - b.y) * (c.y - b.y)) (by omega), IntWalk.i64_in _ (by omega)] at k2
  have hcr : (a.x - b.x) * (c.y - b.y) = (a.y - b.y) * (c.x - b.x) := by
    unfold trn at k1
    have q1 : (b.x - a.x) * (c.y - a.y) = (b.x - a.x) * (c.y - b.y) + (b.x - a.x) * (b.y - a.y) := by rw [← Int.mul_add]; congr 1; omega
    have q2 : (b.y - a.y) * (c.x - a.x) = (b.y - a.y) * (c.x - b.x) + (b.y - a.y) * (b.x - a.x) := by rw [← Int.mul_add]; congr 1; omega
    have q3 : (b.x - a.x) * (b.y - a.y) = (b.y - a.y) * (b.x - a.x) := Int.mul_comm _ _
    have q4 : (b.x - a.x) * (c.y - b.y) = -((a.x - b.x) * (c.y - b.y)) := by rw [← Int.neg_mul]; congr 1; omega
    have q5 : (b.y - a.y) * (c.x - b.x) = -((a.y - b.y) * (c.x - b.x)) := by rw [← Int.neg_mul]; congr 1; omega
    omega
  rcases back_box hcr k2 with ⟨h1, h2⟩ | ⟨h1, h2⟩
  · exact n2 ⟨k1, by omega, by omega, by omega, by omega⟩
  · refine n1 ⟨?_, by omega, by omega, by omega, by omega⟩
    rw [← k1]
    unfold trn
    have q1 : (c.x - b.x) * (a.y - b.y) = (a.y - b.y) * (c.x - b.x) := Int.mul_comm _ _
    have q2 : (c.y - b.y) * (a.x - b.x) = (a.x - b.x) * (c.y - b.y) := Int.mul_comm _ _
    have q3 : (b.x - a.x) * (c.y - a.y) - (b.y - a.y) * (c.x - a.x) = 0 := k1
    omega
theorem Simp.adj {l : List Pnt} (h : Simp l) {i : Nat} (hi : i < l.length) : (onP (pti l i) (nxt l i) (nx2 l i) || onP (nx2 l i) (pti l i) (nxt l i)) = false := h.b i hi
theorem Simp.dif {l : List Pnt} (h : Simp l) (h3 : 2 ≤ l.length) {i : Nat} (hi : i < l.length) : ptEq (pti l i) (nxt l i) = false := by
  have hn : (i + 1) % l.length < l.length := Nat.mod_lt _ (by omega)
  have ne : (i + 1) % l.length ≠ i := mod_ne (by omega) hi
  unfold nxt
  rcases Nat.lt_or_gt_of_ne ne with g | g
  · exact h.a i _ g hi
  · have := h.a _ i g hn
    unfold ptEq at this ⊢
    rw [Bool.and_eq_false_iff, beq_eq_false_iff_ne, beq_eq_false_iff_ne] at this ⊢
    rcases this with e | e
    · exact Or.inl (Ne.symm e)
    · exact Or.inr (Ne.symm e)
theorem ptC2 {w : World} {b off : Nat} {x : Pnt} (h : PtAt w b off x) : w.rangeAt b off (ptCells x) := pt_range h
set_option maxRecDepth 100000 in
set_option maxHeartbeats 4000000 in
theorem pSimple_any (v : Value) (l : List Pnt) (w : World) (h : SPt w v l) (hs : Simp l) (hn : nearL l = true) (h3 : 3 ≤ l.length) (h32 : l.length ≤ 32) : Calls Tryz.prog 86 #[v] w (Ret w (.bool true)) := by
  have HS := Lib.hid hs
  have HN := Lib.hid hn
  obtain ⟨pa, pc, rfl, k1, k2, k3⟩ := h
  have K3 := Lib.hid k3
  clear k3 hs hn k2
  go_enter Tryz.func86, Tryz.ntmps86
  go_wp2_with fail
  go_loopw [13] (fun i wr => ∃ k : Nat, k ≤ l.length ∧ i = .int .i64 k ∧ Hid (Below w.heap.size w wr)) (fun i _ => l.length - (intOf i).toNat)
  case atStart => exact ⟨0, Nat.zero_le _, rfl, Below.refl _ _⟩
  case round =>
    obtain ⟨i, hi, rfl, hb⟩ := hrel
    by_cases hlt : i < l.length
    · have i1 : (i : Int) < l.length := by omega
      have m1 : (i + 1) % l.length < l.length := Nat.mod_lt _ (by omega)
      have m2 : (i + 2) % l.length < l.length := Nat.mod_lt _ (by omega)
      obtain ⟨pb, po, rfl, hc⟩ := K3.out i hlt
      obtain ⟨pb', po', e', hc'⟩ := K3.out _ m1
      cases e'
      obtain ⟨pb', po', e', hcc⟩ := K3.out _ m2
      cases e'
      have HC1 := Lib.hid (hc.keep hb.out)
      have HC2 := Lib.hid (hc'.keep hb.out)
      have HC3 := Lib.hid (hcc.keep hb.out)
      clear hc hc' hcc
      go_upto_region 5 with fail
      refine wp_region_nw gmT gmT_ok [⟨pb, po + i * 2, ptCells (pti l i)⟩, ⟨pb, po + (i + 1) % l.length * 2, ptCells (nxt l i)⟩] [] [(18, .ix i 0), (25, .ix ((i + 1) % l.length) 1)] [] [⟨11, 13, 5, 19, 37, #[.int .i64 0, .int .i64 0], ptA (pti l i)⟩, ⟨12, 14, 6, 26, 37, #[.int .i64 0, .int .i64 0], ptA (nxt l i)⟩]
        (by kernel_rfl) mixed (by kernel_rfl) (by show ([11, 13, 12, 14] : List Nat).Nodup; decide) ?_ (obsC (fun u hu => rangeKeep (pt_range HC1.out) hu) (obsC (fun u hu => rangeKeep (pt_range HC2.out) hu) obsN)) trivial ?_
      · exact List.forall_mem_cons.2 ⟨⟨⟨_, rfl, rfl, rfl⟩, ⟨_, rfl, rfl, rfl, ⟨11, .data⟩, by simp, rfl, rfl⟩, alloc_point, by kernel_rfl, rfl, pt_one _⟩, List.forall_mem_cons.2 ⟨⟨⟨_, rfl, rfl, rfl⟩, ⟨_, rfl, rfl, rfl, ⟨12, .data⟩, by simp, rfl, rfl⟩, alloc_point, by kernel_rfl, rfl, pt_one _⟩, fun p hp => by cases hp⟩⟩
      conv => whnf
      refine And.intro (under_of ⟨rfl, hlt, rfl, rfl⟩) ?_
      conv => whnf
      refine And.intro (Nat.le_of_ble_eq_true rfl) ?_
      conv => whnf
      refine And.intro (under_of (by omega)) ?_
      conv => whnf
      refine And.intro (under_of ⟨modix1 (by omega), m1, rfl, rfl⟩) ?_
      conv => whnf
      refine And.intro (Nat.le_of_ble_eq_true rfl) ?_
      conv => whnf
      refine And.intro ⟨rfl, rfl, trivial⟩ ?_
      intro f1
      conv => whnf
      intro w3 h3 hnw3
      obtain ⟨b5, e5, g5, o5⟩ := hnw3 _ (.head _)
      obtain ⟨b6, e6, g6, o6⟩ := hnw3 _ (.tail _ (.head _))
      dsimp only at e5
      rw [e5]
      dsimp only at e6
      rw [e6]
      clear hnw3 e5 e6
      have HB3 := Lib.hid (ext_trans hb.out h3)
      have O5 := Lib.hid o5
      have O6 := Lib.hid o6
      have HC33 := Lib.hid (HC3.out.keep h3)
      clear h3 g5 g6 o5 o6 HC1 HC2 HC3
      go_upto_region 6 with fail
      refine wp_region_et gmT gmT_ok [⟨b5, 0, (ptA (pti l i)).toList⟩, ⟨b6, 0, (ptA (nxt l i)).toList⟩] (Below w3.heap.size w3) [(5, 0), (6, 1)] [(29, .ret (.bool (ptEq (pti l i) (nxt l i))))] [(29, .bool false)] (by kernel_rfl) (Below.refl _ _)
        (obsC (fun u hu => rangeKeep (range_new O5.out) hu) (obsC (fun u hu => rangeKeep (range_new O6.out) hu) obsN)) ⟨rfl, rfl, trivial⟩ ?_
      conv => whnf
      refine And.intro (Nat.le_of_ble_eq_true rfl) ?_
      conv => whnf
      refine And.intro (Nat.le_of_ble_eq_true rfl) ?_
      conv => whnf
      refine And.intro (under_of fun x y w => eql_pt (pti l i) (nxt l i) _ x y w rfl) ?_
      conv => whnf
      intro f4
      conv => whnf
      refine And.intro (congrArg Value.bool (HS.out.dif (by omega) hlt)) ?_
      conv => whnf
      intro w4 h4
      have HB4 := Lib.hid (ext_trans HB3.out h4)
      have O54 := Lib.hid (O5.out.keep h4)
      have O64 := Lib.hid (O6.out.keep h4)
      have HC34 := Lib.hid (HC33.out.keep h4)
      clear h4 O5 O6 HC33
      go_upto_region 8 with fail
      refine wp_region_en 7 gmT gmT_ok [⟨pb, po + (i + 2) % l.length * 2, ptCells (nx2 l i)⟩] (fun v => v = w4) [] [(35, .ix ((i + 2) % l.length) 0)] [(36, .agg (ptA (nx2 l i)))] 7 36 37 (#[.int .i64 0, .int .i64 0]) (ptA (nx2 l i)) (by kernel_rfl) rfl ⟨_, _, rfl, ⟨rfl, rfl, rfl⟩, rfl, rfl, rfl⟩ (by decide) alloc_point (by kernel_rfl) rfl (pt_one _)
        (obsC (fun u hu => by cases hu; exact (pt_range HC34.out)) obsN) trivial ?_
      conv => whnf
      refine And.intro (under_of (by omega)) ?_
      conv => whnf
      refine And.intro (under_of ⟨modix2 (by omega), m2, rfl, rfl⟩) ?_
      conv => whnf
      refine And.intro (Nat.le_of_ble_eq_true rfl) ?_
      conv => whnf
      intro f5
      conv => whnf
      refine And.intro (rfl) ?_
      conv => whnf
      refine And.intro ⟨rfl, rfl⟩ ?_
      intro w2 h2
      conv => whnf
      cases h2
      obtain ⟨W5, O75, HB5', HW5⟩ := newObj w4 (ptA (nx2 l i)) 37
      obtain ⟨b7, hb7⟩ : ∃ b, w4.heap.size = b := ⟨_, rfl⟩
      rw [hb7] at O75
      rw [HW5.out, hb7]
      have HB5 := Lib.hid (ext_trans HB4.out HB5'.out)
      have O55 := Lib.hid (O54.out.keep HB5'.out)
      have O65 := Lib.hid (O64.out.keep HB5'.out)
      clear hb7
      go_upto_region 9 with fail
      refine wp_region_et gmT gmT_ok [⟨b5, 0, (ptA (pti l i)).toList⟩, ⟨b6, 0, (ptA (nxt l i)).toList⟩, ⟨b7, 0, (ptA (nx2 l i)).toList⟩] (Below W5.heap.size W5) [(5, 0), (6, 1), (7, 2)] [(40, .ret (.int .i64 (turnP (pti l i) (nxt l i) (nx2 l i))))] [(67, .bool false)] (by kernel_rfl) (Below.refl _ _)
        (obsC (fun u hu => rangeKeep (range_new O55.out) hu) (obsC (fun u hu => rangeKeep (range_new O65.out) hu) (obsC (fun u hu => rangeKeep (range_new O75.out) hu) obsN))) ⟨rfl, rfl, rfl, trivial⟩ ?_
      conv => whnf
      refine And.intro (Nat.le_of_ble_eq_true rfl) ?_
      conv => whnf
      refine And.intro (Nat.le_of_ble_eq_true rfl) ?_
      conv => whnf
      refine And.intro (Nat.le_of_ble_eq_true rfl) ?_
      conv => whnf
      refine And.intro (under_of fun u hu => ret_in (pCross_any _ _ _ u) hu) ?_
      conv => whnf
      intro f6
      conv => whnf
      refine And.intro (congrArg Value.bool (back_on (near_nr HN.out hlt) (near_nr HN.out m1) (near_nr HN.out m2) (HS.out.adj hlt))) ?_
      conv => whnf
      intro w6 h6
      have HB6 := Lib.hid (ext_trans HB5.out h6)
      have O56 := Lib.hid (O55.out.keep h6)
      have O66 := Lib.hid (O65.out.keep h6)
      clear h6 O55 O65 O54 O64 O75
      go_wp2_with fail
      go_loopw [8] (fun i8 wr2 => ∃ k : Nat, k ≤ l.length + 2 ∧ i8 = .int .i64 k ∧ i + 2 ≤ k ∧ Hid (Below w6.heap.size w6 wr2)) (fun i8 _ => l.length + 2 - (intOf i8).toNat)
      case atStart => exact ⟨i + 2, by omega, by go_num, by omega, Below.refl _ _⟩
      case round =>
        obtain ⟨k, hk, rfl, hik, hb2⟩ := hrel
        by_cases hlt2 : k < l.length
        · have i2 : (k : Int) < l.length := by omega
          have n1 : (k + 1) % l.length < l.length := Nat.mod_lt _ (by omega)
          obtain ⟨pb', po', e', hc⟩ := K3.out k hlt2
          cases e'
          obtain ⟨pb', po', e', hc'⟩ := K3.out _ n1
          cases e'
          have HD1 := Lib.hid (hc.keep (ext_trans HB6.out hb2.out))
          have HD2 := Lib.hid (hc'.keep (ext_trans HB6.out hb2.out))
          have O57 := Lib.hid (O56.out.keep hb2.out)
          have O67 := Lib.hid (O66.out.keep hb2.out)
          have HF : Hid (((!decide ((((k + 1) % l.length : Nat) : Int) = i)) && meetQ (pti l i) (nxt l i) (pti l k) (nxt l k)) = false) := by
            show _ = _
            have := HS.out.c i k hik hlt2
            rw [← meetQ_eq] at this
            rw [← this]
            congr 1
            rw [Bool.eq_iff_iff]
            simp only [Bool.not_eq_true', decide_eq_false_iff_not, decide_eq_true_eq, ne_eq]
            omega
          clear hc hc'
          go_upto_region 14 with fail
          refine wp_region_ev gmT gmT_ok [⟨b5, 0, (ptA (pti l i)).toList⟩, ⟨b6, 0, (ptA (nxt l i)).toList⟩, ⟨pb, po + k * 2, ptCells (pti l k)⟩, ⟨pb, po + (k + 1) % l.length * 2, ptCells (nxt l k)⟩] (Below wr.heap.size wr) [(5, 0), (6, 1)] [(86, .ix k 2), (93, .ix ((k + 1) % l.length) 3), (95, .ret (.bool (meetQ (pti l i) (nxt l i) (pti l k) (nxt l k))))] [(96, .bool false)] (by kernel_rfl) mixed (by kernel_rfl) ((Below.refl _ _).drew)
            (obsC (fun u hu => rangeKeep (range_new O57.out) hu) (obsC (fun u hu => rangeKeep (range_new O67.out) hu) (obsC (fun u hu => rangeKeep (pt_range HD1.out) hu) (obsC (fun u hu => rangeKeep (pt_range HD2.out) hu) obsN)))) ⟨rfl, rfl, trivial⟩ ?_
          conv => whnf
          refine And.intro (under_of (by omega)) ?_
          conv => whnf
          refine And.intro (Nat.le_of_ble_eq_true rfl) ?_
          conv => whnf
          refine And.intro (Nat.le_of_ble_eq_true rfl) ?_
          conv => whnf
          refine And.intro (under_of ⟨rfl, hlt2, rfl, rfl⟩) ?_
          conv => whnf
          refine And.intro (Nat.le_of_ble_eq_true rfl) ?_
          conv => whnf
          refine And.intro (under_of (by omega)) ?_
          conv => whnf
          refine And.intro (under_of ⟨modix1 (by omega), n1, rfl, rfl⟩) ?_
          conv => whnf
          refine And.intro (Nat.le_of_ble_eq_true rfl) ?_
          conv => whnf
          refine And.intro (under_of fun u hu => ret_in (pMeet_any _ _ _ _ u) hu) ?_
          conv => whnf
          intro f8
          conv => whnf
          refine And.intro (by rw [modix1 (by omega)]; exact congrArg Value.bool HF.out) ?_
          conv => whnf
          intro w8 h8
          have HB8 := Lib.hid (ext_trans hb2.out h8)
          clear h8
          go_wp2_with fail
          go_roundw
          case rel => exact ⟨k + 1, by omega, by go_num, by omega, HB8⟩
          case measure => simp [intOf]; omega
        · have i2 : ¬ (k : Int) < l.length := by omega
          have HBE := Lib.hid (ext_trans HB6.out hb2.out)
          go_wp2_with fail
          go_roundw
          case rel => exact ⟨i + 1, by omega, by go_num, HBE⟩
          case measure => simp [intOf]; omega
    · have i1 : ¬ (i : Int) < l.length := by omega
      go_wp2_with fail
      go_ret
      exact ⟨rfl, hb.out⟩
end Go.Proofs.YtfmhickjefogdaaGreat

/- poly's area, Check, Area2, Where at contours that are right (printed by wip/gen_poc.py). -/
namespace Go.Proofs.YtfmhickjefogdaaGreat
open Go.RowKit

/-- a contour that is right and has an area -/
structure Pol (l : List Pnt) : Prop where
  c : Ctr l
  a : area2L l ≠ 0
def pareaTo (l : List Pnt) : Nat → Int
  | 0 => 0
  | k + 1 => IntKind.i64.wrap (pareaTo l k + IntKind.i64.wrap (IntKind.i64.wrap ((pti l k).x * (nxt l k).y) - IntKind.i64.wrap ((nxt l k).x * (pti l k).y)))
theorem parea_eq {l : List Pnt} (h : Ctr l) : ∀ k, k ≤ l.length → pareaTo l k = areaTo l k
  | 0, _ => rfl
  | k + 1, hk => by
    have ih := parea_eq h k (by omega)
    obtain ⟨_, h1, h2⟩ := area_to h k (by omega)
    obtain ⟨a1, a2, a3, a4⟩ := h.nr (show k < l.length by omega)
    obtain ⟨b1, b2, b3, b4⟩ := h.nx (show k < l.length by omega)
    have m1 := mul_small (x := (pti l k).x) (y := (nxt l k).y) (by omega) (by omega) (by omega) (by omega)
    have m2 := mul_small (x := (pti l k).y) (y := (nxt l k).x) (by omega) (by omega) (by omega) (by omega)
    have hn := h.n
    have hk' : (k : Int) ≤ 32 := by omega
    have hcm : (nxt l k).x * (pti l k).y = (pti l k).y * (nxt l k).x := Int.mul_comm _ _
    unfold pareaTo areaTo
    rw [ih, hcm, IntWalk.i64_in ((pti l k).x * (nxt l k).y) (by omega), IntWalk.i64_in ((pti l k).y * (nxt l k).x) (by omega), IntWalk.i64_in (areaTo l k + (pti l k).x * (nxt l k).y) (by omega), IntWalk.i64_in ((pti l k).x * (nxt l k).y - (pti l k).y * (nxt l k).x) (by omega)]
    congr 1
    omega
theorem parea_all {l : List Pnt} (h : Ctr l) : pareaTo l l.length = area2L l := by
  unfold area2L
  rw [if_pos ((pchk_ctr l).2 h), parea_eq h _ (Nat.le_refl _)]
theorem Ctr.simp {l : List Pnt} (h : Ctr l) : Simp l := (simp_simple h.near h.s.n).2 h.s
def togB (a b q : Pnt) : Bool := !(decide (q.y < a.y) == decide (q.y < b.y)) && (decide (0 < turnP a b q) == decide (a.y < b.y))
theorem tog_eq {a b q : Pnt} (ha : Nr a) (hb : Nr b) (hq : Nr q) (h : onP q a b = false) : togB a b q = (upP a b q || dnP a b q) := by
  unfold togB upP dnP
  rw [turn_trn ha hb hq]
  have n : ¬ onZ q a b := fun x => absurd ((onP_iff hq ha hb).2 x) (by rw [h]; decide)
  have key : b.y ≤ q.y → q.y < a.y → trn a b q ≠ 0 := fun h1 h2 h3 => by
    refine n ⟨h3, ?_⟩
    have hm : (a.y - b.y) * q.x = ((a.y - b.y) - (a.y - q.y)) * a.x + (a.y - q.y) * b.x := by
      have h3 : (b.x - a.x) * (q.y - a.y) - (b.y - a.y) * (q.x - a.x) = 0 := h3
      have e1 : (b.x - a.x) * (q.y - a.y) = b.x * q.y - b.x * a.y - (a.x * q.y - a.x * a.y) := by rw [Int.sub_mul, Int.mul_sub, Int.mul_sub]
      have e2 : (b.y - a.y) * (q.x - a.x) = b.y * q.x - b.y * a.x - (a.y * q.x - a.y * a.x) := by rw [Int.sub_mul, Int.mul_sub, Int.mul_sub]
      have e3 : (a.y - b.y) * q.x = a.y * q.x - b.y * q.x := Int.sub_mul _ _ _
      have e4 : ((a.y - b.y) - (a.y - q.y)) * a.x = q.y * a.x - b.y * a.x := by rw [← Int.sub_mul]; congr 1; omega
      have e5 : (a.y - q.y) * b.x = a.y * b.x - q.y * b.x := Int.sub_mul _ _ _
      rw [e3, e4, e5]
      rw [e1, e2] at h3
      rw [Int.mul_comm q.y a.x, Int.mul_comm q.y b.x, Int.mul_comm a.y b.x]
      have : a.x * a.y = a.y * a.x := Int.mul_comm _ _
      omega
    have bt := between (show 0 < a.y - b.y by omega) (show 0 ≤ a.y - q.y by omega) (by omega) hm
    exact ⟨bt.1, bt.2, by omega, by omega⟩
  have e1 : ∀ z : Int, decide (z ≤ q.y) = !decide (q.y < z) := fun z => by
    by_cases h : q.y < z
    · rw [decide_eq_true h, decide_eq_false (by omega)]; rfl
    · rw [decide_eq_false h, decide_eq_true (by omega)]; rfl
  rw [e1, e1]
  generalize trn a b q = t at *
  by_cases c1 : q.y < a.y <;> by_cases c2 : q.y < b.y
  · rw [decide_eq_true c1, decide_eq_true c2]; simp
  · have c4 := key (by omega) c1
    rw [decide_eq_true c1, decide_eq_false c2, decide_eq_false (show ¬ a.y < b.y by omega)]
    by_cases c3 : 0 < t
    · rw [decide_eq_true c3, decide_eq_false (show ¬ t < 0 by omega)]; rfl
    · rw [decide_eq_false c3, decide_eq_true (show t < 0 by omega)]; rfl
  · rw [decide_eq_false c1, decide_eq_true c2, decide_eq_true (show a.y < b.y by omega)]
    simp
  · rw [decide_eq_false c1, decide_eq_false c2]; simp
theorem eql_bool (a b : Bool) (t : TypeId) (x y : Operand) (w : World) (ht : t = 4) : (eqGuard .eql t x y (.bool a) (.bool b)).run Tryz.prog w = .ok () w ∧ (binOp .eql t (.bool a) (.bool b)).run Tryz.prog w = .ok (.bool (a == b)) w := by
  subst ht
  cases a <;> cases b <;> exact ⟨by go_simp, by go_simp⟩
theorem far_fn (W0 : World) : FnPt (.func (.func 85) #[] #[]) W0 (fun _ => True) (fun q => !nearP q) :=
  ⟨_, _, rfl, fun args w => enters_of Tryz.func85 (by kernel_rfl) rfl args w, fun x w _ _ => pFar_any x w⟩
theorem near_any {l : List Pnt} (h : nearL l = true) : (l.any fun q => !nearP q) = false := by
  unfold nearL at h
  rw [List.all_eq_true] at h
  rw [List.any_eq_false]
  intro x hx
  rw [h x hx]; decide
set_option maxRecDepth 100000 in
set_option maxHeartbeats 2000000 in
theorem pArea_any (v : Value) (l : List Pnt) (w : World) (h : SPt w v l) (hc : Ctr l) : Calls Tryz.prog 61 #[v] w (Ret w (.int .i64 (area2L l))) := by
  have HV := Lib.hid (parea_all hc)
  have h32 := hc.n
  obtain ⟨pa, pc, rfl, k1, k2, k3⟩ := h
  have K3 := Lib.hid k3
  clear k3 k2 hc
  go_enter Tryz.func61, Tryz.ntmps61
  go_wp2_with fail
  go_loopw [3, 9] (fun n i wr => ∃ k : Nat, k ≤ l.length ∧ i = .int .i64 k ∧ n = .int .i64 (pareaTo l k) ∧ Hid (Below w.heap.size w wr)) (fun _ i _ => l.length - (intOf i).toNat)
  case atStart => exact ⟨0, Nat.zero_le _, rfl, rfl, Below.refl _ _⟩
  case round =>
    obtain ⟨i, hi, rfl, rfl, hb⟩ := hrel
    by_cases hlt : i < l.length
    · have i1 : (i : Int) < l.length := by omega
      have m1 : (i + 1) % l.length < l.length := Nat.mod_lt _ (by omega)
      obtain ⟨pb, po, rfl, hc⟩ := K3.out i hlt
      obtain ⟨pb', po', e', hc'⟩ := K3.out _ m1
      cases e'
      have HC2 := Lib.hid (hc'.keep hb.out)
      have p0 := (hc.keep hb.out).c0
      have p1 := (hc.keep hb.out).c1
      clear hc hc'
      obtain ⟨W2, HA2, HB2', HW2, _⟩ := copyPt wr (pti l i)
      go_upto_region 5 with fail
      rw [HW2.out]
      have HB2 := Lib.hid (ext_trans hb.out HB2'.out)
      have HC3 := Lib.hid (HC2.out.keep HB2'.out)
      clear p0 p1 HC2
      refine wp_region_en 8 gmT gmT_ok [⟨pb, po + (i + 1) % l.length * 2, ptCells (nxt l i)⟩] (fun v => v = W2) [] [(20, .ix ((i + 1) % l.length) 0)] [(21, .agg (ptA (nxt l i)))] 6 21 37 (#[.int .i64 0, .int .i64 0]) (ptA (nxt l i)) (by kernel_rfl) rfl ⟨_, _, rfl, ⟨rfl, rfl, rfl⟩, rfl, rfl, rfl⟩ (by decide) alloc_point (by kernel_rfl) rfl (pt_one _)
        (obsC (fun u hu => by cases hu; exact (pt_range HC3.out)) obsN) trivial ?_
      conv => whnf
      refine And.intro (under_of (by omega)) ?_
      conv => whnf
      refine And.intro (under_of ⟨modix1 (by omega), m1, rfl, rfl⟩) ?_
      conv => whnf
      refine And.intro (Nat.le_of_ble_eq_true rfl) ?_
      conv => whnf
      intro f1
      conv => whnf
      refine And.intro (rfl) ?_
      conv => whnf
      refine And.intro ⟨rfl, rfl⟩ ?_
      intro w2 h2
      conv => whnf
      cases h2
      obtain ⟨W3, HD3, HB3', HW3⟩ := newObj W2 (ptA (nxt l i)) 37
      obtain ⟨b6, hb6⟩ : ∃ b, W2.heap.size = b := ⟨_, rfl⟩
      rw [hb6] at HD3
      rw [HW3.out, hb6]
      have HB3 := Lib.hid (ext_trans HB2.out HB3'.out)
      have HA3 := Lib.hid (HA2.out.keep HB3'.out)
      clear hb6
      go_upto_region 6 with fail
      refine wp_region_et gmT gmT_ok [⟨wr.heap.size, 0, (ptA (pti l i)).toList⟩, ⟨b6, 0, (ptA (nxt l i)).toList⟩] (Below W3.heap.size W3) [(5, 0), (6, 1)] [] [(3, .int .i64 (pareaTo l (i + 1)))] (by kernel_rfl) (Below.refl _ _)
        (obsC (fun u hu => rangeKeep (range_new HA3.out) hu) (obsC (fun u hu => rangeKeep (range_new HD3.out) hu) obsN)) ⟨rfl, rfl, trivial⟩ ?_
      conv => whnf
      intro f4
      conv => whnf
      refine And.intro (rfl) ?_
      conv => whnf
      intro w4 h4
      have HB4 := Lib.hid (ext_trans HB3.out h4)
      clear h4
      go_wp2_with fail
      go_roundw
      case rel => exact ⟨i + 1, by omega, by go_num, rfl, HB4⟩
      case measure => simp [intOf]; omega
    · have i1 : ¬ (i : Int) < l.length := by omega
      have e : i = l.length := by omega
      subst e
      go_wp2_with fail
      go_ret
      exact ⟨ret_int HV.out, hb.out⟩
set_option maxRecDepth 100000 in
set_option maxHeartbeats 2000000 in
theorem pCheck_any (v : Value) (l : List Pnt) (w : World) (h : SPt w v l) (hp : Pol l) : Calls Tryz.prog 53 #[v] w (Ret w (.int .i64 0)) := by
  have HS := Lib.hid h
  have HP := Lib.hid hp
  have h32 := hp.c.n
  have h3 := hp.c.s.n
  have HNA := Lib.hid (near_any hp.c.near)
  obtain ⟨pa, pc, rfl, _⟩ := h
  have i1 : ¬ (l.length : Int) < 3 := by omega
  have i2 : ¬ (32 : Int) < l.length := by omega
  go_enter Tryz.func53, Tryz.ntmps53
  go_wp2_with fail
  refine (contains_Pt _ _ (fun _ => True) (fun q => !nearP q) l w HS.out (fun _ _ => trivial) (far_fn w)).mono ?_
  rintro e w1 ⟨rfl, hb1⟩
  have HB1 := Lib.hid hb1
  clear hb1
  rw [HNA.out]
  go_wp2_with fail
  refine (pSimple_any _ l w1 (HS.out.keep HB1.out) HP.out.c.simp HP.out.c.near h3 h32).mono ?_
  rintro e w2 ⟨rfl, hb2⟩
  have HB2 := Lib.hid (ext_trans HB1.out hb2)
  clear hb2
  go_wp2_with fail
  refine (pArea_any _ l w2 (HS.out.keep HB2.out) HP.out.c).mono ?_
  rintro e w3 ⟨rfl, hb3⟩
  have HB3 := Lib.hid (ext_trans HB2.out hb3)
  clear hb3
  have ha := HP.out.a
  have hz : (area2L l == 0) = false := beq_eq_false_iff_ne.2 ha
  generalize area2L l = z at *
  go_wp2_with fail
  go_ret
  exact ⟨rfl, HB3.out⟩
set_option maxRecDepth 100000 in
theorem pArea2_any (v : Value) (l : List Pnt) (w : World) (h : SPt w v l) (hp : Pol l) : Calls Tryz.prog 31 #[v] w (Ret w (.int .i64 (area2L l))) := by
  have HS := Lib.hid h
  have HP := Lib.hid hp
  go_enter Tryz.func31, Tryz.ntmps31
  go_wp2_with fail
  refine (pCheck_any v l w HS.out HP.out).mono ?_
  rintro e w1 ⟨rfl, hb1⟩
  have HB1 := Lib.hid hb1
  clear hb1
  go_wp2_with fail
  refine (pArea_any v l w1 (HS.out.keep HB1.out) HP.out.c).mono ?_
  rintro e w2 ⟨rfl, hb2⟩
  have HB2 := Lib.hid (ext_trans HB1.out hb2)
  clear hb2
  go_wp2_with fail
  go_ret
  exact ⟨rfl, HB2.out⟩
set_option maxRecDepth 100000 in
set_option maxHeartbeats 4000000 in
theorem pWhere_any (v : Value) (l : List Pnt) (q : Pnt) (w : World) (h : SPt w v l) (hp : Pol l) (hq : Nr q) : Calls Tryz.prog 56 #[v, ptV q] w (Ret w (.int .i64 (whereL l q))) := by
  have HS := Lib.hid h
  have HP := Lib.hid hp
  have HQ := Lib.hid hq
  have h32 := hp.c.n
  have h3 := hp.c.s.n
  have HNQ := Lib.hid ((nearP_iff q).2 hq)
  have HC : Hid (whereL l q = if edgB l q = true then 0 else if insTo l q l.length = true then 1 else -1) := by
    show _ = _
    unfold whereL
    rw [(pchk_ctr l).2 hp.c, (nearP_iff q).2 hq]
    rfl
  obtain ⟨pa, pc, rfl, k1, k2, k3⟩ := h
  have K3 := Lib.hid k3
  clear k3 k2 hp hq
  obtain ⟨W1, HOa, HB1, HW⟩ := boxP1 w q
  unfold ptV
  go_enter Tryz.func56, Tryz.ntmps56
  go_upto_region 1 with fail
  rw [HW.out]
  refine wp_region_et gmT gmT_ok [⟨w.heap.size, 0, (ptA q).toList⟩] (Below W1.heap.size W1) [(3, 0)] [(11, .ret (.bool (!nearP q))), (14, .ret (.int .i64 0))] [(16, .bool false)] (by kernel_rfl) (Below.refl _ _)
    (obsC (fun u hu => rangeKeep (range_new HOa.out) hu) obsN) ⟨rfl, trivial⟩ ?_
  conv => whnf
  refine And.intro (Nat.le_of_ble_eq_true rfl) ?_
  conv => whnf
  refine And.intro (under_of fun u hu => ret_in (pFar_any q u) hu) ?_
  conv => whnf
  refine And.intro (under_of fun u hu => ret_in (pCheck_any _ l u (HS.out.keep (ext_trans HB1.out hu)) HP.out) hu) ?_
  conv => whnf
  intro f1
  conv => whnf
  refine And.intro (by rw [HNQ.out]; rfl) ?_
  conv => whnf
  intro w2 h2
  have HB2 := Lib.hid (ext_trans HB1.out h2)
  have HQ2 := Lib.hid (HOa.out.keep h2)
  clear h2
  go_wp2_with fail
  go_loopw [5, 19] (fun n i wr => ∃ k : Nat, k ≤ l.length ∧ i = .int .i64 k ∧ n = .bool (insTo l q k) ∧ Hid (Below w2.heap.size w2 wr) ∧ Hid (∀ j, j < k → onP q (pti l j) (nxt l j) = false)) (fun _ i _ => l.length - (intOf i).toNat)
  case atStart => exact ⟨0, Nat.zero_le _, rfl, rfl, Below.refl _ _, fun j h => by omega⟩
  case round =>
    obtain ⟨i, hi, rfl, rfl, hb, ha⟩ := hrel
    have HBW := Lib.hid (ext_trans HB2.out hb.out)
    by_cases hlt : i < l.length
    · have i1 : (i : Int) < l.length := by omega
      have m1 : (i + 1) % l.length < l.length := Nat.mod_lt _ (by omega)
      obtain ⟨pb, po, rfl, hc⟩ := K3.out i hlt
      obtain ⟨pb', po', e', hc'⟩ := K3.out _ m1
      cases e'
      have HC2 := Lib.hid (hc'.keep HBW.out)
      have p0 := (hc.keep HBW.out).c0
      have p1 := (hc.keep HBW.out).c1
      have HI : Hid (insTo l q (i + 1) = if (upP (pti l i) (nxt l i) q || dnP (pti l i) (nxt l i) q) = true then !insTo l q i else insTo l q i) := rfl
      obtain ⟨s, hs⟩ : ∃ s, insTo l q i = s := ⟨_, rfl⟩
      rw [hs] at HI ⊢
      have HNA := Lib.hid (HP.out.c.nr hlt)
      have HNB := Lib.hid (HP.out.c.nx hlt)
      clear hc hc' hs
      obtain ⟨W3, HA3, HB3', HW3, _⟩ := copyPt wr (pti l i)
      go_upto_region 7 with fail
      rw [HW3.out]
      have HB3 := Lib.hid (ext_trans hb.out HB3'.out)
      have HC3 := Lib.hid (HC2.out.keep HB3'.out)
      have HQ3 := Lib.hid (HQ2.out.keep HB3.out)
      clear p0 p1 HC2
      refine wp_region_en 8 gmT gmT_ok [⟨pb, po + (i + 1) % l.length * 2, ptCells (nxt l i)⟩] (fun v => v = W3) [] [(30, .ix ((i + 1) % l.length) 0)] [(31, .agg (ptA (nxt l i)))] 8 31 37 (#[.int .i64 0, .int .i64 0]) (ptA (nxt l i)) (by kernel_rfl) rfl ⟨_, _, rfl, ⟨rfl, rfl, rfl⟩, rfl, rfl, rfl⟩ (by decide) alloc_point (by kernel_rfl) rfl (pt_one _)
        (obsC (fun u hu => by cases hu; exact (pt_range HC3.out)) obsN) trivial ?_
      conv => whnf
      refine And.intro (under_of (by omega)) ?_
      conv => whnf
      refine And.intro (under_of ⟨modix1 (by omega), m1, rfl, rfl⟩) ?_
      conv => whnf
      refine And.intro (Nat.le_of_ble_eq_true rfl) ?_
      conv => whnf
      intro f1
      conv => whnf
      refine And.intro (rfl) ?_
      conv => whnf
      refine And.intro ⟨rfl, rfl⟩ ?_
      intro w2 h2
      conv => whnf
      cases h2
      obtain ⟨W4, HD4, HB4', HW4⟩ := newObj W3 (ptA (nxt l i)) 37
      obtain ⟨b8, hb8⟩ : ∃ b, W3.heap.size = b := ⟨_, rfl⟩
      rw [hb8] at HD4
      rw [HW4.out, hb8]
      have HB4 := Lib.hid (ext_trans HB3.out HB4'.out)
      have HA4 := Lib.hid (HA3.out.keep HB4'.out)
      have HQ4 := Lib.hid (HQ3.out.keep HB4'.out)
      clear hb8
      go_upto_region 8 with fail
      refine wp_region_et gmT gmT_ok [⟨wr.heap.size, 0, (ptA (pti l i)).toList⟩, ⟨b8, 0, (ptA (nxt l i)).toList⟩, ⟨w.heap.size, 0, (ptA q).toList⟩] (Below W4.heap.size W4) [(7, 0), (8, 1), (3, 2)] [(35, .ret (.bool (onP q (pti l i) (nxt l i))))] [(35, .bool (onP q (pti l i) (nxt l i)))] (by kernel_rfl) (Below.refl _ _)
        (obsC (fun u hu => rangeKeep (range_new HA4.out) hu) (obsC (fun u hu => rangeKeep (range_new HD4.out) hu) (obsC (fun u hu => rangeKeep (range_new HQ4.out) hu) obsN))) ⟨rfl, rfl, rfl, trivial⟩ ?_
      conv => whnf
      refine And.intro (Nat.le_of_ble_eq_true rfl) ?_
      conv => whnf
      refine And.intro (Nat.le_of_ble_eq_true rfl) ?_
      conv => whnf
      refine And.intro (Nat.le_of_ble_eq_true rfl) ?_
      conv => whnf
      refine And.intro (under_of fun u hu => ret_in (pOn_any _ _ _ u) hu) ?_
      conv => whnf
      intro f5
      conv => whnf
      refine And.intro (rfl) ?_
      conv => whnf
      intro w5 h5
      have HB5 := Lib.hid (ext_trans HB4.out h5)
      have HA5 := Lib.hid (HA4.out.keep h5)
      have HD5 := Lib.hid (HD4.out.keep h5)
      have HQ5 := Lib.hid (HQ4.out.keep h5)
      clear h5
      have HBW5 := Lib.hid (ext_trans HB2.out HB5.out)
      obtain ⟨z, hz⟩ : ∃ z, onP q (pti l i) (nxt l i) = z := ⟨_, rfl⟩
      have HZ2 := Lib.hid hz
      rw [hz]
      clear hz
      cases z
      case true =>
        have HE : Hid (edgB l q = true) := by
          show _ = _
          unfold edgB
          rw [List.any_eq_true]
          exact ⟨i, List.mem_range.2 hlt, HZ2.out⟩
        rw [if_pos HE.out] at HC
        go_wp2_with fail
        go_ret
        exact ⟨ret_int HC.out.symm, HBW5.out⟩
      have HAF : Hid (∀ j, j < i + 1 → onP q (pti l j) (nxt l j) = false) := fun j h => by
        by_cases e : j = i
        · subst e; exact HZ2.out
        · exact ha.out j (by omega)
      have HT := Lib.hid (tog_eq HNA.out HNB.out HQ.out HZ2.out)
      clear ha HZ2
      go_upto_region 10 with fail
      refine wp_region_et gmT gmT_ok [⟨wr.heap.size, 0, (ptA (pti l i)).toList⟩, ⟨b8, 0, (ptA (nxt l i)).toList⟩, ⟨w.heap.size, 0, (ptA q).toList⟩] (Below w5.heap.size w5) [(7, 0), (8, 1), (3, 2)] [(46, .ret (.bool (decide (q.y < (pti l i).y) == decide (q.y < (nxt l i).y))))] [(46, .bool (decide (q.y < (pti l i).y) == decide (q.y < (nxt l i).y)))] (by kernel_rfl) (Below.refl _ _)
        (obsC (fun u hu => rangeKeep (range_new HA5.out) hu) (obsC (fun u hu => rangeKeep (range_new HD5.out) hu) (obsC (fun u hu => rangeKeep (range_new HQ5.out) hu) obsN))) ⟨rfl, rfl, rfl, trivial⟩ ?_
      conv => whnf
      refine And.intro (under_of fun x y w => eql_bool _ _ _ x y w rfl) ?_
      conv => whnf
      intro f6
      conv => whnf
      refine And.intro (rfl) ?_
      conv => whnf
      intro w6 h6
      have HB6 := Lib.hid (ext_trans HB5.out h6)
      have HA6 := Lib.hid (HA5.out.keep h6)
      have HD6 := Lib.hid (HD5.out.keep h6)
      have HQ6 := Lib.hid (HQ5.out.keep h6)
      clear h6
      obtain ⟨z, hz⟩ : ∃ z, (decide (q.y < (pti l i).y) == decide (q.y < (nxt l i).y)) = z := ⟨_, rfl⟩
      have HZ3 := Lib.hid hz
      rw [hz]
      clear hz
      cases z
      case true =>
        have HV : Hid (insTo l q (i + 1) = s) := by
          show _ = _
          rw [HI.out, ← HT.out, if_neg]
          unfold togB
          rw [HZ3.out]; simp
        go_wp2_with fail
        go_roundw
        case rel => exact ⟨i + 1, by omega, by go_num, by rw [HV.out], HB6, HAF⟩
        case measure => simp [intOf]; omega
      go_upto_region 11 with fail
      refine wp_region_et gmT gmT_ok [⟨wr.heap.size, 0, (ptA (pti l i)).toList⟩, ⟨b8, 0, (ptA (nxt l i)).toList⟩, ⟨w.heap.size, 0, (ptA q).toList⟩] (Below w6.heap.size w6) [(7, 0), (8, 1), (3, 2)] [(50, .ret (.int .i64 (turnP (pti l i) (nxt l i) q)))] [(9, .bool (decide (0 < turnP (pti l i) (nxt l i) q)))] (by kernel_rfl) (Below.refl _ _)
        (obsC (fun u hu => rangeKeep (range_new HA6.out) hu) (obsC (fun u hu => rangeKeep (range_new HD6.out) hu) (obsC (fun u hu => rangeKeep (range_new HQ6.out) hu) obsN))) ⟨rfl, rfl, rfl, trivial⟩ ?_
      conv => whnf
      refine And.intro (Nat.le_of_ble_eq_true rfl) ?_
      conv => whnf
      refine And.intro (Nat.le_of_ble_eq_true rfl) ?_
      conv => whnf
      refine And.intro (Nat.le_of_ble_eq_true rfl) ?_
      conv => whnf
      refine And.intro (under_of fun u hu => ret_in (pCross_any _ _ _ u) hu) ?_
      conv => whnf
      intro f7
      conv => whnf
      refine And.intro (rfl) ?_
      conv => whnf
      intro w7 h7
      have HB7 := Lib.hid (ext_trans HB6.out h7)
      have HA7 := Lib.hid (HA6.out.keep h7)
      have HD7 := Lib.hid (HD6.out.keep h7)
      have HQ7 := Lib.hid (HQ6.out.keep h7)
      clear h7
      go_upto_region 12 with fail
      refine wp_region_et gmT gmT_ok [⟨wr.heap.size, 0, (ptA (pti l i)).toList⟩, ⟨b8, 0, (ptA (nxt l i)).toList⟩] (Below w7.heap.size w7) [(7, 0), (8, 1)] [(58, .ret (.bool (decide (0 < turnP (pti l i) (nxt l i) q) == decide ((pti l i).y < (nxt l i).y))))] [(58, .bool (decide (0 < turnP (pti l i) (nxt l i) q) == decide ((pti l i).y < (nxt l i).y)))] (by kernel_rfl) (Below.refl _ _)
        (obsC (fun u hu => rangeKeep (range_new HA7.out) hu) (obsC (fun u hu => rangeKeep (range_new HD7.out) hu) obsN)) ⟨rfl, rfl, trivial⟩ ?_
      conv => whnf
      refine And.intro (under_of fun x y w => eql_bool _ _ _ x y w rfl) ?_
      conv => whnf
      intro f8
      conv => whnf
      refine And.intro (rfl) ?_
      conv => whnf
      intro w8 h8
      have HB8 := Lib.hid (ext_trans HB7.out h8)
      clear h8
      obtain ⟨z, hz⟩ : ∃ z, (decide (0 < turnP (pti l i) (nxt l i) q) == decide ((pti l i).y < (nxt l i).y)) = z := ⟨_, rfl⟩
      have HZ4 := Lib.hid hz
      rw [hz]
      clear hz
      have HV : Hid (insTo l q (i + 1) = if z = true then !s else s) := by
        show _ = _
        rw [HI.out, ← HT.out]
        unfold togB
        rw [HZ3.out, HZ4.out]
        cases z <;> rfl
      cases z
      · have HV2 : Hid (insTo l q (i + 1) = s) := HV.out
        go_wp2_with fail
        go_roundw
        case rel => exact ⟨i + 1, by omega, by go_num, by rw [HV2.out], HB8, HAF⟩
        case measure => simp [intOf]; omega
      · have HV2 : Hid (insTo l q (i + 1) = !s) := HV.out
        cases s
        · go_wp2_with fail
          go_roundw
          case rel => exact ⟨i + 1, by omega, by go_num, by rw [HV2.out]; rfl, HB8, HAF⟩
          case measure => simp [intOf]; omega
        · go_wp2_with fail
          go_roundw
          case rel => exact ⟨i + 1, by omega, by go_num, by rw [HV2.out]; rfl, HB8, HAF⟩
          case measure => simp [intOf]; omega
    · have i1 : ¬ (i : Int) < l.length := by omega
      have e : i = l.length := by omega
      have HE : Hid (edgB l q = false) := by
        show _ = _
        unfold edgB
        rw [List.any_eq_false]
        intro j hj
        rw [ha.out j (by have := List.mem_range.1 hj; omega)]; decide
      rw [HE.out, if_neg (by decide)] at HC
      subst e
      obtain ⟨s, hs⟩ : ∃ s, insTo l q l.length = s := ⟨_, rfl⟩
      rw [hs] at HC ⊢
      clear hs
      cases s
      · rw [if_neg (by decide)] at HC
        go_wp2_with fail
        go_ret
        exact ⟨ret_int HC.out.symm, HBW.out⟩
      · rw [if_pos rfl] at HC
        go_wp2_with fail
        go_ret
        exact ⟨ret_int HC.out.symm, HBW.out⟩
end Go.Proofs.YtfmhickjefogdaaGreat

/- region's edges, within, apart, contours, place, Check, Area2 (printed by wip/gen_rga.py). -/
namespace Go.Proofs.YtfmhickjefogdaaGreat
open Go.RowKit

theorem cross_sym {l m : List Pnt} (hl : Ctr l) (hm : Ctr m) (h : crossB l m = false) : crossB m l = false := (cross_apart hm hl).2 ((cross_apart hl hm).1 h).sym
theorem hole_all {o h : List Pnt} (co : Ctr o) (ch : Ctr h) (hx : crossB o h = false) (hw : whereL o (pti h 0) = 1) {i : Nat} (hi : i < h.length) : whereL o (pti h i) = 1 := by
  have a := (cross_apart co ch).1 hx
  have h0 := (where_one co (ch.nr ch.len0) (apart_off a ch.len0)).1 hw
  exact (where_one co (ch.nr hi) (apart_off a hi)).2 (by rw [wnd_all a i hi]; exact h0)
theorem Rgn.ctr {o : List Pnt} {hl : List (List Pnt)} (h : Rgn o hl) : ∀ c ∈ o :: hl, Ctr c := (rgn_shp.1 h).c
theorem Rgn.pol {o : List Pnt} {hl : List (List Pnt)} (h : Rgn o hl) : Pol o := ⟨h.ctr o (by simp), by have := h.oa; omega⟩
theorem Rgn.polH {o : List Pnt} {hl : List (List Pnt)} (h : Rgn o hl) {i : Nat} (hi : i < hl.length) : Pol (hl.getD i []) := ⟨h.ctr _ (List.mem_cons_of_mem _ (getD_mem hi)), by have := (h.h i hi).2.1; omega⟩
theorem Rgn.polA {o : List Pnt} {hl : List (List Pnt)} (h : Rgn o hl) {i : Nat} (hi : i < (o :: hl).length) : Pol ((o :: hl).getD i []) := by
  cases i with
  | zero => exact h.pol
  | succ i => exact h.polH (by simpa using hi)
set_option maxRecDepth 100000 in
set_option maxHeartbeats 2000000 in
theorem gEdges_touch (v u : Value) (l m : List Pnt) (w : World) (h : SPt w v l) (h' : SPt w u m) (hn : ∀ i, i < l.length → Nr (pti l i)) (hn' : ∀ i, i < m.length → Nr (pti m i)) (hl : l.length ≤ 100000) (hl' : m.length ≤ 100000) : Calls Tryz.prog 30 #[v, u, .func (.func 27) #[] #[]] w (Ret w (.bool (crossB l m))) := by
  have HN := Lib.hid hn
  have HM := Lib.hid hn'
  obtain ⟨pa, pc, rfl, k1, k2, k3⟩ := h
  obtain ⟨qa, qc, rfl, j1, j2, j3⟩ := h'
  have K3 := Lib.hid k3
  have J3 := Lib.hid j3
  clear k3 j3 hn hn'
  go_enter Tryz.func30, Tryz.ntmps30
  go_wp2_with fail
  go_loopw [13] (fun i wr => ∃ k : Nat, k ≤ l.length ∧ i = .int .i64 k ∧ Hid (Below w.heap.size w wr) ∧ Hid (∀ i n, i < k → n < m.length → meetQ (pti l i) (nxt l i) (pti m n) (nxt m n) = false)) (fun i _ => l.length - (intOf i).toNat)
  case atStart => exact ⟨0, Nat.zero_le _, rfl, Below.refl _ _, fun i n h1 h2 => by omega⟩
  case round =>
    obtain ⟨i, hi, rfl, hb, ha⟩ := hrel
    by_cases hlt : i < l.length
    · have i1 : (i : Int) < l.length := by omega
      have m1 : (i + 1) % l.length < l.length := Nat.mod_lt _ (by omega)
      obtain ⟨pb, po, rfl, hc⟩ := K3.out i hlt
      obtain ⟨pb', po', e', hc'⟩ := K3.out _ m1
      cases e'
      have p0 := (hc.keep hb.out).c0
      have p1 := (hc.keep hb.out).c1
      have HC2 := Lib.hid (hc'.keep hb.out)
      have HNA := Lib.hid (HN.out i hlt)
      have HNB := Lib.hid (HN.out _ m1)
      clear hc hc'
      obtain ⟨W2, HA2, HB2', HW2, _⟩ := copyPt wr (pti l i)
      go_upto_region 4 with fail
      rw [HW2.out]
      obtain ⟨b8, hb8⟩ : ∃ b, wr.heap.size = b := ⟨_, rfl⟩
      rw [hb8] at HA2
      rw [hb8]
      clear hb8
      have HB2 := Lib.hid (ext_trans hb.out HB2'.out)
      have HC22 := Lib.hid (HC2.out.keep HB2'.out)
      clear p0 p1
      go_wp2_with fail
      go_loopw [20] (fun i2 wr2 => ∃ k : Nat, k ≤ m.length ∧ i2 = .int .i64 k ∧ Hid (Below W2.heap.size W2 wr2) ∧ Hid (∀ n, n < k → meetQ (pti l i) (nxt l i) (pti m n) (nxt m n) = false)) (fun i2 _ => m.length - (intOf i2).toNat)
      case atStart => exact ⟨0, Nat.zero_le _, rfl, Below.refl _ _, fun n h => by omega⟩
      case round =>
        obtain ⟨k, hk, rfl, hb2, ha2⟩ := hrel
        have HBW := Lib.hid (ext_trans HB2.out hb2.out)
        by_cases hlt2 : k < m.length
        · have i2 : (k : Int) < m.length := by omega
          have n1 : (k + 1) % m.length < m.length := Nat.mod_lt _ (by omega)
          obtain ⟨qb, qo, rfl, hd⟩ := J3.out k hlt2
          obtain ⟨qb', qo', e', hd'⟩ := J3.out _ n1
          cases e'
          have q0 := (hd.keep HBW.out).c0
          have q1 := (hd.keep HBW.out).c1
          have HD2 := Lib.hid (hd'.keep HBW.out)
          have HNC := Lib.hid (HM.out k hlt2)
          have HND := Lib.hid (HM.out _ n1)
          clear hd hd'
          obtain ⟨W4, HE4, HB4', HW4, _⟩ := copyPt wr (pti m k)
          go_upto_region 7 with fail
          rw [HW4.out]
          obtain ⟨b10, hb10⟩ : ∃ b, wr.heap.size = b := ⟨_, rfl⟩
          rw [hb10] at HE4
          rw [hb10]
          clear hb10
          have HB4 := Lib.hid (ext_trans HBW.out HB4'.out)
          have HD4 := Lib.hid (HD2.out.keep HB4'.out)
          have HC4 := Lib.hid ((HC22.out.keep hb2.out).keep HB4'.out)
          have HA4 := Lib.hid ((HA2.out.keep hb2.out).keep HB4'.out)
          have HBX := Lib.hid (ext_trans hb2.out HB4'.out)
          clear q0 q1

          refine wp_region_ev gmT2 gmT2_ok [⟨b8, 0, (ptA (pti l i)).toList⟩, ⟨pb, po + (i + 1) % l.length * 2, ptCells (nxt l i)⟩, ⟨b10, 0, (ptA (pti m k)).toList⟩, ⟨qb, qo + (k + 1) % m.length * 2, ptCells (nxt m k)⟩] (Below W4.heap.size W4) [(8, 0), (10, 2)] [(33, .ix ((i + 1) % l.length) 1), (42, .ix ((k + 1) % m.length) 3), (44, .ret (.bool (meetQ (pti l i) (nxt l i) (pti m k) (nxt m k))))] [(44, .bool (meetQ (pti l i) (nxt l i) (pti m k) (nxt m k)))] (by kernel_rfl) mixed (by kernel_rfl) ((Below.refl _ _).drew)
            (obsC (fun u hu => rangeKeep (range_new HA4.out) hu) (obsC (fun u hu => rangeKeep (pt_range HC4.out) hu) (obsC (fun u hu => rangeKeep (range_new HE4.out) hu) (obsC (fun u hu => rangeKeep (pt_range HD4.out) hu) obsN)))) ⟨rfl, rfl, trivial⟩ ?_
          conv => whnf
          refine And.intro (Nat.le_of_ble_eq_true rfl) ?_
          conv => whnf
          refine And.intro (under_of (by omega)) ?_
          conv => whnf
          refine And.intro (under_of ⟨modix1 (by omega), m1, rfl, rfl⟩) ?_
          conv => whnf
          refine And.intro (Nat.le_of_ble_eq_true rfl) ?_
          conv => whnf
          refine And.intro (Nat.le_of_ble_eq_true rfl) ?_
          conv => whnf
          refine And.intro (under_of (by omega)) ?_
          conv => whnf
          refine And.intro (under_of ⟨modix1 (by omega), n1, rfl, rfl⟩) ?_
          conv => whnf
          refine And.intro (Nat.le_of_ble_eq_true rfl) ?_
          conv => whnf
          refine And.intro (under_of fun u hu => ret_in (gTouch_any _ _ _ _ u) hu) ?_
          conv => whnf
          intro f5
          conv => whnf
          refine And.intro (rfl) ?_
          conv => whnf
          intro w5 h5
          have HB5 := Lib.hid (ext_trans HBX.out h5)
          have HBE := Lib.hid (ext_trans HB2.out HB5.out)
          clear h5
          obtain ⟨z, hz⟩ : ∃ z, meetQ (pti l i) (nxt l i) (pti m k) (nxt m k) = z := ⟨_, rfl⟩
          have HZ := Lib.hid hz
          rw [hz]
          clear hz
          cases z
          · have HA : Hid (∀ n, n < k + 1 → meetQ (pti l i) (nxt l i) (pti m n) (nxt m n) = false) := fun n h => by
              by_cases e : n = k
              · subst e; exact HZ.out
              · exact ha2.out n (by omega)
            go_wp2_with fail
            go_roundw
            case rel => exact ⟨k + 1, by omega, by go_num, HB5, HA⟩
            case measure => simp [intOf]; omega
          · have HT := Lib.hid (crossB_true hlt hlt2 HZ.out)
            go_wp2_with fail
            go_ret
            exact ⟨ret_bool HT.out.symm, HBE.out⟩
        · have i2 : ¬ (k : Int) < m.length := by omega
          have HA : Hid (∀ i' n, i' < i + 1 → n < m.length → meetQ (pti l i') (nxt l i') (pti m n) (nxt m n) = false) := fun i' n h1 h2 => by
            by_cases e : i' = i
            · subst e; exact ha2.out n (by omega)
            · exact ha.out i' n (by omega) h2
          go_wp2_with fail
          go_roundw
          case rel => exact ⟨i + 1, by omega, by go_num, HBW, HA⟩
          case measure => simp [intOf]; omega
    · have i1 : ¬ (i : Int) < l.length := by omega
      have HT := Lib.hid (crossB_false fun i' n h1 h2 => ha.out i' n (by omega) h2)
      go_wp2_with fail
      go_ret
      exact ⟨ret_bool HT.out.symm, hb.out⟩
set_option maxRecDepth 100000 in
set_option maxHeartbeats 2000000 in
theorem gEdges_close (v u : Value) (l m : List Pnt) (w : World) (h : SPt w v l) (h' : SPt w u m) (hn : ∀ i, i < l.length → Nr (pti l i)) (hn' : ∀ i, i < m.length → Nr (pti m i)) (hl : l.length ≤ 100000) (hl' : m.length ≤ 100000) (gb : Nat) (hf : ∀ (a b c d : Pnt) (u : World), Nr a → Nr b → Nr c → Nr d → Below w.heap.size w u → Calls Tryz.prog 26 #[ptV a, ptV b, ptV c, ptV d, .pointer (some ⟨gb, 0, none⟩)] u (Ret u (.bool (meetQ a b c d)))) : Calls Tryz.prog 30 #[v, u, .func (.func 26) #[] #[.pointer (some ⟨gb, 0, none⟩)]] w (Ret w (.bool (crossB l m))) := by
  have HF := Lib.hid hf
  clear hf
  have HN := Lib.hid hn
  have HM := Lib.hid hn'
  obtain ⟨pa, pc, rfl, k1, k2, k3⟩ := h
  obtain ⟨qa, qc, rfl, j1, j2, j3⟩ := h'
  have K3 := Lib.hid k3
  have J3 := Lib.hid j3
  clear k3 j3 hn hn'
  go_enter Tryz.func30, Tryz.ntmps30
  go_wp2_with fail
  go_loopw [13] (fun i wr => ∃ k : Nat, k ≤ l.length ∧ i = .int .i64 k ∧ Hid (Below w.heap.size w wr) ∧ Hid (∀ i n, i < k → n < m.length → meetQ (pti l i) (nxt l i) (pti m n) (nxt m n) = false)) (fun i _ => l.length - (intOf i).toNat)
  case atStart => exact ⟨0, Nat.zero_le _, rfl, Below.refl _ _, fun i n h1 h2 => by omega⟩
  case round =>
    obtain ⟨i, hi, rfl, hb, ha⟩ := hrel
    by_cases hlt : i < l.length
    · have i1 : (i : Int) < l.length := by omega
      have m1 : (i + 1) % l.length < l.length := Nat.mod_lt _ (by omega)
      obtain ⟨pb, po, rfl, hc⟩ := K3.out i hlt
      obtain ⟨pb', po', e', hc'⟩ := K3.out _ m1
      cases e'
      have p0 := (hc.keep hb.out).c0
      have p1 := (hc.keep hb.out).c1
      have HC2 := Lib.hid (hc'.keep hb.out)
      have HNA := Lib.hid (HN.out i hlt)
      have HNB := Lib.hid (HN.out _ m1)
      clear hc hc'
      obtain ⟨W2, HA2, HB2', HW2, _⟩ := copyPt wr (pti l i)
      go_upto_region 4 with fail
      rw [HW2.out]
      obtain ⟨b8, hb8⟩ : ∃ b, wr.heap.size = b := ⟨_, rfl⟩
      rw [hb8] at HA2
      rw [hb8]
      clear hb8
      have HB2 := Lib.hid (ext_trans hb.out HB2'.out)
      have HC22 := Lib.hid (HC2.out.keep HB2'.out)
      clear p0 p1
      go_wp2_with fail
      go_loopw [20] (fun i2 wr2 => ∃ k : Nat, k ≤ m.length ∧ i2 = .int .i64 k ∧ Hid (Below W2.heap.size W2 wr2) ∧ Hid (∀ n, n < k → meetQ (pti l i) (nxt l i) (pti m n) (nxt m n) = false)) (fun i2 _ => m.length - (intOf i2).toNat)
      case atStart => exact ⟨0, Nat.zero_le _, rfl, Below.refl _ _, fun n h => by omega⟩
      case round =>
        obtain ⟨k, hk, rfl, hb2, ha2⟩ := hrel
        have HBW := Lib.hid (ext_trans HB2.out hb2.out)
        by_cases hlt2 : k < m.length
        · have i2 : (k : Int) < m.length := by omega
          have n1 : (k + 1) % m.length < m.length := Nat.mod_lt _ (by omega)
          obtain ⟨qb, qo, rfl, hd⟩ := J3.out k hlt2
          obtain ⟨qb', qo', e', hd'⟩ := J3.out _ n1
          cases e'
          have q0 := (hd.keep HBW.out).c0
          have q1 := (hd.keep HBW.out).c1
          have HD2 := Lib.hid (hd'.keep HBW.out)
          have HNC := Lib.hid (HM.out k hlt2)
          have HND := Lib.hid (HM.out _ n1)
          clear hd hd'
          obtain ⟨W4, HE4, HB4', HW4, _⟩ := copyPt wr (pti m k)
          go_upto_region 7 with fail
          rw [HW4.out]
          obtain ⟨b10, hb10⟩ : ∃ b, wr.heap.size = b := ⟨_, rfl⟩
          rw [hb10] at HE4
          rw [hb10]
          clear hb10
          have HB4 := Lib.hid (ext_trans HBW.out HB4'.out)
          have HD4 := Lib.hid (HD2.out.keep HB4'.out)
          have HC4 := Lib.hid ((HC22.out.keep hb2.out).keep HB4'.out)
          have HA4 := Lib.hid ((HA2.out.keep hb2.out).keep HB4'.out)
          have HBX := Lib.hid (ext_trans hb2.out HB4'.out)
          clear q0 q1

          refine wp_region_ev gmT2 gmT2_ok [⟨b8, 0, (ptA (pti l i)).toList⟩, ⟨pb, po + (i + 1) % l.length * 2, ptCells (nxt l i)⟩, ⟨b10, 0, (ptA (pti m k)).toList⟩, ⟨qb, qo + (k + 1) % m.length * 2, ptCells (nxt m k)⟩] (Below W4.heap.size W4) [(8, 0), (10, 2)] [(33, .ix ((i + 1) % l.length) 1), (42, .ix ((k + 1) % m.length) 3), (44, .ret (.bool (meetQ (pti l i) (nxt l i) (pti m k) (nxt m k))))] [(44, .bool (meetQ (pti l i) (nxt l i) (pti m k) (nxt m k)))] (by kernel_rfl) mixed (by kernel_rfl) ((Below.refl _ _).drew)
            (obsC (fun u hu => rangeKeep (range_new HA4.out) hu) (obsC (fun u hu => rangeKeep (pt_range HC4.out) hu) (obsC (fun u hu => rangeKeep (range_new HE4.out) hu) (obsC (fun u hu => rangeKeep (pt_range HD4.out) hu) obsN)))) ⟨rfl, rfl, trivial⟩ ?_
          conv => whnf
          refine And.intro (Nat.le_of_ble_eq_true rfl) ?_
          conv => whnf
          refine And.intro (under_of (by omega)) ?_
          conv => whnf
          refine And.intro (under_of ⟨modix1 (by omega), m1, rfl, rfl⟩) ?_
          conv => whnf
          refine And.intro (Nat.le_of_ble_eq_true rfl) ?_
          conv => whnf
          refine And.intro (Nat.le_of_ble_eq_true rfl) ?_
          conv => whnf
          refine And.intro (under_of (by omega)) ?_
          conv => whnf
          refine And.intro (under_of ⟨modix1 (by omega), n1, rfl, rfl⟩) ?_
          conv => whnf
          refine And.intro (Nat.le_of_ble_eq_true rfl) ?_
          conv => whnf
          refine And.intro (under_of fun u hu => ret_in (HF.out _ _ _ _ u HNA.out HNB.out HNC.out HND.out (ext_trans HB4.out hu)) hu) ?_
          conv => whnf
          intro f5
          conv => whnf
          refine And.intro (rfl) ?_
          conv => whnf
          intro w5 h5
          have HB5 := Lib.hid (ext_trans HBX.out h5)
          have HBE := Lib.hid (ext_trans HB2.out HB5.out)
          clear h5
          obtain ⟨z, hz⟩ : ∃ z, meetQ (pti l i) (nxt l i) (pti m k) (nxt m k) = z := ⟨_, rfl⟩
          have HZ := Lib.hid hz
          rw [hz]
          clear hz
          cases z
          · have HA : Hid (∀ n, n < k + 1 → meetQ (pti l i) (nxt l i) (pti m n) (nxt m n) = false) := fun n h => by
              by_cases e : n = k
              · subst e; exact HZ.out
              · exact ha2.out n (by omega)
            go_wp2_with fail
            go_roundw
            case rel => exact ⟨k + 1, by omega, by go_num, HB5, HA⟩
            case measure => simp [intOf]; omega
          · have HT := Lib.hid (crossB_true hlt hlt2 HZ.out)
            go_wp2_with fail
            go_ret
            exact ⟨ret_bool HT.out.symm, HBE.out⟩
        · have i2 : ¬ (k : Int) < m.length := by omega
          have HA : Hid (∀ i' n, i' < i + 1 → n < m.length → meetQ (pti l i') (nxt l i') (pti m n) (nxt m n) = false) := fun i' n h1 h2 => by
            by_cases e : i' = i
            · subst e; exact ha2.out n (by omega)
            · exact ha.out i' n (by omega) h2
          go_wp2_with fail
          go_roundw
          case rel => exact ⟨i + 1, by omega, by go_num, HBW, HA⟩
          case measure => simp [intOf]; omega
    · have i1 : ¬ (i : Int) < l.length := by omega
      have HT := Lib.hid (crossB_false fun i' n h1 h2 => ha.out i' n (by omega) h2)
      go_wp2_with fail
      go_ret
      exact ⟨ret_bool HT.out.symm, hb.out⟩
end Go.Proofs.YtfmhickjefogdaaGreat
