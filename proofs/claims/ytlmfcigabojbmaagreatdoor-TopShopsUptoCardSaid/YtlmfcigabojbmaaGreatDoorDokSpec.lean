/- Docks and berths, in plain Lean: when a plan is right, and when a hull finds a place. -/
import Derived.Test.YtlmfcigabojbmaaGreatDoorBase
import Derived.Test.YtlmfcigabojbmaaGreatDoorIdSpec
set_option linter.unusedSimpArgs false
set_option linter.unusedVariables false
namespace Go.Proofs.YtlmfcigabojbmaaGreatDoor

structure DBay where
  name : List UInt8
  len : Int
  wid : Int
structure Ber where
  hull : List UInt8
  dock : List UInt8
  x : Int
  y : Int
  len : Int
  wid : Int
  a : Int
  b : Int
instance : Inhabited DBay := ⟨⟨[], 0, 0⟩⟩
instance : Inhabited Ber := ⟨⟨[], [], 0, 0, 0, 0, 0, 0⟩⟩
def byi (l : List DBay) (k : Nat) : DBay := l.getD k default
def bri (l : List Ber) (k : Nat) : Ber := l.getD k default
theorem bri_lt {l : List Ber} {k : Nat} (h : k < l.length) : bri l k = l[k] := by simp [bri, h]
theorem bri_mem {l : List Ber} {k : Nat} (h : k < l.length) : bri l k ∈ l := by rw [bri_lt h]; exact List.getElem_mem h
theorem mem_bri {l : List Ber} {z : Ber} (h : z ∈ l) : ∃ k, k < l.length ∧ bri l k = z := by
  obtain ⟨k, hk, rfl⟩ := List.mem_iff_getElem.1 h; exact ⟨k, hk, bri_lt hk⟩
theorem bri_left {l m : List Ber} {k : Nat} (h : k < l.length) : bri (l ++ m) k = bri l k := by simp [bri, List.getElem?_append_left h]
theorem bri_end {l : List Ber} {z : Ber} : bri (l ++ [z]) l.length = z := by simp [bri]

def sideB (n : Int) : Bool := decide (1 ≤ n) && decide (n ≤ 524288)
theorem sideB_iff {n : Int} : sideB n = true ↔ 1 ≤ n ∧ n ≤ 524288 := by simp [sideB]
/-- bay i is right behind those ahead of it -/
def bayOk (bays : List DBay) (i : Nat) : Bool := nameB (byi bays i).name && (sideB (byi bays i).len && sideB (byi bays i).wid) && !(bays.take i).any fun c => c.name == (byi bays i).name
def findD (bays : List DBay) (name : List UInt8) : Option DBay := bays.find? fun b => b.name == name
def cutB (a la b lb : Int) : Bool := decide (a < b + lb) && decide (b < a + la)
/-- they have a time in common -/
def meetT (u v : Ber) : Bool := decide (u.a < v.b) && decide (v.a < u.b)
/-- they have a place in common -/
def meetS (u v : Ber) : Bool := cutB u.x u.len v.x v.len && cutB u.y u.wid v.y v.wid
def overB (u v : Ber) : Bool := u.dock == v.dock && meetT u v && meetS u v
theorem meetT_symm (u v : Ber) : meetT u v = meetT v u := by unfold meetT; rw [Bool.and_comm]
theorem meetS_symm (u v : Ber) : meetS u v = meetS v u := by unfold meetS cutB; rw [Bool.and_comm (decide (u.x < _)), Bool.and_comm (decide (u.y < _))]
theorem overB_symm (u v : Ber) : overB u v = overB v u := by
  unfold overB; rw [meetT_symm u v, meetS_symm u v, Bool.beq_comm]
def rangeB (z : Ber) : Bool := (sideB z.len && sideB z.wid) && (decide (0 ≤ z.a) && decide (z.a < z.b) && decide (z.b ≤ 1048576))
def fitB (d : DBay) (z : Ber) : Bool := decide (0 ≤ z.x) && decide (0 ≤ z.y) && decide (z.x ≤ d.len - z.len) && decide (z.y ≤ d.wid - z.wid)
def stayOk (bays : List DBay) (before : List Ber) (z : Ber) : Bool := idB z.hull && match findD bays z.dock with
  | none => false
  | some d => rangeB z && fitB d z && !before.any (overB z)
def planOk (bays : List DBay) (l : List Ber) : Bool := decide (bays.length ≤ 8) && decide (l.length ≤ 128) && (List.range bays.length).all (bayOk bays) && (List.range l.length).all fun i => stayOk bays (l.take i) (bri l i)
def hullsB (l : List Ber) : Bool := (List.range l.length).all fun i => !(l.take i).any fun u => u.hull == (bri l i).hull
/-- v ends while u is in its dock -/
def wetB (u v : Ber) : Bool := v.dock == u.dock && decide (u.a < v.b) && decide (v.b < u.b)
def dokOk (docks : List DBay) (l : List Ber) : Bool := planOk docks l && hullsB l && !l.any fun u => l.any (wetB u)

theorem dok_plan {docks : List DBay} {l : List Ber} (h : dokOk docks l = true) : planOk docks l = true := by unfold dokOk at h; simp only [Bool.and_eq_true] at h; exact h.1.1
theorem dok_wet {docks : List DBay} {l : List Ber} (h : dokOk docks l = true) {u v : Ber} (hu : u ∈ l) (hv : v ∈ l) : wetB u v = false := by
  unfold dokOk at h
  simp only [Bool.and_eq_true, Bool.not_eq_true', List.any_eq_false] at h
  have := h.2 u hu
  rw [Bool.not_eq_true, List.any_eq_false] at this
  simpa using this v hv
/-- no dock is flooded while a hull stands in it -/
theorem floods_ok {docks : List DBay} {l : List Ber} (h : dokOk docks l = true) {u v : Ber} (hu : u ∈ l) (hv : v ∈ l) (hd : v.dock = u.dock) : ¬ (u.a < v.b ∧ v.b < u.b) := by
  have := dok_wet h hu hv
  rintro ⟨h1, h2⟩
  simp [wetB, hd, h1, h2] at this

theorem hullsB_snoc {l : List Ber} {z : Ber} : hullsB (l ++ [z]) = (hullsB l && !l.any fun u => u.hull == z.hull) := by
  unfold hullsB
  rw [List.length_append, List.length_singleton, List.range_succ, List.all_append]
  congr 1
  · rw [Bool.eq_iff_iff, List.all_eq_true, List.all_eq_true]
    constructor
    · intro h i hi
      have hi' := List.mem_range.1 hi
      have := h i hi
      rw [List.take_append_of_le_length (by omega), bri_left hi'] at this
      exact this
    · intro h i hi
      have hi' := List.mem_range.1 hi
      rw [List.take_append_of_le_length (by omega), bri_left hi']
      exact h i hi
  · simp [bri_end]
theorem planOk_snoc {bays : List DBay} {l : List Ber} {z : Ber} (h : planOk bays l = true) : planOk bays (l ++ [z]) = (decide (l.length + 1 ≤ 128) && stayOk bays l z) := by
  unfold planOk at h ⊢
  simp only [Bool.and_eq_true, decide_eq_true_eq] at h
  obtain ⟨⟨⟨h1, h2⟩, h3⟩, h4⟩ := h
  rw [h3, decide_eq_true h1, List.length_append, List.length_singleton, List.range_succ, List.all_append]
  have e : ((List.range l.length).all fun i => stayOk bays ((l ++ [z]).take i) (bri (l ++ [z]) i)) = true := by
    rw [List.all_eq_true] at h4 ⊢
    intro i hi
    have hi' := List.mem_range.1 hi
    rw [List.take_append_of_le_length (by omega), bri_left hi']
    exact h4 i hi
  rw [e]
  simp [bri_end]
/-- those of a dock that are there together with z leave with it -/
def togB (l : List Ber) (z : Ber) : Bool := l.all fun u => !(u.dock == z.dock && meetT z u) || decide (u.b = z.b)
theorem wet_snoc {l : List Ber} {z : Ber} (hl : ∀ u ∈ l, ∀ v ∈ l, wetB u v = false) (ht : ∀ u ∈ l, u.a < u.b) (hz : z.a < z.b) : ((l ++ [z]).any fun u => (l ++ [z]).any (wetB u)) = !togB l z := by
  rw [Bool.eq_iff_iff, Bool.not_eq_true', List.any_eq_true]
  unfold togB
  rw [List.all_eq_false]
  constructor
  · rintro ⟨u, hu, h⟩
    rw [List.any_eq_true] at h
    obtain ⟨v, hv, hw⟩ := h
    simp only [wetB, Bool.and_eq_true, beq_iff_eq, decide_eq_true_eq] at hw
    obtain ⟨⟨w1, w2⟩, w3⟩ := hw
    simp only [List.mem_append, List.mem_singleton] at hu hv
    rcases hu with hu | rfl
    · rcases hv with hv | rfl
      · have := hl u hu v hv
        simp [wetB, w1, w2, w3] at this
      · refine ⟨u, hu, ?_⟩
        simp only [meetT, w1, beq_self_eq_true, Bool.true_and, Bool.or_eq_true, Bool.not_eq_true', decide_eq_true_eq, not_or, Bool.and_eq_false_iff, decide_eq_false_iff_not, not_and, Decidable.not_not]
        have := ht u hu
        exact ⟨by omega, by omega⟩
    · rcases hv with hv | rfl
      · refine ⟨v, hv, ?_⟩
        simp only [meetT, w1, beq_self_eq_true, Bool.true_and, Bool.or_eq_true, Bool.not_eq_true', decide_eq_true_eq, not_or, Bool.and_eq_false_iff, decide_eq_false_iff_not, not_and, Decidable.not_not]
        have := ht v hv
        exact ⟨by omega, by omega⟩
      · omega
  · rintro ⟨u, hu, h⟩
    simp only [meetT, Bool.or_eq_true, Bool.not_eq_true', decide_eq_true_eq, not_or, Bool.and_eq_false_iff, decide_eq_false_iff_not, not_and, Decidable.not_not, beq_eq_false_iff_ne, ne_eq] at h
    obtain ⟨h1, h2⟩ := h
    obtain ⟨hd, h3⟩ := h1
    by_cases hlt : u.b < z.b
    · refine ⟨z, by simp, ?_⟩
      rw [List.any_eq_true]
      exact ⟨u, by simp [hu], by simp [wetB, hd, h3.1, hlt]⟩
    · refine ⟨u, by simp [hu], ?_⟩
      rw [List.any_eq_true]
      exact ⟨z, by simp, by simp [wetB, hd, h3.2]; omega⟩

/-! the search -/
/-- z at another place -/
def Ber.put (z : Ber) (x y : Int) : Ber := { z with x := x, y := y }
/-- a hull asked for, its dock and its times -/
def mkBer (hull : List UInt8) (d : DBay) (len wid a b : Int) : Ber := ⟨hull, d.name, 0, 0, len, wid, a, b⟩
/-- those that are in the dock beside z -/
def besideL (l : List Ber) (z : Ber) : List Ber := l.filter fun u => u.dock == z.dock && meetT z u
/-- where a place beside some may begin -/
def candX (l : List Ber) : List Int := 0 :: l.map fun u => u.x + u.len
def candY (l : List Ber) : List Int := 0 :: l.map fun u => u.y + u.wid
/-- z has a place in dock d -/
def spotB (d : DBay) (l : List Ber) (z : Ber) (X Y : Int) : Bool := !(besideL l z).any (fun u => meetS (z.put X Y) u) && decide (X + z.len ≤ d.len) && decide (Y + z.wid ≤ d.wid)
/-- the program's place -/
def PlaceP (d : DBay) (l : List Ber) (z : Ber) (X Y : Int) : Prop := togB l z = true ∧ X ∈ candX (besideL l z) ∧ Y ∈ candY (besideL l z) ∧ spotB d l z X Y = true
/-- the times at which a stay may end -/
def endsL (l : List Ber) (t : Int) : List Int := t :: (l.filter fun u => decide (t < u.b)).map (·.b)
def endsD (l : List Ber) (dock : List UInt8) (t : Int) : List Int := t :: (l.filter fun u => u.dock == dock && decide (t < u.b)).map (·.b)

/-- what is known of a right plan -/
structure DokR (docks : List DBay) (l : List Ber) : Prop where
  ok : dokOk docks l = true
  few : l.length ≤ 8
theorem stay_range {bays : List DBay} {bf : List Ber} {z : Ber} (h : stayOk bays bf z = true) : ∃ d, findD bays z.dock = some d ∧ rangeB z = true ∧ fitB d z = true ∧ bf.any (overB z) = false := by
  unfold stayOk at h
  simp only [Bool.and_eq_true] at h
  obtain ⟨_, h⟩ := h
  cases hf : findD bays z.dock with
  | none => rw [hf] at h; cases h
  | some d =>
    rw [hf] at h
    simp only [Bool.and_eq_true, Bool.not_eq_true'] at h
    exact ⟨d, rfl, h.1.1, h.1.2, h.2⟩
theorem plan_stay {docks : List DBay} {l : List Ber} (h : planOk docks l = true) {u : Ber} (hu : u ∈ l) : ∃ d, findD docks u.dock = some d ∧ rangeB u = true ∧ fitB d u = true := by
  obtain ⟨k, hk, rfl⟩ := mem_bri hu
  unfold planOk at h
  simp only [Bool.and_eq_true, List.all_eq_true] at h
  obtain ⟨d, h1, h2, h3, _⟩ := stay_range (h.2 k (List.mem_range.2 hk))
  exact ⟨d, h1, h2, h3⟩
theorem rangeB_iff {z : Ber} : rangeB z = true ↔ (1 ≤ z.len ∧ z.len ≤ 524288) ∧ (1 ≤ z.wid ∧ z.wid ≤ 524288) ∧ 0 ≤ z.a ∧ z.a < z.b ∧ z.b ≤ 1048576 := by
  simp only [rangeB, Bool.and_eq_true, sideB_iff, decide_eq_true_eq]; constructor <;> (rintro ⟨⟨h1, h2⟩, h3⟩; exact ⟨by omega, by omega, by omega⟩) 
theorem fitB_iff {d : DBay} {z : Ber} : fitB d z = true ↔ 0 ≤ z.x ∧ 0 ≤ z.y ∧ z.x ≤ d.len - z.len ∧ z.y ≤ d.wid - z.wid := by
  simp only [fitB, Bool.and_eq_true, decide_eq_true_eq]; constructor <;> (intro h; omega)
theorem put_put (z : Ber) (a b x y : Int) : (z.put a b).put x y = z.put x y := rfl
theorem put_beside (l : List Ber) (z : Ber) (x y : Int) : besideL l (z.put x y) = besideL l z := rfl
theorem put_tog (l : List Ber) (z : Ber) (x y : Int) : togB l (z.put x y) = togB l z := rfl
theorem put_spot (d : DBay) (l : List Ber) (z : Ber) (a b x y : Int) : spotB d l (z.put a b) x y = spotB d l z x y := rfl
theorem spot_iff {d : DBay} {l : List Ber} {z : Ber} {X Y : Int} : spotB d l z X Y = true ↔ (∀ u ∈ besideL l z, meetS (z.put X Y) u = false) ∧ X + z.len ≤ d.len ∧ Y + z.wid ≤ d.wid := by
  simp only [spotB, Bool.and_eq_true, Bool.not_eq_true', List.any_eq_false, decide_eq_true_eq, Bool.not_eq_true, and_assoc]
theorem meetS_iff {u v : Ber} : meetS u v = true ↔ (u.x < v.x + v.len ∧ v.x < u.x + u.len) ∧ u.y < v.y + v.wid ∧ v.y < u.y + u.wid := by
  simp only [meetS, cutB, Bool.and_eq_true, decide_eq_true_eq]
/-- a free place can be moved to the left and down until it stands against something -/
theorem left_down {d : DBay} {l : List Ber} {z : Ber} : ∀ (n : Nat) (X Y : Int), 0 ≤ X → 0 ≤ Y → (X + Y).toNat ≤ n → spotB d l z X Y = true → ∃ X' Y', X' ∈ candX (besideL l z) ∧ Y' ∈ candY (besideL l z) ∧ spotB d l z X' Y' = true := by
  intro n
  induction n with
  | zero =>
    intro X Y hX hY hn hs
    obtain rfl : X = 0 := by omega
    obtain rfl : Y = 0 := by omega
    exact ⟨0, 0, List.mem_cons_self .., List.mem_cons_self .., hs⟩
  | succ n ih =>
    intro X Y hX hY hn hs
    have h0 := spot_iff.1 hs
    by_cases hx : X ∈ candX (besideL l z)
    · by_cases hy : Y ∈ candY (besideL l z)
      · exact ⟨X, Y, hx, hy, hs⟩
      · have hY0 : Y ≠ 0 := fun e => hy (by rw [e]; exact List.mem_cons_self ..)
        cases hq : spotB d l z X (Y - 1) with
        | true => exact ih X (Y - 1) hX (by omega) (by omega) hq
        | false =>
          exfalso
          have hne : ¬ (spotB d l z X (Y - 1) = true) := by rw [hq]; decide
          apply hne
          rw [spot_iff]
          refine ⟨fun u hu => ?_, h0.2.1, by omega⟩
          cases hm : meetS (z.put X (Y - 1)) u with
          | false => rfl
          | true =>
            have h1 := h0.1 u hu
            have h2 := meetS_iff.1 hm
            have h3 : ¬ (meetS (z.put X Y) u = true) := by rw [h1]; decide
            rw [meetS_iff] at h3
            simp only [Ber.put] at h2 h3
            exact absurd (show Y ∈ candY (besideL l z) from List.mem_cons_of_mem _ (List.mem_map.2 ⟨u, hu, by omega⟩)) hy
    · have hX0 : X ≠ 0 := fun e => hx (by rw [e]; exact List.mem_cons_self ..)
      cases hq : spotB d l z (X - 1) Y with
      | true => exact ih (X - 1) Y (by omega) hY (by omega) hq
      | false =>
        exfalso
        have hne : ¬ (spotB d l z (X - 1) Y = true) := by rw [hq]; decide
        apply hne
        rw [spot_iff]
        refine ⟨fun u hu => ?_, by omega, h0.2.2⟩
        cases hm : meetS (z.put (X - 1) Y) u with
        | false => rfl
        | true =>
          have h1 := h0.1 u hu
          have h2 := meetS_iff.1 hm
          have h3 : ¬ (meetS (z.put X Y) u = true) := by rw [h1]; decide
          rw [meetS_iff] at h3
          simp only [Ber.put] at h2 h3
          exact absurd (show X ∈ candX (besideL l z) from List.mem_cons_of_mem _ (List.mem_map.2 ⟨u, hu, by omega⟩)) hx
/-- one hull more -/
theorem dok_snoc {docks : List DBay} {l : List Ber} {z : Ber} (h : DokR docks l) {d : DBay} (hd : findD docks z.dock = some d) (hi : idB z.hull = true) (hn : l.any (fun u => u.hull == z.hull) = false) (hr : rangeB z = true) (h0 : 0 ≤ z.x) (h1 : 0 ≤ z.y) :
    dokOk docks (l ++ [z]) = (togB l z && spotB d l z z.x z.y) := by
  have hp := dok_plan h.ok
  have hw : ∀ u ∈ l, ∀ v ∈ l, wetB u v = false := fun u hu v hv => dok_wet h.ok hu hv
  have hh : hullsB l = true := by have := h.ok; unfold dokOk at this; simp only [Bool.and_eq_true] at this; exact this.1.2
  have ht : ∀ u ∈ l, u.a < u.b := fun u hu => by obtain ⟨_, _, h2, _⟩ := plan_stay hp hu; exact (rangeB_iff.1 h2).2.2.2.1
  have hz := rangeB_iff.1 hr
  unfold dokOk
  rw [planOk_snoc hp, hullsB_snoc, wet_snoc hw ht hz.2.2.2.1, hh, hn, decide_eq_true (by have := h.few; omega)]
  unfold stayOk
  rw [hi, hd]
  simp only [Bool.true_and, Bool.not_false, Bool.and_true, Bool.not_not, hr]
  have e1 : l.any (overB z) = (besideL l z).any fun u => meetS (z.put z.x z.y) u := by
    rw [Bool.eq_iff_iff, List.any_eq_true, List.any_eq_true]
    unfold besideL
    constructor
    · rintro ⟨u, hu, h3⟩
      simp only [overB, Bool.and_eq_true, beq_iff_eq] at h3
      exact ⟨u, by rw [List.mem_filter]; exact ⟨hu, by simp [h3.1.1, h3.1.2]⟩, h3.2⟩
    · rintro ⟨u, hu, h3⟩
      rw [List.mem_filter] at hu
      simp only [Bool.and_eq_true, beq_iff_eq] at hu
      exact ⟨u, hu.1, by simp only [overB, Bool.and_eq_true, beq_iff_eq]; exact ⟨⟨hu.2.1.symm, hu.2.2⟩, h3⟩⟩
  rw [e1]
  unfold spotB fitB
  rw [decide_eq_true h0, decide_eq_true h1]
  have e2 : decide (z.x ≤ d.len - z.len) = decide (z.x + z.len ≤ d.len) := by rw [decide_eq_decide]; omega
  have e3 : decide (z.y ≤ d.wid - z.wid) = decide (z.y + z.wid ≤ d.wid) := by rw [decide_eq_decide]; omega
  rw [e2, e3]
  cases decide (z.x + z.len ≤ d.len) <;> cases decide (z.y + z.wid ≤ d.wid) <;> cases (besideL l z).any (fun u => meetS (z.put z.x z.y) u) <;> cases togB l z <;> rfl

/-- names of bays are different -/
theorem findD_at {docks : List DBay} {l : List Ber} (h : planOk docks l = true) {d : DBay} (hd : d ∈ docks) : findD docks d.name = some d := by
  unfold planOk at h
  simp only [Bool.and_eq_true, List.all_eq_true] at h
  obtain ⟨⟨⟨_, _⟩, h3⟩, _⟩ := h
  obtain ⟨k, hk, hkd⟩ := List.mem_iff_getElem.1 hd
  have h4 := h3 k (List.mem_range.2 hk)
  unfold bayOk at h4
  simp only [Bool.and_eq_true, Bool.not_eq_true', List.any_eq_false] at h4
  have e : byi docks k = d := by simp [byi, hk, hkd]
  rw [e] at h4
  unfold findD
  rw [List.find?_eq_some_iff_append]
  refine ⟨by simp, docks.take k, docks.drop (k + 1), ?_, fun c hc => ?_⟩
  · rw [← hkd, List.getElem_cons_drop, List.take_append_drop]
  · have := h4.2 c hc
    simpa using this
/-- what the search may rely on -/
structure FitR (docks : List DBay) (l : List Ber) (hull : List UInt8) (len wid a hours : Int) : Prop extends DokR docks l where
  id : idB hull = true
  new : l.any (fun u => u.hull == hull) = false
  sl : sideB len = true
  sw : sideB wid = true
  h1 : 1 ≤ hours
  a0 : 0 ≤ a
/-- what the program finds, may be there -/
theorem place_ok {docks : List DBay} {l : List Ber} {hull : List UInt8} {len wid a hours : Int} (H : FitR docks l hull len wid a hours) {s e X Y : Int} {d : DBay} (hs : a ≤ s) (hd : d ∈ docks) (he : s < e) (hm : e ≤ 1048576) (hX : 0 ≤ X) (hY : 0 ≤ Y) (ht : togB l (mkBer hull d len wid s e) = true) (hp : spotB d l (mkBer hull d len wid s e) X Y = true) :
    dokOk docks (l ++ [(mkBer hull d len wid s e).put X Y]) = true := by
  have hsl := sideB_iff.1 H.sl; have hsw := sideB_iff.1 H.sw; have h0 := H.a0
  rw [dok_snoc H.toDokR (d := d) (z := (mkBer hull d len wid s e).put X Y) (findD_at (dok_plan H.ok) hd) H.id H.new (rangeB_iff.2 ⟨hsl, hsw, by show 0 ≤ s; omega, he, hm⟩) hX hY, put_tog, ht, put_spot]
  exact hp
theorem cand_nonneg {docks : List DBay} {l : List Ber} (h : planOk docks l = true) {z : Ber} {X Y : Int} (hX : X ∈ candX (besideL l z)) (hY : Y ∈ candY (besideL l z)) : 0 ≤ X ∧ 0 ≤ Y := by
  constructor
  · rcases List.mem_cons.1 hX with rfl | hX
    · exact Int.le_refl _
    · obtain ⟨u, hu, rfl⟩ := List.mem_map.1 hX
      obtain ⟨_, _, h2, h3⟩ := plan_stay h (List.mem_filter.1 hu).1
      have := rangeB_iff.1 h2; have := fitB_iff.1 h3; omega
  · rcases List.mem_cons.1 hY with rfl | hY
    · exact Int.le_refl _
    · obtain ⟨u, hu, rfl⟩ := List.mem_map.1 hY
      obtain ⟨_, _, h2, h3⟩ := plan_stay h (List.mem_filter.1 hu).1
      have := rangeB_iff.1 h2; have := fitB_iff.1 h3; omega
def candXR (l : List Ber) (dock : List UInt8) : List Int := candX (l.filter fun u => u.dock == dock)
def candYR (l : List Ber) (dock : List UInt8) : List Int := candY (l.filter fun u => u.dock == dock)
/-- the program's search and the reference's find together, or not at all: one start and dock -/
theorem search_iff {docks : List DBay} {l : List Ber} {hull : List UInt8} {len wid a hours : Int} (H : FitR docks l hull len wid a hours) {s : Int} {d : DBay} (hs : a ≤ s) (hd : d ∈ docks) :
    (∃ e ∈ endsL l (s + hours), e ≤ 1048576 ∧ ∃ X Y, PlaceP d l (mkBer hull d len wid s e) X Y) ↔ (∃ e ∈ endsD l d.name (s + hours), ∃ X ∈ candXR l d.name, ∃ Y ∈ candYR l d.name, dokOk docks (l ++ [(mkBer hull d len wid s e).put X Y]) = true) := by
  have hp := dok_plan H.ok
  have hsl := sideB_iff.1 H.sl; have hsw := sideB_iff.1 H.sw; have h0 := H.a0; have hh := H.h1
  constructor
  · rintro ⟨e, he, hm, X, Y, h1, h2, h3, h4⟩
    obtain ⟨hX, hY⟩ := cand_nonneg hp h2 h3
    have hse : s < e := by
      rcases List.mem_cons.1 he with rfl | he
      · omega
      · obtain ⟨u, hu, rfl⟩ := List.mem_map.1 he
        have := (List.mem_filter.1 hu).2
        simp only [decide_eq_true_eq] at this
        omega
    by_cases hin : e ∈ endsD l d.name (s + hours)
    · refine ⟨e, hin, X, ?_, Y, ?_, place_ok H hs hd hse hm hX hY h1 h4⟩
      · rcases List.mem_cons.1 h2 with rfl | h2
        · exact List.mem_cons_self ..
        · obtain ⟨u, hu, rfl⟩ := List.mem_map.1 h2
          have hu' := List.mem_filter.1 hu
          simp only [Bool.and_eq_true] at hu'
          exact List.mem_cons_of_mem _ (List.mem_map.2 ⟨u, List.mem_filter.2 ⟨hu'.1, hu'.2.1⟩, rfl⟩)
      · rcases List.mem_cons.1 h3 with rfl | h3
        · exact List.mem_cons_self ..
        · obtain ⟨u, hu, rfl⟩ := List.mem_map.1 h3
          have hu' := List.mem_filter.1 hu
          simp only [Bool.and_eq_true] at hu'
          exact List.mem_cons_of_mem _ (List.mem_map.2 ⟨u, List.mem_filter.2 ⟨hu'.1, hu'.2.1⟩, rfl⟩)
    · have hlt : s + hours < e := by
        rcases List.mem_cons.1 he with rfl | he
        · exact absurd (List.mem_cons_self ..) hin
        · obtain ⟨u, hu, rfl⟩ := List.mem_map.1 he
          have := (List.mem_filter.1 hu).2
          simpa using this
      -- nothing is beside it
      have hbe : ∀ u ∈ l, u.dock = d.name → meetT (mkBer hull d len wid s e) u = true → False := fun u hu hdk hmt => by
        have h5 := List.all_eq_true.1 h1 u hu
        have h6 : u.b = e := by
          have h7 : (u.dock == (mkBer hull d len wid s e).dock && meetT (mkBer hull d len wid s e) u) = true := by rw [hmt, Bool.and_true, beq_iff_eq]; exact hdk
          rw [h7] at h5
          have h8 : decide (u.b = (mkBer hull d len wid s e).b) = true := by simpa using h5
          exact of_decide_eq_true h8
        exact hin (List.mem_cons_of_mem _ (List.mem_map.2 ⟨u, List.mem_filter.2 ⟨hu, by simp [hdk]; omega⟩, h6⟩))
      have hbe0 : ∀ u ∈ l, u.dock = d.name → meetT (mkBer hull d len wid s (s + hours)) u = true → False := fun u hu hdk hmt => hbe u hu hdk (by
        rw [meetT, Bool.and_eq_true, decide_eq_true_eq, decide_eq_true_eq] at hmt ⊢
        exact ⟨hmt.1, Int.lt_trans hmt.2 hlt⟩)
      have ht0 : togB l (mkBer hull d len wid s (s + hours)) = true := by
        unfold togB
        rw [List.all_eq_true]
        intro u hu
        cases hq : (u.dock == (mkBer hull d len wid s (s + hours)).dock && meetT (mkBer hull d len wid s (s + hours)) u) with
        | false => rfl
        | true =>
          simp only [Bool.and_eq_true, beq_iff_eq] at hq
          exact absurd hq.2 (fun h => hbe0 u hu hq.1 h)
      have hs0 : spotB d l (mkBer hull d len wid s (s + hours)) 0 0 = true := by
        have h5 := spot_iff.1 h4
        rw [spot_iff]
        refine ⟨fun u hu => ?_, ?_, ?_⟩
        · have hu' := List.mem_filter.1 hu
          simp only [Bool.and_eq_true, beq_iff_eq] at hu'
          exact absurd hu'.2.2 (fun h => hbe0 u hu'.1 hu'.2.1 h)
        · have := h5.2.1; simp only [mkBer] at this ⊢; omega
        · have := h5.2.2; simp only [mkBer] at this ⊢; omega
      exact ⟨s + hours, List.mem_cons_self .., 0, List.mem_cons_self .., 0, List.mem_cons_self .., place_ok H hs hd (by omega) (by omega) (Int.le_refl _) (Int.le_refl _) ht0 hs0⟩
  · rintro ⟨e, he, X, _, Y, _, hk⟩
    have hpl := dok_plan hk
    obtain ⟨d', hd', hr, hf⟩ := plan_stay hpl (u := (mkBer hull d len wid s e).put X Y) (by simp)
    have hr' := rangeB_iff.1 hr
    have hf' := fitB_iff.1 hf
    simp only [Ber.put, mkBer] at hr' hf'
    rw [dok_snoc H.toDokR (d := d) (z := (mkBer hull d len wid s e).put X Y) (findD_at hp hd) H.id H.new hr hf'.1 hf'.2.1, put_tog, put_spot, Bool.and_eq_true] at hk
    obtain ⟨X', Y', h1, h2, h3⟩ := left_down _ X Y hf'.1 hf'.2.1 (Nat.le_refl _) hk.2
    refine ⟨e, ?_, hr'.2.2.2.2, X', Y', hk.1, h1, h2, h3⟩
    rcases List.mem_cons.1 he with rfl | he
    · exact List.mem_cons_self ..
    · obtain ⟨u, hu, rfl⟩ := List.mem_map.1 he
      have hu' := List.mem_filter.1 hu
      simp only [Bool.and_eq_true] at hu'
      exact List.mem_cons_of_mem _ (List.mem_map.2 ⟨u, List.mem_filter.2 ⟨hu'.1, hu'.2.2⟩, rfl⟩)
end Go.Proofs.YtlmfcigabojbmaaGreatDoor
