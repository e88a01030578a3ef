/- Contract: at of dock's reference. -/
import Derived.Test.YtgmecjmepbaolaaDoorDokAq
import Derived.BigRegion
set_option linter.unusedSimpArgs false
set_option linter.unusedVariables false
namespace Go.Proofs.YtgmecjmepbaolaaDoor
open Go.RowKit

def xsR (l : List Ber) (dock : List UInt8) : List Int := l.foldl (fun acc u => if (u.dock == dock) = true then withL acc (u.x + u.len) else acc) [0]
def ysR (l : List Ber) (dock : List UInt8) : List Int := l.foldl (fun acc u => if (u.dock == dock) = true then withL acc (u.y + u.wid) else acc) [0]
theorem fold_mem (f : Ber → Int) (dock : List UInt8) (t : Int) : ∀ (l : List Ber) (acc : List Int), t ∈ l.foldl (fun acc u => if (u.dock == dock) = true then withL acc (f u) else acc) acc ↔ t ∈ acc ∨ ∃ u ∈ l.filter (fun u => u.dock == dock), f u = t
  | [], acc => by simp
  | u :: l, acc => by
    rw [List.foldl_cons, fold_mem f dock t l]
    by_cases h : (u.dock == dock) = true
    · rw [if_pos h, withL_mem, List.filter_cons, if_pos h]
      constructor
      · rintro ((h1 | h1) | ⟨v, hv, h2⟩)
        · exact .inl h1
        · exact .inr ⟨u, List.mem_cons_self .., h1.symm⟩
        · exact .inr ⟨v, List.mem_cons_of_mem _ hv, h2⟩
      · rintro (h1 | ⟨v, hv, h2⟩)
        · exact .inl (.inl h1)
        · rcases List.mem_cons.1 hv with rfl | hv
          · exact .inl (.inr h2.symm)
          · exact .inr ⟨v, hv, h2⟩
    · rw [if_neg h, List.filter_cons, if_neg h]
theorem fold_len (f : Ber → Int) (dock : List UInt8) : ∀ (l : List Ber) (acc : List Int), (l.foldl (fun acc u => if (u.dock == dock) = true then withL acc (f u) else acc) acc).length ≤ acc.length + l.length
  | [], acc => by simp
  | u :: l, acc => by
    rw [List.foldl_cons]
    refine Nat.le_trans (fold_len f dock l _) ?_
    by_cases h : (u.dock == dock) = true
    · rw [if_pos h]; have := withL_len acc (f u); simp; omega
    · rw [if_neg h, List.length_cons]; omega
theorem xsR_mem {l : List Ber} {dock : List UInt8} {t : Int} : t ∈ xsR l dock ↔ t ∈ candXR l dock := by
  unfold xsR candXR candX
  rw [fold_mem, List.mem_singleton, List.mem_cons, List.mem_map]
theorem ysR_mem {l : List Ber} {dock : List UInt8} {t : Int} : t ∈ ysR l dock ↔ t ∈ candYR l dock := by
  unfold ysR candYR candY
  rw [fold_mem, List.mem_singleton, List.mem_cons, List.mem_map]
theorem xsR_len (l : List Ber) (dock : List UInt8) : (xsR l dock).length ≤ l.length + 1 := by have := fold_len (fun u => u.x + u.len) dock l [0]; unfold xsR; rw [List.length_singleton] at this; omega
theorem ysR_len (l : List Ber) (dock : List UInt8) : (ysR l dock).length ≤ l.length + 1 := by have := fold_len (fun u => u.y + u.wid) dock l [0]; unfold ysR; rw [List.length_singleton] at this; omega
theorem xsR_snoc (l : List Ber) (u : Ber) (dock : List UInt8) : xsR (l ++ [u]) dock = if (u.dock == dock) = true then withL (xsR l dock) (u.x + u.len) else xsR l dock := by
  unfold xsR; rw [List.foldl_append]; rfl
theorem ysR_snoc (l : List Ber) (u : Ber) (dock : List UInt8) : ysR (l ++ [u]) dock = if (u.dock == dock) = true then withL (ysR l dock) (u.y + u.wid) else ysR l dock := by
  unfold ysR; rw [List.foldl_append]; rfl
/-- the first place at which the list with x is right -/
def okR (docks : List DBay) (l : List Ber) (x : Ber) (X Y : Int) : Bool := dokE docks (l ++ [x.put X Y]) == 0
def rowHit (docks : List DBay) (l : List Ber) (x : Ber) (xs : List Int) (Y : Int) : Option Int := xs.find? fun X => okR docks l x X Y
def hitR (docks : List DBay) (l : List Ber) (x : Ber) (xs ys : List Int) : Option (Int × Int) := ys.findSome? fun Y => (rowHit docks l x xs Y).map fun X => (X, Y)
def atB (docks : List DBay) (l : List Ber) (x : Ber) : Ber := match hitR docks l x (xsR l x.dock) (ysR l x.dock) with
  | some (X, Y) => x.put X Y
  | none => default
def atF (docks : List DBay) (l : List Ber) (x : Ber) : Bool := (hitR docks l x (xsR l x.dock) (ysR l x.dock)).isSome
def atV (docks : List DBay) (l : List Ber) (x : Ber) : Value := .tuple #[.agg (syCs (atB docks l x)), .bool (atF docks l x)]
theorem row_miss {docks : List DBay} {l : List Ber} {x : Ber} {xs : List Int} {Y : Int} (h : ∀ j, j < xs.length → okR docks l x (gi xs j) Y = false) : rowHit docks l x xs Y = none := by
  unfold rowHit
  rw [List.find?_eq_none]
  intro X hX
  obtain ⟨j, hj, rfl⟩ := mem_gi hX
  rw [h j hj]; decide
theorem row_hit {docks : List DBay} {l : List Ber} {x : Ber} {xs : List Int} {Y : Int} {k : Nat} (hk : k < xs.length) (h : ∀ j, j < k → okR docks l x (gi xs j) Y = false) (ho : okR docks l x (gi xs k) Y = true) : rowHit docks l x xs Y = some (gi xs k) := by
  unfold rowHit
  rw [List.find?_eq_some_iff_getElem]
  have e : ∀ j (hj : j < xs.length), gi xs j = xs[j] := fun j hj => by simp [gi, hj]
  refine ⟨ho, k, hk, (e k hk).symm, fun j hj => ?_⟩
  have := h j hj
  rw [e j (by omega)] at this
  simp [this]
theorem hit_miss {docks : List DBay} {l : List Ber} {x : Ber} {xs ys : List Int} (h : ∀ j, j < ys.length → rowHit docks l x xs (gi ys j) = none) : hitR docks l x xs ys = none := by
  unfold hitR
  rw [List.findSome?_eq_none_iff]
  intro Y hY
  obtain ⟨j, hj, rfl⟩ := mem_gi hY
  rw [h j hj]; rfl
theorem hit_hit {docks : List DBay} {l : List Ber} {x : Ber} {xs : List Int} {X : Int} : ∀ {ys : List Int} {k : Nat}, k < ys.length → (∀ j, j < k → rowHit docks l x xs (gi ys j) = none) → rowHit docks l x xs (gi ys k) = some X → hitR docks l x xs ys = some (X, gi ys k)
  | [], k, hk, _, _ => by simp at hk
  | y :: ys, 0, _, _, h => by
    unfold hitR
    have e : gi (y :: ys) 0 = y := rfl
    rw [e] at h ⊢
    rw [List.findSome?_cons, h]; rfl
  | y :: ys, k + 1, hk, h, h2 => by
    have e : gi (y :: ys) 0 = y := rfl
    have h0 := h 0 (by omega)
    rw [e] at h0
    have := hit_hit (ys := ys) (k := k) (by simpa using hk) (fun j hj => h (j + 1) (by omega)) h2
    unfold hitR at this ⊢
    rw [List.findSome?_cons, h0]
    exact this
/-- the place that is found is one of those tried, and right; where none is found, none is right -/
theorem at_found {docks : List DBay} {l : List Ber} {x : Ber} : atF docks l x = true ↔ ∃ X ∈ candXR l x.dock, ∃ Y ∈ candYR l x.dock, dokE docks (l ++ [x.put X Y]) = 0 := by
  unfold atF
  rw [Option.isSome_iff_exists]
  constructor
  · rintro ⟨⟨X, Y⟩, h⟩
    unfold hitR at h
    obtain ⟨Y', hY, h2⟩ := List.exists_of_findSome?_eq_some h
    rw [Option.map_eq_some_iff] at h2
    obtain ⟨X', h3, h4⟩ := h2
    cases h4
    have hm := List.mem_of_find?_eq_some h3
    have hp := List.find?_some h3
    exact ⟨X, xsR_mem.1 hm, Y, ysR_mem.1 hY, by simpa [okR] using hp⟩
  · rintro ⟨X, hX, Y, hY, h⟩
    cases hq : hitR docks l x (xsR l x.dock) (ysR l x.dock) with
    | some p => exact ⟨p, rfl⟩
    | none =>
      unfold hitR at hq
      rw [List.findSome?_eq_none_iff] at hq
      have h1 := hq Y (ysR_mem.2 hY)
      rw [Option.map_eq_none_iff] at h1
      unfold rowHit at h1
      rw [List.find?_eq_none] at h1
      exact absurd (show okR docks l x X Y = true by simp [okR, h]) (h1 X (xsR_mem.2 hX))
end Go.Proofs.YtgmecjmepbaolaaDoor
