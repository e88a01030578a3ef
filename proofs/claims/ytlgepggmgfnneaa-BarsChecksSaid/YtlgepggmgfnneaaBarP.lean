/- The pieces of a cutting plan, in plain Lean. -/
import Derived.Test.YtlgepggmgfnneaaBarA
import Derived.Test.YtlgepggmgfnneaaBarSpec
namespace Go.Proofs.Ytlgepggmgfnneaa

structure SawD where
  bar : ByteArray
  kerf : Int
  parts : List ByteArray
structure BarI where
  id : ByteArray
  sec : ByteArray
  grade : ByteArray
  len : Int
  heat : Value

def idxOf (ps : List PartD) (id : ByteArray) : Int := findPt (fun p => p.id.toList == id.toList) ps
def partOf (ps : List PartD) (id : ByteArray) : PartD := pi ps (idxOf ps id).toNat
def dupB (ids : List ByteArray) (k : Nat) : Bool := (ids.take k).any fun y => (si ids k).toList == y.toList
/-- the error of the k-th piece -/
def pieceE (b : BarI) (ps : List PartD) (ids : List ByteArray) (k : Nat) : Int :=
  if idxOf ps (si ids k) < 0 then 8 else if dupB ids k = true then 7 else
  if (partOf ps (si ids k)).kind ≠ 2 ∧ (partOf ps (si ids k)).kind ≠ 3 then 10 else
  if ((partOf ps (si ids k)).sec.toList == b.sec.toList) = false ∨ ((partOf ps (si ids k)).grade.toList == b.grade.toList) = false then 23 else
  if sideB (partOf ps (si ids k)).len = false then 9 else 0
/-- the first of n errors -/
def firstE (f : Nat → Int) : Nat → Int
  | 0 => 0
  | k + 1 => if firstE f k ≠ 0 then firstE f k else f k
theorem firstE_none {f : Nat → Int} {n : Nat} (h : ∀ j, j < n → f j = 0) : firstE f n = 0 := by
  induction n with
  | zero => rfl
  | succ n ih => rw [firstE, ih (fun j hj => h j (by omega)), if_neg (by simp)]; exact h n (by omega)
theorem firstE_hit {f : Nat → Int} {k : Nat} (h : ∀ j, j < k → f j = 0) {e : Int} (hk : f k = e) (he : e ≠ 0) {n : Nat} (hn : k < n) : firstE f n = e := by
  induction n with
  | zero => omega
  | succ n ih =>
    rw [firstE]
    by_cases h2 : k = n
    · subst h2
      rw [firstE_none h, if_neg (by simp)]; exact hk
    · rw [ih (by omega), if_pos he]
theorem firstE_zero {f : Nat → Int} {n : Nat} (h : firstE f n = 0) : ∀ j, j < n → f j = 0 := by
  induction n with
  | zero => intro j hj; omega
  | succ n ih =>
    rw [firstE] at h
    by_cases h2 : firstE f n = 0
    · rw [if_neg (by simp [h2])] at h
      intro j hj
      by_cases e : j = n
      · subst e; exact h
      · exact ih h2 j (by omega)
    · rw [if_pos h2] at h; exact absurd h h2
def piecesE (s : SawD) (b : BarI) (ps : List PartD) : Int :=
  if (s.bar.toList == b.id.toList) = false then 8 else if sawnB s.kerf = false then 9 else if s.parts.length = 0 then 3 else if 24 < s.parts.length then 4 else firstE (pieceE b ps s.parts) s.parts.length
def lensOf (ps : List PartD) (ids : List ByteArray) : List Int := ids.map fun id => (partOf ps id).len
def piecesL (s : SawD) (b : BarI) (ps : List PartD) : List Int := if piecesE s b ps = 0 then lensOf ps s.parts else []

theorem pieceE_none {b : BarI} {ps : List PartD} {ids : List ByteArray} {k : Nat} (h : idxOf ps (si ids k) < 0) : pieceE b ps ids k = 8 := by rw [pieceE, if_pos h]
theorem pieceE_dup {b : BarI} {ps : List PartD} {ids : List ByteArray} {k : Nat} (h : ¬ idxOf ps (si ids k) < 0) (h1 : dupB ids k = true) : pieceE b ps ids k = 7 := by rw [pieceE, if_neg h, if_pos h1]
theorem pieceE_kind {b : BarI} {ps : List PartD} {ids : List ByteArray} {k : Nat} (h : ¬ idxOf ps (si ids k) < 0) (h1 : dupB ids k = false) (h2 : (partOf ps (si ids k)).kind ≠ 2 ∧ (partOf ps (si ids k)).kind ≠ 3) : pieceE b ps ids k = 10 := by
  rw [pieceE, if_neg h, if_neg (by rw [h1]; simp), if_pos h2]
theorem pieceE_mat {b : BarI} {ps : List PartD} {ids : List ByteArray} {k : Nat} (h : ¬ idxOf ps (si ids k) < 0) (h1 : dupB ids k = false) (h2 : ¬ ((partOf ps (si ids k)).kind ≠ 2 ∧ (partOf ps (si ids k)).kind ≠ 3))
    (h3 : ((partOf ps (si ids k)).sec.toList == b.sec.toList) = false ∨ ((partOf ps (si ids k)).grade.toList == b.grade.toList) = false) : pieceE b ps ids k = 23 := by
  rw [pieceE, if_neg h, if_neg (by rw [h1]; simp), if_neg h2, if_pos h3]
theorem pieceE_len {b : BarI} {ps : List PartD} {ids : List ByteArray} {k : Nat} (h : ¬ idxOf ps (si ids k) < 0) (h1 : dupB ids k = false) (h2 : ¬ ((partOf ps (si ids k)).kind ≠ 2 ∧ (partOf ps (si ids k)).kind ≠ 3))
    (h3 : ¬ (((partOf ps (si ids k)).sec.toList == b.sec.toList) = false ∨ ((partOf ps (si ids k)).grade.toList == b.grade.toList) = false)) : pieceE b ps ids k = if sideB (partOf ps (si ids k)).len = false then 9 else 0 := by
  rw [pieceE, if_neg h, if_neg (by rw [h1]; simp), if_neg h2, if_neg h3]
theorem take_succ_si {ss : List ByteArray} {k : Nat} (h : k < ss.length) : ss.take (k + 1) = ss.take k ++ [si ss k] := by
  rw [List.take_succ_eq_append_getElem h, si_lt h]
theorem lensOf_succ {ps : List PartD} {ids : List ByteArray} {k : Nat} (h : k < ids.length) : lensOf ps (ids.take (k + 1)) = lensOf ps (ids.take k) ++ [(partOf ps (si ids k)).len] := by
  rw [take_succ_si h]; simp [lensOf]

theorem piecesE_bar {s : SawD} {b : BarI} {ps : List PartD} (h : (s.bar.toList == b.id.toList) = false) : piecesE s b ps = 8 := by rw [piecesE, if_pos h]
theorem piecesE_kerf {s : SawD} {b : BarI} {ps : List PartD} (h : (s.bar.toList == b.id.toList) = true) (h1 : sawnB s.kerf = false) : piecesE s b ps = 9 := by rw [piecesE, if_neg (by rw [h]; simp), if_pos h1]
theorem piecesE_short {s : SawD} {b : BarI} {ps : List PartD} (h : (s.bar.toList == b.id.toList) = true) (h1 : sawnB s.kerf = true) (h2 : s.parts.length = 0) : piecesE s b ps = 3 := by
  rw [piecesE, if_neg (by rw [h]; simp), if_neg (by rw [h1]; simp), if_pos h2]
theorem piecesE_long {s : SawD} {b : BarI} {ps : List PartD} (h : (s.bar.toList == b.id.toList) = true) (h1 : sawnB s.kerf = true) (h2 : ¬ s.parts.length = 0) (h3 : 24 < s.parts.length) : piecesE s b ps = 4 := by
  rw [piecesE, if_neg (by rw [h]; simp), if_neg (by rw [h1]; simp), if_neg h2, if_pos h3]
theorem piecesE_rest {s : SawD} {b : BarI} {ps : List PartD} (h : (s.bar.toList == b.id.toList) = true) (h1 : sawnB s.kerf = true) (h2 : ¬ s.parts.length = 0) (h3 : ¬ 24 < s.parts.length) : piecesE s b ps = firstE (pieceE b ps s.parts) s.parts.length := by
  rw [piecesE, if_neg (by rw [h]; simp), if_neg (by rw [h1]; simp), if_neg h2, if_neg h3]
theorem piecesL_bad {s : SawD} {b : BarI} {ps : List PartD} (h : piecesE s b ps ≠ 0) : piecesL s b ps = [] := if_neg h
theorem piecesL_ok {s : SawD} {b : BarI} {ps : List PartD} (h : piecesE s b ps = 0) : piecesL s b ps = lensOf ps s.parts := if_pos h
theorem pieceE_zero {b : BarI} {ps : List PartD} {ids : List ByteArray} {k : Nat} (h : pieceE b ps ids k = 0) : 0 ≤ idxOf ps (si ids k) ∧ sideB (partOf ps (si ids k)).len = true := by
  unfold pieceE at h
  by_cases h1 : idxOf ps (si ids k) < 0
  · rw [if_pos h1] at h; omega
  rw [if_neg h1] at h
  by_cases h2 : dupB ids k = true
  · rw [if_pos h2] at h; omega
  rw [if_neg h2] at h
  by_cases h3 : (partOf ps (si ids k)).kind ≠ 2 ∧ (partOf ps (si ids k)).kind ≠ 3
  · rw [if_pos h3] at h; omega
  rw [if_neg h3] at h
  by_cases h4 : ((partOf ps (si ids k)).sec.toList == b.sec.toList) = false ∨ ((partOf ps (si ids k)).grade.toList == b.grade.toList) = false
  · rw [if_pos h4] at h; omega
  rw [if_neg h4] at h
  by_cases h5 : sideB (partOf ps (si ids k)).len = false
  · rw [if_pos h5] at h; omega
  exact ⟨by omega, by simpa using h5⟩
/-- what an errorless plan has -/
theorem piecesE_zero {s : SawD} {b : BarI} {ps : List PartD} (h : piecesE s b ps = 0) : sawnB s.kerf = true ∧ 0 < s.parts.length ∧ s.parts.length ≤ 24 ∧ allB (lensOf ps s.parts) = true ∧ ∀ j, j < s.parts.length → pieceE b ps s.parts j = 0 := by
  unfold piecesE at h
  by_cases h1 : (s.bar.toList == b.id.toList) = false
  · rw [if_pos h1] at h; omega
  rw [if_neg h1] at h
  by_cases h2 : sawnB s.kerf = false
  · rw [if_pos h2] at h; omega
  rw [if_neg h2] at h
  by_cases h3 : s.parts.length = 0
  · rw [if_pos h3] at h; omega
  rw [if_neg h3] at h
  by_cases h4 : 24 < s.parts.length
  · rw [if_pos h4] at h; omega
  rw [if_neg h4] at h
  refine ⟨by simpa using h2, by omega, by omega, allB_iff.2 fun x hx => ?_, firstE_zero h⟩
  simp only [lensOf, List.mem_map] at hx
  obtain ⟨id, hid, rfl⟩ := hx
  obtain ⟨k, hk, rfl⟩ := mem_si hid
  exact sideB_iff.1 (pieceE_zero (firstE_zero h k hk)).2
end Go.Proofs.Ytlgepggmgfnneaa
