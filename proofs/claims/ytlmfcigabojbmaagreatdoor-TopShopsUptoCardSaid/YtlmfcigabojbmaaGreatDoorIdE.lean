/- Contracts: IsId, Split, Join of ident. -/
import Derived.Test.YtlmfcigabojbmaaGreatDoorIdD
import Derived.Test.YtlmfcigabojbmaaGreatDoorIdSeal
set_option linter.unusedSimpArgs false
set_option linter.unusedVariables false
namespace Go.Proofs.YtlmfcigabojbmaaGreatDoor
open Go.RowKit

theorem cutL_le (l : List UInt8) : ∀ x ∈ cutL l, x.length ≤ l.length := by
  induction l with
  | nil => intro x hx; simp [cutL] at hx; subst hx; simp
  | cons c r ih =>
    intro x hx
    by_cases h : c = 46
    · subst h
      rw [cutL_dot, List.mem_cons] at hx
      rcases hx with rfl | hx
      · simp
      · have := ih x hx; simp; omega
    · obtain ⟨y, ys, e1, e2⟩ := cutL_other (r := r) h
      rw [e2, List.mem_cons] at hx
      rcases hx with rfl | hx
      · have := ih y (by rw [e1]; simp)
        simp; omega
      · have := ih x (by rw [e1]; simp [hx])
        simp; omega
theorem pieces_le {l : List UInt8} {ss : List ByteArray} (h : bl ss = cutL l) : ∀ x ∈ ss, x.size ≤ l.length := by
  intro x hx
  have := cutL_le l x.data.toList (by rw [← h]; exact List.mem_map_of_mem hx)
  rwa [size_data] at this
theorem idB_long {s : ByteArray} (h : 64 < s.size) : idB s.data.toList = false := by
  cases hb : idB s.data.toList
  · rfl
  · have := (idB_pos hb).2; rw [size_data] at this; omega

set_option maxHeartbeats 1000000 in
theorem IsId_any (s : ByteArray) (w : World) (hs : s.size ≤ maxLen) (hm : MLen w) : Calls Tryz.prog 36 #[.string s] w (Ret w (.bool (idB s.data.toList))) := by
  unfold maxLen at hs
  have HM := Lib.hid hm
  clear hm
  by_cases h64 : 64 < s.size
  · have hb : decide ((s.size : Int) ≤ 64) = false := by rw [decide_eq_false_iff_not]; omega
    have HN := Lib.hid (idB_long h64)
    go_enter Tryz.func36, Tryz.ntmps36
    go_wp2_with fail
    go_ret
    exact ⟨ret_bool HN.out.symm, Below.refl _ _⟩
  have hb : decide ((s.size : Int) ≤ 64) = true := by rw [decide_eq_true_eq]; omega
  go_enter Tryz.func36, Tryz.ntmps36
  go_wp2_with fail
  refine (split_any s _ (by omega) HM.out).mono ?_
  rintro e w1 ⟨v, ss, rfl, hbl, hz, hb1⟩
  have HB1 := Lib.hid hb1
  have HZ := Lib.hid hz
  have HBL := Lib.hid hbl
  have HPL := Lib.hid (pieces_le hbl)
  have hln : ss.length ≤ 65 := by
    have := congrArg List.length hbl
    rw [bl_length, cutL_length] at this
    have h2 := List.count_le_length (a := (46 : UInt8)) (l := s.data.toList)
    rw [size_data] at h2
    omega
  clear hb1 hz hbl
  go_wp2_with fail
  refine (names_any v ss _ HZ.out (by omega) (fun x hx => by have := HPL.out x hx; rw [size_data] at this; unfold maxLen; omega)).mono ?_
  rintro e w2 ⟨rfl, hb2⟩
  have HB2 := Lib.hid (ext_trans HB1.out hb2)
  have HE : Hid (namesB (bl ss) = idB s.data.toList) := by show _ = _; rw [HBL.out, idB_names]
  rw [HE.out]
  clear hb2
  go_wp2_with fail
  go_ret
  exact ⟨rfl, HB2.out⟩

def SplitR (w : World) (l : List UInt8) (e : Ending) (w' : World) : Prop :=
  ∃ v ss, e = .returned (.tuple #[v, .int .i64 (if idB l = true then 0 else 6)]) ∧ SZ w' v ss ∧ bl ss = (if idB l = true then cutL l else []) ∧ Below w.heap.size w w'
theorem splitR_yes {w w' : World} {l : List UInt8} {e : Ending} {v : Value} {ss : List ByteArray} (h : idB l = true) (he : e = .returned (.tuple #[v, .int .i64 0])) (hs : SZ w' v ss) (hb : bl ss = cutL l) (hw : Below w.heap.size w w') : SplitR w l e w' :=
  ⟨v, ss, by rw [if_pos h]; exact he, hs, by rw [if_pos h]; exact hb, hw⟩
theorem splitR_no {w w' : World} {l : List UInt8} {e : Ending} (h : idB l = false) (he : e = .returned (.tuple #[.slice none 0 0, .int .i64 6])) (hw : Below w.heap.size w w') : SplitR w l e w' :=
  ⟨_, [], by rw [if_neg (by rw [h]; simp)]; exact he, SZ_nil _, by rw [if_neg (by rw [h]; simp)]; rfl, hw⟩
/-! Join -/
theorem joinL_inter (ls : List (List UInt8)) : Lib.join ls [46] = joinL ls := by
  unfold Lib.join
  induction ls with
  | nil => rfl
  | cons x xs ih =>
    cases xs with
    | nil => simp [List.intercalate, joinL]
    | cons y ys =>
      rw [joinL_cons (by simp), ← ih]
      simp [List.intercalate, List.intersperse]
def bytesV (l : List UInt8) : Value := .string ⟨l.toArray⟩
def joinV (ls : List (List UInt8)) : List UInt8 := if namesB ls = true then joinL ls else []
def JoinR (w : World) (ls : List (List UInt8)) (e : Ending) (w' : World) : Prop := e = .returned (.tuple #[bytesV (joinV ls), .int .i64 (if namesB ls = true then 0 else 6)]) ∧ Below w.heap.size w w'
theorem joinR_yes {w w' : World} {ls : List (List UInt8)} {e : Ending} (h : namesB ls = true) (he : e = .returned (.tuple #[.string ⟨(joinL ls).toArray⟩, .int .i64 0])) (hw : Below w.heap.size w w') : JoinR w ls e w' :=
  ⟨by unfold joinV bytesV; rw [if_pos h, if_pos h]; exact he, hw⟩
theorem joinR_no {w w' : World} {ls : List (List UInt8)} {e : Ending} (h : namesB ls = false) (he : e = .returned (.tuple #[.string ⟨#[]⟩, .int .i64 6])) (hw : Below w.heap.size w w') : JoinR w ls e w' :=
  ⟨by unfold joinV bytesV; rw [if_neg (by rw [h]; simp), if_neg (by rw [h]; simp)]; exact he, hw⟩
theorem namesB_len {ls : List (List UInt8)} (h : namesB ls = true) : 1 ≤ ls.length ∧ (joinL ls).length ≤ 64 := by
  unfold namesB at h
  simp only [Bool.and_eq_true, decide_eq_true_eq] at h
  exact ⟨h.1.1.1, h.2⟩
end Go.Proofs.YtlmfcigabojbmaaGreatDoor
