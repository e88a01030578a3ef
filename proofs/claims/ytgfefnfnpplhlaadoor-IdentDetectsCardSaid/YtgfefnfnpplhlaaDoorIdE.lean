/- Contracts: IsId, Split, Join of ident. -/
import Derived.Test.YtgfefnfnpplhlaaDoorIdD
import Derived.Test.YtgfefnfnpplhlaaDoorIdSeal
namespace Go.Proofs.YtgfefnfnpplhlaaDoor
open Go.RowKit

theorem cutL_le (l : List UInt8) : ∀ x ∈ cutL l, x.length ≤ l.length := by
  induction l with
  | nil => intro x hx; simp [cutL] at hx; subst hx; simp
  | cons c r ih =>
    intro x hx
    by_cases h : c = 46
    · subst h
      rw [cutL_dot, List.mem_cons] at hx
      rcases hx with rfl | hx
      · simp
      · have := ih x hx; simp; omega
    · obtain ⟨y, ys, e1, e2⟩ := cutL_other (r := r) h
      rw [e2, List.mem_cons] at hx
      rcases hx with rfl | hx
      · have := ih y (by rw [e1]; simp)
        simp; omega
      · have := ih x (by rw [e1]; simp [hx])
        simp; omega
theorem pieces_le {l : List UInt8} {ss : List ByteArray} (h : bl ss = cutL l) : ∀ x ∈ ss, x.size ≤ l.length := by
  intro x hx
  have := cutL_le l x.data.toList (by rw [← h]; exact List.mem_map_of_mem hx)
  rwa [size_data] at this
theorem idB_long {s : ByteArray} (h : 64 < s.size) : idB s.data.toList = false := by
  cases hb : idB s.data.toList
  · rfl
  · have := (idB_pos hb).2; rw [size_data] at this; omega

set_option maxHeartbeats 1000000 in
theorem IsId_any (s : ByteArray) (w : World) (hs : s.size ≤ maxLen) (hm : MLen w) : Calls Tryd.prog 14 #[.string s] w (Ret w (.bool (idB s.data.toList))) := by
  unfold maxLen at hs
  have HM := Lib.hid hm
  clear hm
  by_cases h64 : 64 < s.size
  · have hb : decide ((s.size : Int) ≤ 64) = false := by rw [decide_eq_false_iff_not]; omega
    have HN := Lib.hid (idB_long h64)
    go_enter Tryd.func14, Tryd.ntmps14
    go_wp2_with fail
    go_ret
    exact ⟨ret_bool HN.out.symm, Below.refl _ _⟩
  have hb : decide ((s.size : Int) ≤ 64) = true := by rw [decide_eq_true_eq]; omega
  go_enter Tryd.func14, Tryd.ntmps14
  go_wp2_with fail
  refine (split_any s _ (by omega) HM.out).mono ?_
  rintro e w1 ⟨v, ss, rfl, hbl, hz, hb1⟩
  have HB1 := Lib.hid hb1
  have HZ := Lib.hid hz
  have HBL := Lib.hid hbl
  have HPL := Lib.hid (pieces_le hbl)
  have hln : ss.length ≤ 65 := by
    have := congrArg List.length hbl
    rw [bl_length, cutL_length] at this
    have h2 := List.count_le_length (a := (46 : UInt8)) (l := s.data.toList)
    rw [size_data] at h2
    omega
  clear hb1 hz hbl
  go_wp2_with fail
  refine (names_any v ss _ HZ.out (by omega) (fun x hx => by have := HPL.out x hx; rw [size_data] at this; unfold maxLen; omega)).mono ?_
  rintro e w2 ⟨rfl, hb2⟩
  have HB2 := Lib.hid (ext_trans HB1.out hb2)
  have HE : Hid (namesB (bl ss) = idB s.data.toList) := by show _ = _; rw [HBL.out, idB_names]
  rw [HE.out]
  clear hb2
  go_wp2_with fail
  go_ret
  exact ⟨rfl, HB2.out⟩

def SplitR (w : World) (l : List UInt8) (e : Ending) (w' : World) : Prop :=
  ∃ v ss, e = .returned (.tuple #[v, .int .i64 (if idB l = true then 0 else 6)]) ∧ SZ w' v ss ∧ bl ss = (if idB l = true then cutL l else []) ∧ Below w.heap.size w w'
theorem splitR_yes {w w' : World} {l : List UInt8} {e : Ending} {v : Value} {ss : List ByteArray} (h : idB l = true) (he : e = .returned (.tuple #[v, .int .i64 0])) (hs : SZ w' v ss) (hb : bl ss = cutL l) (hw : Below w.heap.size w w') : SplitR w l e w' :=
  ⟨v, ss, by rw [if_pos h]; exact he, hs, by rw [if_pos h]; exact hb, hw⟩
theorem splitR_no {w w' : World} {l : List UInt8} {e : Ending} (h : idB l = false) (he : e = .returned (.tuple #[.slice none 0 0, .int .i64 6])) (hw : Below w.heap.size w w') : SplitR w l e w' :=
  ⟨_, [], by rw [if_neg (by rw [h]; simp)]; exact he, SZ_nil _, by rw [if_neg (by rw [h]; simp)]; rfl, hw⟩
theorem Split_any (s : ByteArray) (w : World) (hs : s.size ≤ maxLen) (hm : MLen w) : Calls Tryd.prog 16 #[.string s] w (SplitR w s.data.toList) := by
  have HM := Lib.hid hm
  clear hm
  go_enter Tryd.func16, Tryd.ntmps16
  go_wp2_with fail
  refine (IsId_any s _ hs HM.out).mono ?_
  rintro e w1 ⟨rfl, hb1⟩
  have HB1 := Lib.hid hb1
  clear hb1
  cases hi : idB s.data.toList
  · have HI := Lib.hid hi
    clear hi
    go_wp2_with fail
    go_ret2
    exact splitR_no HI.out rfl HB1.out
  · have HI := Lib.hid hi
    have hlen := (idB_pos hi).2
    rw [size_data] at hlen
    clear hi
    go_wp2_with fail
    refine (split_any s _ (by omega) (HM.out.keep HB1.out)).mono ?_
    rintro e w2 ⟨v, ss, rfl, hbl, hz, hb2⟩
    have HB2 := Lib.hid (ext_trans HB1.out hb2)
    have HZ := Lib.hid hz
    have HBL := Lib.hid hbl
    obtain ⟨a, c, e1, _⟩ : ∃ a c, v = .slice a ss.length c ∧ ss.length ≤ c := by obtain ⟨a, c, e, h, _⟩ := hz; exact ⟨a, c, e, h⟩
    subst e1
    clear hb2 hz hbl
    go_wp2_with fail
    go_ret2
    exact splitR_yes HI.out rfl HZ.out HBL.out HB2.out

/-! Join -/
theorem joinL_inter (ls : List (List UInt8)) : Lib.join ls [46] = joinL ls := by
  unfold Lib.join
  induction ls with
  | nil => rfl
  | cons x xs ih =>
    cases xs with
    | nil => simp [List.intercalate, joinL]
    | cons y ys =>
      rw [joinL_cons (by simp), ← ih]
      simp [List.intercalate, List.intersperse]
def bytesV (l : List UInt8) : Value := .string ⟨l.toArray⟩
def joinV (ls : List (List UInt8)) : List UInt8 := if namesB ls = true then joinL ls else []
def JoinR (w : World) (ls : List (List UInt8)) (e : Ending) (w' : World) : Prop := e = .returned (.tuple #[bytesV (joinV ls), .int .i64 (if namesB ls = true then 0 else 6)]) ∧ Below w.heap.size w w'
theorem joinR_yes {w w' : World} {ls : List (List UInt8)} {e : Ending} (h : namesB ls = true) (he : e = .returned (.tuple #[.string ⟨(joinL ls).toArray⟩, .int .i64 0])) (hw : Below w.heap.size w w') : JoinR w ls e w' :=
  ⟨by unfold joinV bytesV; rw [if_pos h, if_pos h]; exact he, hw⟩
theorem joinR_no {w w' : World} {ls : List (List UInt8)} {e : Ending} (h : namesB ls = false) (he : e = .returned (.tuple #[.string ⟨#[]⟩, .int .i64 6])) (hw : Below w.heap.size w w') : JoinR w ls e w' :=
  ⟨by unfold joinV bytesV; rw [if_neg (by rw [h]; simp), if_neg (by rw [h]; simp)]; exact he, hw⟩
theorem namesB_len {ls : List (List UInt8)} (h : namesB ls = true) : 1 ≤ ls.length ∧ (joinL ls).length ≤ 64 := by
  unfold namesB at h
  simp only [Bool.and_eq_true, decide_eq_true_eq] at h
  exact ⟨h.1.1.1, h.2⟩
theorem Join_any (v : Value) (ss : List ByteArray) (w : World) (h : SZ w v ss) (hl : ss.length ≤ 1000) (hz : ∀ x ∈ ss, x.size ≤ maxLen) : Calls Tryd.prog 19 #[v] w (JoinR w (bl ss)) := by
  have H := Lib.hid h
  obtain ⟨a, cap, rfl, h1, h2, h3⟩ := h
  have H3 := Lib.hid h3
  have HZ := Lib.hid hz
  clear h3 hz
  go_enter Tryd.func19, Tryd.ntmps19
  go_wp2_with fail
  refine (names_any _ ss _ H.out hl HZ.out).mono ?_
  rintro e w1 ⟨rfl, hb1⟩
  have HB1 := Lib.hid hb1
  clear hb1
  cases hn : namesB (bl ss)
  · have HN := Lib.hid hn
    clear hn
    go_wp2_with fail
    go_ret2
    exact joinR_no HN.out rfl HB1.out
  · have HN := Lib.hid hn
    have hlen := namesB_len hn
    rw [bl_length] at hlen
    obtain ⟨b, off, ha, hc0⟩ := H3.out 0 (by omega)
    subst ha
    have hlt : b < w.heap.size := World.block_lt_of_cell? w _ hc0
    have HC : Hid (∀ (j : Nat) x, ss[j]? = some x → w1.cell? ⟨b, off + j, none⟩ = some (.string x)) := fun j x hj => by
      have hjl := (List.getElem?_eq_some_iff.1 hj).1
      obtain ⟨b', off', ha', hc⟩ := H3.out j hjl
      simp at ha'
      obtain ⟨rfl, rfl⟩ := ha'
      have hc := cell_keep HB1.out hc
      rw [hc]
      try dsimp only
      rw [zi_lt hjl]
      rw [List.getElem?_eq_getElem hjl] at hj
      rw [Option.some.inj hj]
    have hw1 := HB1.out.size
    have HJ := Lib.hid (Tryd.strings_Join b off cap ss ⟨#[46]⟩ w1 HC.out (by omega) (by omega) h1 (by
      show (Lib.join (bl ss) [46]).length ≤ _
      rw [joinL_inter]; omega))
    clear hn hc0
    go_wp2_with fail
    refine HJ.out.mono ?_
    rintro e w2 ⟨rfl, hb2⟩
    have HB2 := Lib.hid (ext_trans HB1.out hb2)
    have HE : Hid (Lib.join (ss.map (·.data.toList)) (⟨#[46]⟩ : ByteArray).data.toList = joinL (bl ss)) := joinL_inter (bl ss)
    rw [HE.out]
    clear hb2
    go_wp2_with fail
    go_ret2
    exact joinR_yes HN.out rfl HB2.out
end Go.Proofs.YtgfefnfnpplhlaaDoor
