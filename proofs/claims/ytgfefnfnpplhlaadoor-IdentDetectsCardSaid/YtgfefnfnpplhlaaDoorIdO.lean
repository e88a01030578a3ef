/- The example of ident's laws. -/
import Derived.Test.YtgfefnfnpplhlaaDoorIdN
namespace Go.Proofs.YtgfefnfnpplhlaaDoor
open Go.RowKit

theorem IsName_is {s : ByteArray} {w : World} {b : Bool} (h : nameB s.data.toList = b) (hs : s.size ≤ maxLen) : Calls Tryd.prog 12 #[.string s] w (Ret w (.bool b)) := by rw [← h]; exact IsName_any s w hs
theorem IsId_is {s : ByteArray} {w : World} {b : Bool} (h : idB s.data.toList = b) (hs : s.size ≤ maxLen) (hm : MLen w) : Calls Tryd.prog 14 #[.string s] w (Ret w (.bool b)) := by rw [← h]; exact IsId_any s w hs hm
theorem Split_yes {s : ByteArray} {w : World} (h : idB s.data.toList = true) (hs : s.size ≤ maxLen) (hm : MLen w) : Calls Tryd.prog 16 #[.string s] w fun e w' => ∃ v ss, e = .returned (.tuple #[v, .int .i64 0]) ∧ SZ w' v ss ∧ bl ss = cutL s.data.toList ∧ Below w.heap.size w w' := by
  refine (Split_any s w hs hm).mono ?_
  rintro e w' ⟨v, ss, he, hz, hb, hw⟩
  rw [if_pos h] at he hb
  exact ⟨v, ss, he, hz, hb, hw⟩
theorem Join_is {v : Value} {ss : List ByteArray} {w : World} {r : ByteArray} {er : Int} (h : SZ w v ss) (hl : ss.length ≤ 1000) (hz : ∀ x ∈ ss, x.size ≤ maxLen) (h1 : bytesV (joinV (bl ss)) = .string r) (h2 : (if namesB (bl ss) = true then 0 else 6) = er) : Calls Tryd.prog 19 #[v] w fun e w' => e = .returned (.tuple #[.string r, .int .i64 er]) ∧ Below w.heap.size w w' := by
  rw [← h1, ← h2]; exact Join_any v ss w h hl hz
theorem Seal_is {s : ByteArray} {w : World} {r : ByteArray} {er : Int} (hs : s.size ≤ maxLen) (hm : MLen w) (h1 : bytesV (sealV s.data.toList) = .string r) (h2 : (if idB s.data.toList = true then 0 else 6) = er) : Calls Tryd.prog 23 #[.string s] w fun e w' => e = .returned (.tuple #[.string r, .int .i64 er]) ∧ Below w.heap.size w w' := by
  rw [← h1, ← h2]; exact Seal_any s w hs hm
theorem Open_is {s : ByteArray} {w : World} {r : ByteArray} {er : Int} (hs : s.size ≤ maxLen) (hm : MLen w) (h1 : bytesV (openL s.data.toList) = .string r) (h2 : openE s.data.toList = er) : Calls Tryd.prog 25 #[.string s] w fun e w' => e = .returned (.tuple #[.string r, .int .i64 er]) ∧ Below w.heap.size w w' := by
  rw [← h1, ← h2]; exact Open_any s w hs hm
theorem Compare_is {a b : ByteArray} {w : World} {c : Int} (ha : a.size ≤ maxLen) (hb : b.size ≤ maxLen) (h : natC a.data.toList b.data.toList = c) : Calls Tryd.prog 21 #[.string a, .string b] w fun e w' => e = .returned (.int .i64 c) ∧ ∃ m, w' = w.drewN m := by rw [← h]; exact Compare_any a b w ha hb
theorem rSame_is {v u : Value} {xs ys : List ByteArray} {w : World} (h : SZ w v xs) (g : SZ w u ys) (e : bl xs = bl ys) : Calls Tryd.prog 18 #[v, u] w fun e w' => e = .returned (.bool true) ∧ ∃ m, w' = w.drewN m := by
  have := rSame_any v u xs ys w h g
  rw [show decide (bl xs = bl ys) = true by rw [decide_eq_true_eq]; exact e] at this
  exact this
theorem SZ_two (w : World) (a b : ByteArray) : SZ (w.alloc (.cells #[.string a, .string b] 9)) (.slice (some ⟨w.heap.size, 0, none⟩) 2 2) [a, b] := SZ_lit w [a, b] _ (by show 2 ≤ maxLen; unfold maxLen; omega)
theorem small {n : Nat} (h : n ≤ 100) : n ≤ maxLen := by unfold maxLen; omega
theorem two_small {a b : ByteArray} (ha : a.size ≤ 100) (hb : b.size ≤ 100) : ∀ x ∈ [a, b], x.size ≤ maxLen := by
  intro x hx
  simp only [List.mem_cons, List.not_mem_nil, or_false] at hx
  rcases hx with rfl | rfl
  · exact small ha
  · exact small hb

theorem Join_yes {v : Value} {ss : List ByteArray} {w : World} {r : ByteArray} (h : SZ w v ss) (hl : ss.length ≤ 1000) (hz : ∀ x ∈ ss, x.size ≤ maxLen) (h1 : bytesV (joinV (bl ss)) = .string r) (h2 : namesB (bl ss) = true) : Calls Tryd.prog 19 #[v] w fun e w' => e = .returned (.tuple #[.string r, .int .i64 0]) ∧ Below w.heap.size w w' := Join_is h hl hz h1 (if_pos h2)
theorem Join_no {v : Value} {ss : List ByteArray} {w : World} {r : ByteArray} (h : SZ w v ss) (hl : ss.length ≤ 1000) (hz : ∀ x ∈ ss, x.size ≤ maxLen) (h1 : bytesV (joinV (bl ss)) = .string r) (h2 : namesB (bl ss) = false) : Calls Tryd.prog 19 #[v] w fun e w' => e = .returned (.tuple #[.string r, .int .i64 6]) ∧ Below w.heap.size w w' := Join_is h hl hz h1 (if_neg (by rw [h2]; simp))
theorem Seal_yes {s : ByteArray} {w : World} {r : ByteArray} (hs : s.size ≤ maxLen) (hm : MLen w) (h1 : bytesV (sealV s.data.toList) = .string r) (h2 : idB s.data.toList = true) : Calls Tryd.prog 23 #[.string s] w fun e w' => e = .returned (.tuple #[.string r, .int .i64 0]) ∧ Below w.heap.size w w' := Seal_is hs hm h1 (if_pos h2)
def yB1A2 : ByteArray := ⟨#[66, 49, 46, 65, 50]⟩
def yB1 : ByteArray := ⟨#[66, 49]⟩
def yA2 : ByteArray := ⟨#[65, 50]⟩
theorem ev1 : idB [66, 49, 46, 65, 50] = true := by decide
theorem ev2 : cutL [66, 49, 46, 65, 50] = [[66, 49], [65, 50]] := by decide
theorem ev3 : namesB [[66, 49], [65, 50]] = true := by decide
theorem ev4 : joinV [[66, 49], [65, 50]] = [66, 49, 46, 65, 50] := by decide
theorem ev5 : namesB [[66, 49], [50, 65]] = false := by decide
theorem ev6 : joinV [[66, 49], [50, 65]] = [] := by decide
theorem ev7 : idB [98] = true := by decide
theorem ev8 : sealV [98] = [98, 47, 57, 53] := by decide
theorem ev9 : openE [98, 47, 57, 53] = 0 := by decide
theorem ev10 : openL [98, 47, 57, 53] = [98] := by decide
theorem ev11 : openE [98, 47, 57, 54] = 16 := by decide
theorem ev12 : openL [98, 47, 57, 54] = [] := by decide
theorem ev13 : nameB [112, 45, 49, 95, 120] = true := by decide
theorem ev14 : nameB [49, 66] = false := by decide
theorem ev15 : idB [66, 49, 50, 46, 112, 45, 49, 95, 120] = true := by decide
theorem ev16 : natC [65, 50] [65, 49, 48] = -1 := by decide
theorem ev17 : natC [65, 48, 50] [65, 50] = -1 := by decide
theorem ev18 : natC [120, 57] [120, 48, 57] = 1 := by decide
theorem bV {l : List UInt8} {r : List UInt8} (h : l = r) : bytesV l = .string ⟨r.toArray⟩ := by rw [h]; rfl

set_option maxHeartbeats 1000000 in
theorem alive_any (w : World) (hm : MLen w) : Calls Tryd.prog 11 #[] w (Ret w (.bool true)) := by
  have HM := Lib.hid hm
  clear hm
  go_enter Tryd.func11, Tryd.ntmps11
  go_wp2_with fail
  refine (Split_yes ev1 (small (by decide)) (by exact HM.out)).mono ?_
  rintro e w1 ⟨v1, s1, rfl, hz, hbl, hb⟩
  have HZ := Lib.hid hz
  have HBL : Hid (bl s1 = bl [⟨#[66, 49]⟩, ⟨#[65, 50]⟩]) := hbl.trans ev2
  have HB := Lib.hid hb
  clear hz hbl hb
  go_wp2_with fail
  refine (Join_yes (SZ_two w1 ⟨#[66, 49]⟩ ⟨#[65, 50]⟩) (by decide) (two_small (by decide) (by decide)) (bV ev4) ev3).mono ?_
  rintro e w2 ⟨rfl, hb⟩
  replace hb : Below w1.heap.size w1 w2 := ((Below.refl _ _).alloc (Nat.le_refl _) _).trans (hb.mono (by simp))
  replace HZ := Lib.hid (HZ.out.keep hb)
  replace HB := Lib.hid (ext_trans HB.out hb)
  clear hb
  go_wp2_with fail
  refine (Seal_yes (small (by decide)) (HM.out.keep HB.out) (bV ev8) ev7).mono ?_
  rintro e w3 ⟨rfl, hb⟩
  replace HZ := Lib.hid (HZ.out.keep hb)
  replace HB := Lib.hid (ext_trans HB.out hb)
  clear hb
  go_wp2_with fail
  refine (Open_is (small (by decide)) (HM.out.keep HB.out) (bV ev10) ev9).mono ?_
  rintro e w4 ⟨rfl, hb⟩
  replace HZ := Lib.hid (HZ.out.keep hb)
  replace HB := Lib.hid (ext_trans HB.out hb)
  clear hb
  go_wp2_with fail
  refine (Open_is (small (by decide)) (HM.out.keep HB.out) (bV ev12) ev11).mono ?_
  rintro e w5 ⟨rfl, hb⟩
  replace HZ := Lib.hid (HZ.out.keep hb)
  replace HB := Lib.hid (ext_trans HB.out hb)
  clear hb
  go_wp2_with fail
  refine (Join_no (SZ_two w5 ⟨#[66, 49]⟩ ⟨#[50, 65]⟩) (by decide) (two_small (by decide) (by decide)) (bV ev6) ev5).mono ?_
  rintro e w6 ⟨rfl, hb⟩
  replace hb : Below w5.heap.size w5 w6 := ((Below.refl _ _).alloc (Nat.le_refl _) _).trans (hb.mono (by simp))
  replace HZ := Lib.hid (HZ.out.keep hb)
  replace HB := Lib.hid (ext_trans HB.out hb)
  clear hb
  go_wp2_with fail
  refine (IsName_is ev13 (small (by decide))).mono ?_
  rintro e w7 ⟨rfl, hb⟩
  replace HZ := Lib.hid (HZ.out.keep hb)
  replace HB := Lib.hid (ext_trans HB.out hb)
  clear hb
  go_wp2_with fail
  refine (IsName_is ev14 (small (by decide))).mono ?_
  rintro e w8 ⟨rfl, hb⟩
  replace HZ := Lib.hid (HZ.out.keep hb)
  replace HB := Lib.hid (ext_trans HB.out hb)
  clear hb
  go_wp2_with fail
  refine (IsId_is ev15 (small (by decide)) (HM.out.keep HB.out)).mono ?_
  rintro e w9 ⟨rfl, hb⟩
  replace HZ := Lib.hid (HZ.out.keep hb)
  replace HB := Lib.hid (ext_trans HB.out hb)
  clear hb
  go_wp2_with fail
  refine (rSame_is (HZ.out.keep ((Below.refl _ _).alloc (Nat.le_refl _) _)) (SZ_two w9 ⟨#[66, 49]⟩ ⟨#[65, 50]⟩) HBL.out).mono ?_
  rintro e w10 ⟨rfl, hw⟩
  have hb : Below w9.heap.size w9 w10 := by
    obtain ⟨m, rfl⟩ := hw
    exact below_drewN' ((Below.refl _ _).alloc (Nat.le_refl _) _) _
  replace HB := Lib.hid (ext_trans HB.out hb)
  clear hb hw
  go_wp2_with fail
  refine (Compare_is (small (by decide)) (small (by decide)) ev16).mono ?_
  rintro e w11 ⟨rfl, m11, rfl⟩
  go_wp2_with fail
  refine (Compare_is (small (by decide)) (small (by decide)) ev17).mono ?_
  rintro e w12 ⟨rfl, m12, rfl⟩
  go_wp2_with fail
  refine (Compare_is (small (by decide)) (small (by decide)) ev18).mono ?_
  rintro e w13 ⟨rfl, m13, rfl⟩
  go_wp2_with fail
  go_ret
  exact ⟨rfl, below_drewN' HB.out _⟩
end Go.Proofs.YtgfefnfnpplhlaaDoor
