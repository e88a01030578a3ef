/- Contract: awake. -/
import Derived.Test.YtijapbfkpmphpaaFlowT
import Derived.Test.YtijapbfkpmphpaaFlowQ
namespace Go.Proofs.Ytijapbfkpmphpaa
open Go.RowKit

def P0 : List (List Int) := [[3, 2], [1, 4], [2, 2]]
def O0 : List Int := [1, 0, 2]
def T0 : List (List Int) := [[1, 5], [4, 7], [6, 9]]
theorem v1 : finishE P0 O0 = 0 := by rfl
theorem v2 : finishV P0 O0 = T0 := by rfl
theorem v3 : spanV P0 O0 = 9 := by rfl
theorem v4 : boundE P0 [1] 0 = 0 := by rfl
theorem v5 : boundR P0 [1] 0 = 8 := by rfl
theorem v6 : boundE P0 [1] 1 = 0 := by rfl
theorem v7 : boundR P0 [1] 1 = 9 := by rfl
theorem v8 : johnE P0 = 0 := by rfl
theorem v9 : johnL P0 = [1, 2, 0] := by rfl
theorem v10 : bestE P0 100 = 0 := by rfl
theorem v11 : bestL P0 100 = O0 := by rfl
theorem v12 : bestN P0 100 = 9 := by rfl
theorem v13 : bestE P0 4 = 29 := by rfl

/-- the elements of a literal slice -/
theorem SI_lit (w : World) (xs : List Int) (e : TypeId) (hl : xs.length ≤ 1000) : SI (w.alloc (.cells (xs.map (Value.int .i64)).toArray e)) (.slice (some ⟨w.heap.size, 0, none⟩) xs.length xs.length) xs := by
  refine ⟨_, _, rfl, Nat.le_refl _, by unfold maxLen; omega, fun i hi => ⟨w.heap.size, 0, rfl, ?_⟩⟩
  simp [gi_lt hi, hi]
theorem SS_lit3 (w : World) (a b c : List Int) (e : TypeId) (va vb vc : Value) (ha : SI w va a) (hb : SI w vb b) (hc : SI w vc c) : SS (w.alloc (.cells #[va, vb, vc] e)) (.slice (some ⟨w.heap.size, 0, none⟩) 3 3) [a, b, c] := by
  refine ⟨fun i => [va, vb, vc].getD i undef, ⟨_, _, rfl, Nat.le_refl _, by unfold maxLen; simp, fun i hi => ⟨w.heap.size, 0, rfl, ?_⟩⟩, fun i hi => ?_⟩
  · have : i = 0 ∨ i = 1 ∨ i = 2 := by simp at hi; omega
    rcases this with rfl | rfl | rfl <;> simp
  · have : i = 0 ∨ i = 1 ∨ i = 2 := by simp at hi; omega
    rcases this with rfl | rfl | rfl
    · exact ha.alloc _
    · exact hb.alloc _
    · exact hc.alloc _
theorem SS_lit32 (w : World) (a b c d f g : Int) (e1 e2 e3 e : TypeId) : SS ((((w.alloc (.cells #[.int .i64 a, .int .i64 b] e1)).alloc (.cells #[.int .i64 c, .int .i64 d] e2)).alloc (.cells #[.int .i64 f, .int .i64 g] e3)).alloc
    (.cells #[.slice (some ⟨w.heap.size, 0, none⟩) 2 2, .slice (some ⟨w.heap.size + 1, 0, none⟩) 2 2, .slice (some ⟨w.heap.size + 1 + 1, 0, none⟩) 2 2] e)) (.slice (some ⟨w.heap.size + 1 + 1 + 1, 0, none⟩) 3 3) [[a, b], [c, d], [f, g]] := by
  have h := SS_lit3 (((w.alloc (.cells #[.int .i64 a, .int .i64 b] e1)).alloc (.cells #[.int .i64 c, .int .i64 d] e2)).alloc (.cells #[.int .i64 f, .int .i64 g] e3)) [a, b] [c, d] [f, g] e _ _ _
    (((SI_lit w [a, b] e1 (by simp)).alloc _).alloc _) ((SI_lit (w.alloc _) [c, d] e2 (by simp)).alloc _) (SI_lit ((w.alloc _).alloc _) [f, g] e3 (by simp))
  simpa using h

theorem below_alloc {a b : World} (h : Below a.heap.size a b) (o : Obj) : Below a.heap.size a (b.alloc o) := h.alloc h.size o
theorem SI_lit1 (w : World) (a : Int) (e : TypeId) : SI (w.alloc (.cells #[.int .i64 a] e)) (.slice (some ⟨w.heap.size, 0, none⟩) 1 1) [a] := SI_lit w [a] e (by simp)
theorem SI_lit2 (w : World) (a b : Int) (e : TypeId) : SI (w.alloc (.cells #[.int .i64 a, .int .i64 b] e)) (.slice (some ⟨w.heap.size, 0, none⟩) 2 2) [a, b] := SI_lit w [a, b] e (by simp)
theorem SI_lit3 (w : World) (a b c : Int) (e : TypeId) : SI (w.alloc (.cells #[.int .i64 a, .int .i64 b, .int .i64 c] e)) (.slice (some ⟨w.heap.size, 0, none⟩) 3 3) [a, b, c] := SI_lit w [a, b, c] e (by simp)

set_option maxHeartbeats 1000000 in
theorem awake_any (w : World) : Calls Try.prog 13 #[] w fun e w' => e = .returned (.bool true) ∧ Below w.heap.size w w' := by
  go_enter Try.func13, Try.ntmps13
  go_wp2_with fail
  have hp := SS_lit32 w 3 2 1 4 2 2 3 3 3 23
  rw [show [[(3 : Int), 2], [1, 4], [2, 2]] = P0 from rfl] at hp
  have HP := Lib.hid hp
  clear hp
  have HB : Hid (Below w.heap.size w ((((w.alloc (.cells #[.int .i64 3, .int .i64 2] 3)).alloc (.cells #[.int .i64 1, .int .i64 4] 3)).alloc (.cells #[.int .i64 2, .int .i64 2] 3)).alloc
    (.cells #[.slice (some ⟨w.heap.size, 0, none⟩) 2 2, .slice (some ⟨w.heap.size + 1, 0, none⟩) 2 2, .slice (some ⟨w.heap.size + 1 + 1, 0, none⟩) 2 2] 23))) :=
    (((((Below.refl _ _).alloc (Nat.le_refl _) _).alloc (by simp) _).alloc (by simp; omega) _).alloc (by simp; omega) _)
  have hsz : (((((w.alloc (.cells #[.int .i64 3, .int .i64 2] 3)).alloc (.cells #[.int .i64 1, .int .i64 4] 3)).alloc (.cells #[.int .i64 2, .int .i64 2] 3)).alloc
    (.cells #[.slice (some ⟨w.heap.size, 0, none⟩) 2 2, .slice (some ⟨w.heap.size + 1, 0, none⟩) 2 2, .slice (some ⟨w.heap.size + 1 + 1, 0, none⟩) 2 2] 23))).heap.size = w.heap.size + 1 + 1 + 1 + 1 := by simp
  generalize (((((w.alloc (.cells #[.int .i64 3, .int .i64 2] 3)).alloc (.cells #[.int .i64 1, .int .i64 4] 3)).alloc (.cells #[.int .i64 2, .int .i64 2] 3)).alloc
    (.cells #[.slice (some ⟨w.heap.size, 0, none⟩) 2 2, .slice (some ⟨w.heap.size + 1, 0, none⟩) 2 2, .slice (some ⟨w.heap.size + 1 + 1, 0, none⟩) 2 2] 23))) = wp at *
  rw [← hsz]
  clear hsz
  generalize w.heap.size + 1 + 1 + 1 = bp at *
  refine (Finish_any _ _ P0 O0 _ (HP.out.keep (below_alloc (Below.refl _ _) _)) (SI_lit3 wp 1 0 2 _)).mono ?_
  rintro e w1 ⟨r1, rfl, hs, hb⟩
  have HB1 := Lib.hid (ext_trans (below_alloc (Below.refl wp.heap.size wp) _) hb)
  have HT := Lib.hid hs
  clear hs hb
  rw [v1]
  go_wp2_with fail
  refine (Makespan_any _ _ P0 O0 _ (HP.out.keep (below_alloc HB1.out _)) (SI_lit3 w1 1 0 2 _)).mono ?_
  rintro e w2 ⟨rfl, hb⟩
  have HB2 := Lib.hid (ext_trans (below_alloc HB1.out _) hb)
  have HT2 := Lib.hid (HT.out.keep (ext_trans (below_alloc (Below.refl _ _) _) hb))
  clear hb
  rw [v1, v3]
  go_wp2_with fail
  refine (Bound_any _ _ P0 [1] 0 _ (HP.out.keep (below_alloc HB2.out _)) (SI_lit1 w2 1 _)).mono ?_
  rintro e w3 ⟨rfl, hb⟩
  have HB3 := Lib.hid (ext_trans (below_alloc HB2.out _) hb)
  have HT3 := Lib.hid (HT2.out.keep (ext_trans (below_alloc (Below.refl _ _) _) hb))
  clear hb
  rw [v4, v5]
  go_wp2_with fail
  refine (Bound_any _ _ P0 [1] 1 _ (HP.out.keep (below_alloc HB3.out _)) (SI_lit1 w3 1 _)).mono ?_
  rintro e w4 ⟨rfl, hb⟩
  have HB4 := Lib.hid (ext_trans (below_alloc HB3.out _) hb)
  have HT4 := Lib.hid (HT3.out.keep (ext_trans (below_alloc (Below.refl _ _) _) hb))
  clear hb
  rw [v6, v7]
  go_wp2_with fail
  refine (Johnson_any _ P0 _ (HP.out.keep HB4.out) (stableOK_small (by show 3 < 20; omega))).mono ?_
  rintro e w5 ⟨r5, rfl, hs, hb⟩
  have HB5 := Lib.hid (ext_trans HB4.out hb)
  have HT5 := Lib.hid (HT4.out.keep hb)
  have HJ := Lib.hid hs
  clear hb hs
  rw [v8]
  go_wp2_with fail
  refine (Best_any _ P0 100 _ (HP.out.keep HB5.out)).mono ?_
  rintro e w6 ⟨r6, rfl, hs, hb⟩
  have HB6 := Lib.hid (ext_trans HB5.out hb)
  have HT6 := Lib.hid (HT5.out.keep hb)
  have HJ6 := Lib.hid (HJ.out.keep hb)
  have HS6 := Lib.hid hs
  clear hb hs
  rw [v10, v12]
  go_wp2_with fail
  refine (Best_any _ P0 4 _ (HP.out.keep HB6.out)).mono ?_
  rintro e w7 ⟨r7, rfl, hs, hb⟩
  have HB7 := Lib.hid (ext_trans HB6.out hb)
  have HT7 := Lib.hid (HT6.out.keep hb)
  have HJ7 := Lib.hid (HJ6.out.keep hb)
  have HS7 := Lib.hid (HS6.out.keep hb)
  clear hb hs
  rw [v13]
  go_wp2_with fail
  refine (sameRows_any _ _ (finishV P0 O0) T0 _ (HT7.out.keep (below_alloc (below_alloc (below_alloc (below_alloc (Below.refl _ _) _) _) _) _)) (by exact SS_lit32 w7 1 5 4 7 6 9 3 3 3 23)).mono ?_
  rintro e w8 ⟨rfl, m1, rfl⟩
  have HB8 := Lib.hid (below_drewN' (below_alloc (below_alloc (below_alloc (below_alloc HB7.out (.cells #[.int .i64 1, .int .i64 5] 3)) (.cells #[.int .i64 4, .int .i64 7] 3)) (.cells #[.int .i64 6, .int .i64 9] 3)) (.cells #[.slice (some ⟨w7.heap.size, 0, none⟩) 2 2, .slice (some ⟨w7.heap.size + 1, 0, none⟩) 2 2, .slice (some ⟨w7.heap.size + 1 + 1, 0, none⟩) 2 2] 23)) m1)
  have HJ8 : Hid (SI ((((w7.alloc (.cells #[.int .i64 1, .int .i64 5] 3)).alloc (.cells #[.int .i64 4, .int .i64 7] 3)).alloc (.cells #[.int .i64 6, .int .i64 9] 3)).alloc (.cells #[.slice (some ⟨w7.heap.size, 0, none⟩) 2 2, .slice (some ⟨w7.heap.size + 1, 0, none⟩) 2 2, .slice (some ⟨w7.heap.size + 1 + 1, 0, none⟩) 2 2] 23) |>.drewN m1) r5 (johnL P0)) := ((((HJ7.out.alloc _).alloc _).alloc _).alloc _).drewN _
  have HS8 : Hid (SI ((((w7.alloc (.cells #[.int .i64 1, .int .i64 5] 3)).alloc (.cells #[.int .i64 4, .int .i64 7] 3)).alloc (.cells #[.int .i64 6, .int .i64 9] 3)).alloc (.cells #[.slice (some ⟨w7.heap.size, 0, none⟩) 2 2, .slice (some ⟨w7.heap.size + 1, 0, none⟩) 2 2, .slice (some ⟨w7.heap.size + 1 + 1, 0, none⟩) 2 2] 23) |>.drewN m1) r6 (bestL P0 100)) := ((((HS7.out.alloc _).alloc _).alloc _).alloc _).drewN _
  generalize ((((w7.alloc (.cells #[.int .i64 1, .int .i64 5] 3)).alloc (.cells #[.int .i64 4, .int .i64 7] 3)).alloc (.cells #[.int .i64 6, .int .i64 9] 3)).alloc (.cells #[.slice (some ⟨w7.heap.size, 0, none⟩) 2 2, .slice (some ⟨w7.heap.size + 1, 0, none⟩) 2 2, .slice (some ⟨w7.heap.size + 1 + 1, 0, none⟩) 2 2] 23) |>.drewN m1) = w8 at *
  rw [decide_eq_true v2]
  go_wp2_with fail
  refine (same_any _ _ (johnL P0) [1, 2, 0] _ (HJ8.out.alloc _) (SI_lit3 w8 1 2 0 _)).mono ?_
  rintro e w9 ⟨rfl, m2, rfl⟩
  rw [decide_eq_true v9]
  have HB9 := Lib.hid (below_drewN' (below_alloc HB8.out (.cells #[.int .i64 1, .int .i64 2, .int .i64 0] 3)) m2)
  have HS9 : Hid (SI ((w8.alloc (.cells #[.int .i64 1, .int .i64 2, .int .i64 0] 3)).drewN m2) r6 (bestL P0 100)) := (HS8.out.alloc _).drewN _
  generalize (w8.alloc (.cells #[.int .i64 1, .int .i64 2, .int .i64 0] 3)).drewN m2 = w9 at *
  go_wp2_with fail
  refine (same_any _ _ (bestL P0 100) O0 _ (HS9.out.alloc _) (SI_lit3 w9 1 0 2 _)).mono ?_
  rintro e w10 ⟨rfl, m3, rfl⟩
  rw [decide_eq_true v11]
  go_wp2_with fail
  go_ret
  exact ⟨rfl, HB.out.trans ((below_drewN' (below_alloc HB9.out _) _).mono HB.out.size)⟩
end Go.Proofs.Ytijapbfkpmphpaa
