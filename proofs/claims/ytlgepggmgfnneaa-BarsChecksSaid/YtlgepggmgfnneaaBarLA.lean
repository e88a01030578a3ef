/- Contract: awake of the bars' laws. -/
import Derived.Test.YtlgepggmgfnneaaBarY
import Derived.Test.YtlgepggmgfnneaaBarV
import Derived.Test.YtlgepggmgfnneaaBarK
import Derived.Outline
namespace Go.Proofs.Ytlgepggmgfnneaa
open Go.RowKit

theorem a1 : rightE [3, 5, 4, 2] 7 0 = 0 := by rfl
theorem a2 : greedyL [3, 5, 4, 2] 7 0 = [[1, 3], [2, 0]] := by rfl
theorem a3 : bestE [3, 5, 4, 2] 7 0 = 0 := by rfl
theorem a4 : bestL [3, 5, 4, 2] 7 0 = [[0, 2], [1, 3]] := by rfl
theorem a5 : rightE [600, 600, 600] 1000 0 = 0 := by rfl
theorem a6 : boundR [600, 600, 600] 1000 0 = 2 := by rfl
theorem a7 : needV [300, 200, 100] 5 = 610 := by rfl
theorem below_alloc {a b : World} (h : Below a.heap.size a b) (o : Obj) : Below a.heap.size a (b.alloc o) := h.alloc h.size o
theorem SI_lit (w : World) (xs : List Int) (e : TypeId) (hl : xs.length ≤ 1000) : SI (w.alloc (.cells (xs.map (Value.int .i64)).toArray e)) (.slice (some ⟨w.heap.size, 0, none⟩) xs.length xs.length) xs := by
  refine ⟨_, _, rfl, Nat.le_refl _, by unfold maxLen; omega, fun i hi => ⟨w.heap.size, 0, rfl, ?_⟩⟩
  simp [gi_lt hi, hi]

def prest : Nat → Value
  | 3 => .string ⟨#[]⟩
  | 6 => .slice none 0 0
  | 7 => .slice none 0 0
  | _ => .int .i64 0
def pt (id : ByteArray) : PartD := ⟨id, ⟨#[72, 80]⟩, ⟨#[]⟩, 2, 2500, prest⟩
def bP1 : ByteArray := ⟨#[80, 49]⟩
def bP2 : ByteArray := ⟨#[80, 50]⟩
def saw0 : SawD := ⟨⟨#[88]⟩, 4, [bP1, bP2]⟩
def bar0 : BarI := ⟨⟨#[88]⟩, ⟨#[72, 80]⟩, ⟨#[]⟩, 6000, .string ⟨#[]⟩⟩
theorem a8 : chkE saw0 bar0 [pt bP1, pt bP2] = 0 := by kernel_rfl
theorem a9 : offV saw0 bar0 [pt bP1, pt bP2] = 992 := by kernel_rfl
theorem arr_get (p : PartD) {j : Nat} (h : j < 18) : p.arr[j]? = some (p.cell j) := by
  have hz : p.arr.size = 18 := rfl
  have h1 : p.arr[j]? = some p.arr[j] := Array.getElem?_eq_getElem (by omega)
  have h2 := (p.arr_at j p.arr[j] (by rw [Array.getElem?_toList]; exact h1)).2
  rw [h1, h2]
theorem SP_lit2 (w : World) (p1 p2 : PartD) (e : TypeId) (h1 : p1.arr.all (·.oneCell') = true) (h2 : p2.arr.all (·.oneCell') = true) : SP (w.alloc (.cells (p1.arr ++ p2.arr) e)) (.slice (some ⟨w.heap.size, 0, none⟩) 2 2) [p1, p2] := by
  refine ⟨_, _, rfl, Nat.le_refl _, by unfold maxLen; simp, fun i hi => ?_⟩
  have hc : ∀ m, (w.alloc (.cells (p1.arr ++ p2.arr) e)).cell? ⟨w.heap.size, m, none⟩ = (p1.arr ++ p2.arr)[m]? := fun m => by simp
  have hi' : i = 0 ∨ i = 1 := by simp at hi; omega
  rcases hi' with rfl | rfl
  · refine ⟨h1, w.heap.size, 0, rfl, fun j hj => ?_⟩
    rw [hc, show 0 + 0 * 18 + j = j by omega, Array.getElem?_append_left (by show j < 18; exact hj)]
    exact arr_get p1 hj
  · refine ⟨h2, w.heap.size, 0, rfl, fun j hj => ?_⟩
    rw [hc, show 0 + 1 * 18 + j = 18 + j by omega, Array.getElem?_append_right (by show 18 ≤ 18 + j; omega), show 18 + j - p1.arr.size = j by show 18 + j - 18 = j; omega]
    exact arr_get p2 hj
theorem SStr_lit2 (w : World) (a b : ByteArray) (e : TypeId) : SStr (w.alloc (.cells #[.string a, .string b] e)) (.slice (some ⟨w.heap.size, 0, none⟩) 2 2) [a, b] := by
  refine ⟨_, _, rfl, Nat.le_refl _, by unfold maxLen; simp, fun i hi => ⟨w.heap.size, 0, rfl, ?_⟩⟩
  have hi' : i = 0 ∨ i = 1 := by simp at hi; omega
  rcases hi' with rfl | rfl <;> simp [si]
theorem SI_lit2 (w : World) (a b : Int) (e : TypeId) : SI (w.alloc (.cells #[.int .i64 a, .int .i64 b] e)) (.slice (some ⟨w.heap.size, 0, none⟩) 2 2) [a, b] := SI_lit w [a, b] e (by simp)
theorem SS_lit2 (w : World) (a b : List Int) (e : TypeId) (va vb : Value) (ha : SI w va a) (hb : SI w vb b) : SS (w.alloc (.cells #[va, vb] e)) (.slice (some ⟨w.heap.size, 0, none⟩) 2 2) [a, b] := by
  refine ⟨fun i => [va, vb].getD i undef, ⟨_, _, rfl, Nat.le_refl _, by unfold maxLen; simp, fun i hi => ⟨w.heap.size, 0, rfl, ?_⟩⟩, fun i hi => ?_⟩
  · have : i = 0 ∨ i = 1 := by simp at hi; omega
    rcases this with rfl | rfl <;> simp
  · have : i = 0 ∨ i = 1 := by simp at hi; omega
    rcases this with rfl | rfl
    · exact ha.alloc _
    · exact hb.alloc _
theorem SS_lit22 (w : World) (a b c d : Int) (e1 e2 e : TypeId) : SS (((w.alloc (.cells #[.int .i64 a, .int .i64 b] e1)).alloc (.cells #[.int .i64 c, .int .i64 d] e2)).alloc
    (.cells #[.slice (some ⟨w.heap.size, 0, none⟩) 2 2, .slice (some ⟨w.heap.size + 1, 0, none⟩) 2 2] e)) (.slice (some ⟨w.heap.size + 1 + 1, 0, none⟩) 2 2) [[a, b], [c, d]] := by
  have h := SS_lit2 ((w.alloc (.cells #[.int .i64 a, .int .i64 b] e1)).alloc (.cells #[.int .i64 c, .int .i64 d] e2)) [a, b] [c, d] e _ _ ((SI_lit2 w a b e1).alloc _) (SI_lit2 (w.alloc _) c d e2)
  simpa using h

set_option maxRecDepth 100000 in
set_option maxHeartbeats 4000000 in
theorem awake_any (w : World) : Calls Try.prog 11 #[] w fun e w' => e = .returned (.bool true) ∧ Below w.heap.size w w' := by
  have HB : Hid (Below w.heap.size w (w.alloc (.cells #[.int .i64 3, .int .i64 5, .int .i64 4, .int .i64 2] 3))) := below_alloc (Below.refl _ _) _
  have HL : Hid (SI (w.alloc (.cells #[.int .i64 3, .int .i64 5, .int .i64 4, .int .i64 2] 3)) (.slice (some ⟨w.heap.size, 0, none⟩) 4 4) [3, 5, 4, 2]) := SI_lit w [3, 5, 4, 2] _ (by simp)
  go_enter Try.func11, Try.ntmps11
  go_wp2_with fail
  generalize w.alloc (.cells #[.int .i64 3, .int .i64 5, .int .i64 4, .int .i64 2] 3) = wa at *
  refine (Greedy_any _ [3, 5, 4, 2] 7 0 _ HL.out).mono ?_
  rintro e w1 ⟨tg, rfl, hs, hb⟩
  have HB1 := Lib.hid (HB.out.trans (hb.mono HB.out.size))
  have HL1 := Lib.hid (HL.out.keep hb)
  rw [a2] at hs
  have HS1 := Lib.hid hs
  clear hb hs
  rw [a1]
  go_wp2_with fail
  refine (Best_any _ [3, 5, 4, 2] 7 0 _ HL1.out).mono ?_
  rintro e w2 ⟨tb, rfl, hs, hb⟩
  have HB2 := Lib.hid (HB1.out.trans (hb.mono HB1.out.size))
  rw [a4] at hs
  have HG2 := Lib.hid (HS1.out.keep hb)
  have HS2 := Lib.hid hs
  clear hb hs
  rw [a3]
  go_wp2_with fail
  have hl3 := SI_lit w2 [600, 600, 600] 3 (by simp)
  refine (Bound_any _ [600, 600, 600] 1000 0 _ hl3).mono ?_
  rintro e w3 ⟨rfl, hb⟩
  have HB3 := Lib.hid (HB2.out.trans ((ext_trans (below_alloc (Below.refl _ _) _) hb).mono HB2.out.size))
  have HG3 := Lib.hid (HG2.out.keep (ext_trans (below_alloc (Below.refl _ _) _) hb))
  have HS3 := Lib.hid (HS2.out.keep (ext_trans (below_alloc (Below.refl _ _) _) hb))
  clear hb hl3
  rw [a5, a6]
  go_wp2_with fail
  have HSP : Hid (SP ((w3.alloc (.cells ((pt bP1).arr ++ (pt bP2).arr) 58)).alloc (.cells #[.string bP1, .string bP2] 9)) (.slice (some ⟨w3.heap.size, 0, none⟩) 2 2) [pt bP1, pt bP2]) := (SP_lit2 w3 (pt bP1) (pt bP2) _ (by kernel_rfl) (by kernel_rfl)).keep (below_alloc (Below.refl _ _) _)
  have hst : SStr ((w3.alloc (.cells ((pt bP1).arr ++ (pt bP2).arr) 58)).alloc (.cells #[.string bP1, .string bP2] 9)) (.slice (some ⟨w3.heap.size + 1, 0, none⟩) 2 2) [bP1, bP2] := by
    have := SStr_lit2 (w3.alloc (.cells ((pt bP1).arr ++ (pt bP2).arr) 58)) bP1 bP2 9
    simpa using this
  have HST := Lib.hid hst
  clear hst
  refine Calls.mono (Offcut_any (.slice (some ⟨w3.heap.size + 1, 0, none⟩) 2 2) (.slice (some ⟨w3.heap.size, 0, none⟩) 2 2) saw0 bar0 [pt bP1, pt bP2] ((w3.alloc (.cells ((pt bP1).arr ++ (pt bP2).arr) 58)).alloc (.cells #[.string bP1, .string bP2] 9)) HST.out HSP.out (by show (6000 : Int) ≤ _; omega)) ?_
  rintro e w4 ⟨rfl, hb⟩
  have hk := ext_trans (below_alloc (below_alloc (Below.refl w3.heap.size w3) _) _) hb
  have HB4 := Lib.hid (HB3.out.trans (hk.mono HB3.out.size))
  have HG4 := Lib.hid (HG3.out.keep hk)
  have HS4 := Lib.hid (HS3.out.keep hk)
  clear hb hk
  rw [a8, a9]
  go_wp2_with fail
  refine (same25_any _ _ [[1, 3], [2, 0]] [[1, 3], [2, 0]] _ (((HG4.out.keep (below_alloc (below_alloc (below_alloc (Below.refl _ _) _) _) _)))) (SS_lit22 w4 1 3 2 0 _ _ _)).mono ?_
  rintro e w5 ⟨rfl, m5, rfl⟩
  have hk5 : Below w4.heap.size w4 ((((w4.alloc (.cells #[.int .i64 1, .int .i64 3] 3)).alloc (.cells #[.int .i64 2, .int .i64 0] 3)).alloc (.cells #[.slice (some ⟨w4.heap.size, 0, none⟩) 2 2, .slice (some ⟨w4.heap.size + 1, 0, none⟩) 2 2] 36)).drewN m5) :=
    below_drewN' (below_alloc (below_alloc (below_alloc (Below.refl _ _) _) _) _) _
  have HB5 := Lib.hid (HB4.out.trans (hk5.mono HB4.out.size))
  have HS5 := Lib.hid (HS4.out.keep hk5)
  rw [decide_eq_true rfl]
  clear hk5
  generalize (((w4.alloc (.cells #[.int .i64 1, .int .i64 3] 3)).alloc (.cells #[.int .i64 2, .int .i64 0] 3)).alloc (.cells #[.slice (some ⟨w4.heap.size, 0, none⟩) 2 2, .slice (some ⟨w4.heap.size + 1, 0, none⟩) 2 2] 36)).drewN m5 = w5 at *
  go_wp2_with fail
  refine (same25_any _ _ [[0, 2], [1, 3]] [[0, 2], [1, 3]] _ (((HS5.out.keep (below_alloc (below_alloc (below_alloc (Below.refl _ _) _) _) _)))) (SS_lit22 w5 0 2 1 3 _ _ _)).mono ?_
  rintro e w6 ⟨rfl, m6, rfl⟩
  have hk6 : Below w5.heap.size w5 ((((w5.alloc (.cells #[.int .i64 0, .int .i64 2] 3)).alloc (.cells #[.int .i64 1, .int .i64 3] 3)).alloc (.cells #[.slice (some ⟨w5.heap.size, 0, none⟩) 2 2, .slice (some ⟨w5.heap.size + 1, 0, none⟩) 2 2] 36)).drewN m6) :=
    below_drewN' (below_alloc (below_alloc (below_alloc (Below.refl _ _) _) _) _) _
  have HB6 := Lib.hid (HB5.out.trans (hk6.mono HB5.out.size))
  rw [decide_eq_true rfl]
  clear hk6
  generalize (((w5.alloc (.cells #[.int .i64 0, .int .i64 2] 3)).alloc (.cells #[.int .i64 1, .int .i64 3] 3)).alloc (.cells #[.slice (some ⟨w5.heap.size, 0, none⟩) 2 2, .slice (some ⟨w5.heap.size + 1, 0, none⟩) 2 2] 36)).drewN m6 = w6 at *
  go_wp2_with fail
  refine (Need_any _ [300, 200, 100] 5 _ (SI_lit w6 [300, 200, 100] _ (by simp))).mono ?_
  rintro e w7 ⟨rfl, m7, rfl⟩
  rw [a7]
  go_wp2_with fail
  go_ret
  exact ⟨rfl, below_drewN' (HB6.out.alloc HB6.out.size _) _⟩
end Go.Proofs.Ytlgepggmgfnneaa
