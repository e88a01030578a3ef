/- Contracts: divide and Best of bars. -/
import Derived.Test.YtlgepggmgfnneaaBarO
import Derived.Test.YtlgepggmgfnneaaBarD
import Derived.Laws.EntriesVeiled
namespace Go.Proofs.Ytlgepggmgfnneaa
open Go.RowKit

/-- what divide leaves -/
def PostDiv (w : World) (l : List Int) (s k : Int) (n : Nat) (e : Ending) (w' : World) : Prop :=
  Below w.heap.size w w' ∧ match dv (s + k) n (ndL l k) [] with
    | some r => ∃ t, e = .returned (.tuple #[t, .bool true]) ∧ SS w' t (rowsN r.1 r.2 l.length)
    | none => ∃ t, e = .returned (.tuple #[t, .bool false])

theorem dv_len {c : Int} {n : Nat} {xs fr : List Int} {r} (h : dv c n xs fr = some r) : r.1.length = xs.length ∧ r.2 ≤ n :=
  ⟨(alls_ge (List.mem_of_find?_eq_some h)).2.2, by simpa using List.find?_some h⟩

theorem push7 {α : Type} (h : Array α) (a b c d e f g : α) : (((((((h.push a).push b).push c).push d).push e).push f).push g)[h.size]? = some a ∧ (((((((h.push a).push b).push c).push d).push e).push f).push g)[h.size + 1]? = some b ∧
    (((((((h.push a).push b).push c).push d).push e).push f).push g)[h.size + 2]? = some c ∧ (((((((h.push a).push b).push c).push d).push e).push f).push g)[h.size + 3]? = some d ∧
    (((((((h.push a).push b).push c).push d).push e).push f).push g)[h.size + 4]? = some e ∧ (((((((h.push a).push b).push c).push d).push e).push f).push g)[h.size + 5]? = some f ∧ (((((((h.push a).push b).push c).push d).push e).push f).push g)[h.size + 6]? = some g := by
  refine ⟨?_, ?_, ?_, ?_, ?_, ?_, ?_⟩
  all_goals simp only [Array.getElem?_push, Array.size_push]
  all_goals repeat (first | rw [if_pos trivial] | rw [if_neg (by omega)])
/-- the world in which the search begins -/
def divW (w : World) (lv : Value) (s k n : Int) : World :=
  ((((((w.alloc (.cells #[lv] 36)).alloc (.cells #[.int .i64 s] 3)).alloc (.cells #[.int .i64 k] 3)).alloc (.cells #[.int .i64 n] 3)).alloc (.cells #[.slice none 0 0] 40)).alloc (.cells #[.slice none 0 0] 36)).alloc (.cells #[divF w.heap.size] 67)
theorem divW_rep (w : World) (lv : Value) (s k n : Int) : RepD (divW w lv s k n) w.heap.size lv s k n (.slice none 0 0) (.slice none 0 0) [] [] [] := by
  have e : (divW w lv s k n).heap = (((((((w.heap.push (.cells #[lv] 36)).push (.cells #[.int .i64 s] 3)).push (.cells #[.int .i64 k] 3)).push (.cells #[.int .i64 n] 3)).push (.cells #[.slice none 0 0] 40)).push (.cells #[.slice none 0 0] 36)).push (.cells #[divF w.heap.size] 67)) := rfl
  have q := push7 w.heap (.cells #[lv] 36) (.cells #[.int .i64 s] 3) (.cells #[.int .i64 k] 3) (.cells #[.int .i64 n] 3) (.cells #[.slice none 0 0] 40) (.cells #[.slice none 0 0] 36) (.cells #[divF w.heap.size] 67)
  rw [← e] at q
  exact ⟨⟨q.1, q.2.1, q.2.2.1, q.2.2.2.1, q.2.2.2.2.1, q.2.2.2.2.2.1, q.2.2.2.2.2.2⟩, Two.nil _ _⟩
theorem divW_below (w : World) (lv : Value) (s k n : Int) : Below w.heap.size w (divW w lv s k n) :=
  (((((((Below.refl _ _).alloc (Nat.le_refl _) _).alloc (by simp) _).alloc (by simp; omega) _).alloc (by simp; omega) _).alloc (by simp; omega) _).alloc (by simp; omega) _).alloc (by simp; omega) _

set_option maxRecDepth 100000 in
set_option maxHeartbeats 4000000 in
theorem divide_any (v : Value) (l : List Int) (s k : Int) (n : Nat) (w : World) (h : SI w v l) (hg : GoodB l s k) (h12 : l.length ≤ 12) (hn : n ≤ 12) :
    Calls Try.prog 42 #[v, .int .i64 s, .int .i64 k, .int .i64 n] w (PostDiv w l s k n) := by
  have hmf : ∀ (fn : Fn) (first cap : Array Value) (w : World), (Instr.makeFunc fn first cap).run Try.prog w = .ok (.func fn first cap) w := fun _ _ _ _ => rfl
  have HST := Lib.hid (divStep_any w w.heap.size v l s k n h (Nat.le_refl _) hg h12 hn l.length [] [] (.slice none 0 0) (.slice none 0 0) [] _ (by simp) (fun j hj => absurd hj (by simp)) (Nat.zero_le _) (fun i hi => absurd hi (by simp)) (divW_below w v s k n) (divW_rep w v s k n))
  have HLE : Hid (∀ r, dv (s + k) n (ndL l k) [] = some r → r.1.length = l.length) := fun r hr => by have := (dv_len hr).1; rwa [ndL_length] at this
  have HB := Lib.hid (divW_below w v s k n)
  obtain ⟨a, cap, rfl, h1, h2, h3⟩ := h
  clear h3 hg
  cases hq : dv (s + k) n (ndL l k) [] with
  | some r =>
    have HL := Lib.hid (HLE.out r hq)
    have HQ := Lib.hid hq
    clear hq
    go_enter Try.func42, Try.ntmps42
    go_wp2_with fail
    refine Calls.mono HST.out ?_
    rintro e w5 ⟨hb, hm⟩
    have hm : match dv (s + k) n (ndL l k) [] with
      | some r => e = .returned (.bool true) ∧ ∃ t fv vs fr', RepD w5 w.heap.size (.slice a l.length cap) s k n t fv (rowsB ([] ++ r.1) r.2) vs fr'
      | none => e = .returned (.bool false) ∧ ∃ t fv vs, RepD w5 w.heap.size (.slice a l.length cap) s k n t fv (rowsB [] 0) vs [] := hm
    rw [HQ.out] at hm
    obtain ⟨rfl, t, fv, vs, fr, hr⟩ := hm
    have HR := Lib.hid hr
    have HB5 := Lib.hid (HB.out.trans hb)
    have c4 := hr.box.c4
    clear hb hr
    go_wp2_with fail
    go_ret2
    refine ⟨HB5.out, ?_⟩
    rw [HQ.out]
    refine ⟨t, rfl, ?_⟩
    have := HR.out.two.tab.ownT.ss
    rw [List.nil_append] at this
    unfold rowsB at this
    rw [HL.out] at this
    exact this
  | none =>
    have HQ := Lib.hid hq
    clear hq
    go_enter Try.func42, Try.ntmps42
    go_wp2_with fail
    refine Calls.mono HST.out ?_
    rintro e w5 ⟨hb, hm⟩
    have hm : match dv (s + k) n (ndL l k) [] with
      | some r => e = .returned (.bool true) ∧ ∃ t fv vs fr', RepD w5 w.heap.size (.slice a l.length cap) s k n t fv (rowsB ([] ++ r.1) r.2) vs fr'
      | none => e = .returned (.bool false) ∧ ∃ t fv vs, RepD w5 w.heap.size (.slice a l.length cap) s k n t fv (rowsB [] 0) vs [] := hm
    rw [HQ.out] at hm
    obtain ⟨rfl, t, fv, vs, hr⟩ := hm
    have HB5 := Lib.hid (HB.out.trans hb)
    have c4 := hr.box.c4
    clear hb hr
    go_wp2_with fail
    go_ret2
    refine ⟨HB5.out, ?_⟩
    rw [HQ.out]
    exact ⟨t, rfl⟩

theorem bestL_good {l : List Int} {s k : Int} (h : bestE l s k = 0) : bestL l s k = bestP l s k := if_pos h
theorem bestL_bad {l : List Int} {s k : Int} (h : bestE l s k ≠ 0) : bestL l s k = [] := if_neg h
theorem dv_least {l : List Int} {s k : Int} : dv (s + k) (leastV l s k) (ndL l k) [] = some (bestR l s k, leastV l s k) := (bestS_first (s + k) (ndL l k)).2.1
theorem least_len (l : List Int) (s k : Int) : leastV l s k ≤ l.length := by have := (bestS_first (s + k) (ndL l k)).1; rwa [ndL_length] at this

set_option maxRecDepth 100000 in
set_option maxHeartbeats 4000000 in
theorem Best_any (v : Value) (l : List Int) (s k : Int) (w : World) (h : SI w v l) :
    Calls Try.prog 23 #[v, .int .i64 s, .int .i64 k] w (RetSE w (bestL l s k) (bestE l s k)) := by
  have H := Lib.hid h
  obtain ⟨a, cap, rfl, h1, h2, h3⟩ := h
  clear h3
  have hm : l.length ≤ 9223372036854775807 := by unfold maxLen at h2; omega
  by_cases hL : 12 < l.length
  · have hL' : decide (12 < (l.length : Int)) = true := by rw [decide_eq_true_eq]; omega
    have HE : Hid (bestE l s k = 13) := if_pos hL
    have HLL : Hid (bestL l s k = []) := bestL_bad (by rw [HE.out]; omega)
    go_enter Try.func23, Try.ntmps23
    go_wp2_with fail
    go_ret2
    exact retSE rfl HE.out.symm (SS_nil _) HLL.out.symm (Below.refl _ _)
  have hL' : decide (12 < (l.length : Int)) = false := by rw [decide_eq_false_iff_not]; omega
  have HE : Hid (bestE l s k = rightE l s k) := if_neg hL
  go_enter Try.func23, Try.ntmps23
  go_wp2_with fail
  refine (Bound_any _ l s k _ H.out).mono ?_
  rintro e w1 ⟨rfl, hb⟩
  have HB := Lib.hid hb
  clear hb
  by_cases hr : rightE l s k = 0
  rotate_left
  · have hb : (rightE l s k != 0) = true := by simpa using hr
    have HLL : Hid (bestL l s k = []) := bestL_bad (by rw [HE.out]; exact hr)
    clear hr
    go_wp2_with fail
    go_ret2
    exact retSE rfl HE.out.symm (SS_nil _) HLL.out.symm HB.out
  have hb : (rightE l s k != 0) = false := by rw [hr]; rfl
  have HG := Lib.hid (rightE_zero.1 hr)
  have HR := Lib.hid hr
  have HLL : Hid (bestL l s k = bestP l s k) := bestL_good (by rw [HE.out]; exact hr)
  have HV : Hid (boundR l s k = boundV l s k) := boundR_good hr
  have hnn := bound_nn HG.out
  have hle := bound_least HG.out
  have hll := least_len l s k
  rw [hr, HV.out]
  clear hr
  obtain ⟨b0, hb0⟩ : ∃ b0 : Nat, boundV l s k = b0 := ⟨(boundV l s k).toNat, by omega⟩
  rw [hb0] at hnn hle ⊢
  clear hb0
  go_wp2_with fail
  go_loopg [8] (l.length + 1 - b0) (fun g i wr => ∃ n : Nat, n ≤ leastV l s k ∧ i = .int .i64 n ∧ g = l.length + 1 - n ∧ Hid (Below w.heap.size w wr))
  case atStart => exact ⟨b0, by omega, rfl, by omega, HB.out⟩
  case round =>
    obtain ⟨n, hn, rfl, rfl, hbw⟩ := hrel
    have HW := Lib.hid (H.out.keep hbw.out)
    have hnl : (n : Int) ≤ (l.length : Int) := by omega
    have HDI := Lib.hid (divide_any _ l s k n wr HW.out HG.out (by omega) (by omega))
    by_cases hlt : n < leastV l s k
    · have HN := Lib.hid (dv_less (c := s + k) (nd := ndL l k) hlt)
      go_wp2_with fail
      refine HDI.out.mono ?_
      rintro e w2 ⟨hb2, hm2⟩
      rw [HN.out] at hm2
      obtain ⟨t, rfl⟩ := hm2
      have HB2 := Lib.hid (hbw.out.trans (hb2.mono hbw.out.size))
      clear hb2
      go_wp2_with fail
      go_roundg (l.length + 1 - (n + 1))
      case measure => omega
      case rel => exact ⟨n + 1, by omega, by go_num, rfl, HB2.out⟩
    · have hnn2 : n = leastV l s k := by omega
      have HN : Hid (dv (s + k) n (ndL l k) [] = some (bestR l s k, leastV l s k)) := by show _ = _; rw [hnn2]; exact dv_least
      clear hnn2
      go_wp2_with fail
      refine HDI.out.mono ?_
      rintro e w2 ⟨hb2, hm2⟩
      rw [HN.out] at hm2
      obtain ⟨t, rfl, hss⟩ := hm2
      have HB2 := Lib.hid (hbw.out.trans (hb2.mono hbw.out.size))
      have HSS := Lib.hid hss
      clear hb2 hss
      go_wp2_with fail
      go_ret2
      exact retSE rfl (by rw [HE.out, HR.out]) HSS.out HLL.out.symm HB2.out
end Go.Proofs.Ytlgepggmgfnneaa
