/- Contract: the law's permutation. -/
import Derived.Test.YtijapbfkpmphpaaFlowJ
namespace Go.Proofs.Ytijapbfkpmphpaa
open Go.RowKit

theorem Try_infoBool : (Try.prog.info? 4).map (fun i => (i.zero, i.size, i.bytes)) = some (some (.bool false), 1, 1) := by kernel_rfl
def seenB (l : List Int) (k : Nat) (x : Int) : Bool := (l.take k).any fun y => x == y
def seenL (l : List Int) (k n : Nat) : List Value := (List.range n).map fun (i : Nat) => .bool (seenB l k (i : Int))
theorem seenL_zero (l : List Int) (n : Nat) : seenL l 0 n = (madeCells #[Value.bool false] n).toList := by
  rw [toList_madeCells_one]
  apply List.ext_getElem
  · simp [seenL]
  · intro i h1 h2; simp [seenL, seenB]
theorem seenL_get (l : List Int) (k : Nat) {n x : Nat} (h : x < n) : (seenL l k n)[x]? = some (.bool (seenB l k x)) := by simp [seenL, h]
theorem seenL_set (l : List Int) {k : Nat} (n x : Nat) (hk : k < l.length) (hx : gi l k = x) : (seenL l k n).set x (.bool true) = seenL l (k + 1) n := by
  apply List.ext_getElem
  · simp [seenL]
  · intro i h1 h2
    rw [List.getElem_set]
    simp only [seenL, List.getElem_map, List.getElem_range, seenB]
    rw [take_succ_gi hk, List.any_append, hx]
    split
    · rename_i e; subst e; simp
    · rename_i e
      have : ((i : Int) == (x : Int)) = false := by rw [beq_eq_false_iff_ne]; omega
      simp [this]

/-- a permutation of n jobs, n at most 60 -/
def permB (l : List Int) (n : Nat) : Bool := decide (l.length = n) && decide (n ≤ 60) && rightB n l

set_option maxHeartbeats 1000000 in
theorem permutation_any (u : Value) (l : List Int) (n : Nat) (w : World) (g : SI w u l) :
    Calls Try.prog 26 #[u, .int .i64 n] w fun e w' => e = .returned (.bool (permB l n)) ∧ Below w.heap.size w w' := by
  obtain ⟨a, cap, rfl, h1, h2, h3⟩ := g
  have H3 := Lib.hid h3
  clear h3
  have hm : l.length ≤ 9223372036854775807 := by unfold maxLen at h2; omega
  by_cases c0 : l.length = n
  rotate_left
  · have hb : ((l.length : Int) != (n : Int)) = true := by rw [bne_iff_ne]; omega
    have hf := Lib.hid (show permB l n = false by simp [permB, c0])
    clear c0
    go_enter Try.func26, Try.ntmps26
    go_wp2_with fail
    go_ret
    exact ⟨ret_bool hf.out.symm, Below.refl _ _⟩
  have hb : ((l.length : Int) != (n : Int)) = false := by rw [bne_eq_false_iff_eq]; omega
  by_cases c1 : n ≤ 60
  rotate_left
  · have hb1 : decide (60 < (n : Int)) = true := by rw [decide_eq_true_eq]; omega
    have hf := Lib.hid (show permB l n = false by simp [permB, c1])
    clear c0 c1
    go_enter Try.func26, Try.ntmps26
    go_wp2_with fail
    go_ret
    exact ⟨ret_bool hf.out.symm, Below.refl _ _⟩
  have hb1 : decide (60 < (n : Int)) = false := by rw [decide_eq_false_iff_not]; omega
  have hf := Lib.hid (show permB l n = rightB n l by simp [permB, c0, c1])
  obtain ⟨iB, hi, hz0, hz1, hz2⟩ := info_parts Try_infoBool
  have HI := Lib.hid hi; have HZ0 := Lib.hid hz0; have HZ1 := Lib.hid hz1; have HZ2 := Lib.hid hz2
  clear hi hz0 hz1 hz2
  have hln : l.length ≤ n := by omega
  have hnl : n ≤ l.length := by omega
  clear c0
  go_enter Try.func26, Try.ntmps26
  go_wp2_with (at_make; refine wpList_make_full _ rfl _ _ 61 rfl w.heap.size 4 iB (.bool false) 1 Try.underlying61 HI.out HZ0.out HZ1.out _ _ _ _ n rfl rfl rfl rfl ?c1 ?c2 (Nat.le_refl _) ?_)
  case c1 => rw [HZ2.out]; omega
  case c2 => unfold maxLen; omega
  intro w1 hown1 hgrow1
  rw [← seenL_zero l] at hown1
  have HO1 := Lib.hid hown1; clear hown1
  have HB1 := Lib.hid (grownBy_below hgrow1); clear hgrow1
  go_wp2_with fail
  go_loopw [6] (fun i wr => ∃ k : Nat, k ≤ l.length ∧ i = .int .i64 k ∧ Hid (Below w.heap.size w wr) ∧ Hid (wr.ownsRow w.heap.size 4 1 (.slice (some ⟨w.heap.size, 0, none⟩) n n) n (seenL l k n)) ∧ Hid (∀ j, j < k → badJob n l j = false)) (fun i _ => l.length - (intOf i).toNat)
  case atStart => exact ⟨0, Nat.zero_le _, rfl, HB1, HO1, fun j hj => by omega⟩
  case round =>
    obtain ⟨k, hk, rfl, hbel, ho, hj⟩ := hrel
    by_cases hlt : k < l.length
    · obtain ⟨b, off, ha, hc⟩ := H3.out k hlt
      have hc := cell_keep hbel.out hc
      rw [ha]
      have E0 : Hid (badJob n l k = (decide (gi l k < 0) || decide ((n : Int) ≤ gi l k) || seenB l k (gi l k))) := rfl
      by_cases d1 : gi l k < 0
      · have D1 : decide (gi l k < 0) = true := by simpa using d1
        have hr := Lib.hid (rightB_bad hlt (show badJob n l k = true by rw [E0.out, D1]; rfl))
        go_wp2_with fail
        go_ret
        exact ⟨ret_bool (by rw [hf.out, hr.out]), hbel.out⟩
      have D1 : decide (gi l k < 0) = false := by simpa using d1
      by_cases d2 : (n : Int) ≤ gi l k
      · have D2 : decide ((n : Int) ≤ gi l k) = true := by simpa using d2
        have hr := Lib.hid (rightB_bad hlt (show badJob n l k = true by rw [E0.out, D2]; simp))
        go_wp2_with fail
        go_ret
        exact ⟨ret_bool (by rw [hf.out, hr.out]), hbel.out⟩
      have D2 : decide ((n : Int) ≤ gi l k) = false := by simpa using d2
      have E1 : Hid (badJob n l k = seenB l k (gi l k)) := by show badJob n l k = _; rw [E0.out, D1, D2]; rfl
      obtain ⟨x, hx⟩ := Int.eq_ofNat_of_zero_le (show 0 ≤ gi l k by omega)
      have HX := Lib.hid hx
      have hxn : x < n := by omega
      rw [hx] at hc D1 D2 E1
      clear hx d1 d2 E0
      have hsc := ho.out.cellAt x (by omega)
      rw [seenL_get _ _ hxn] at hsc
      have hfz := ho.out.frozenAt x
      cases hs : seenB l k x
      · rw [hs] at hsc E1
        clear hs
        go_wp2_with fail
        go_roundw
        case rel =>
          refine ⟨k + 1, by omega, by go_num, hbel.out.setCell (Nat.le_refl _) _, ?_, upto hj.out E1.out⟩
          rw [← seenL_set l n x hlt HX.out]
          exact (ho.out.stored x _).1
        case measure => simp [intOf]; omega
      · rw [hs] at hsc E1
        clear hs
        have hr := Lib.hid (rightB_bad hlt E1.out)
        go_wp2_with fail
        go_ret
        exact ⟨ret_bool (by rw [hf.out, hr.out]), hbel.out⟩
    · have hr := Lib.hid (rightB_good (n := n) (fun j h => hj.out j (by omega)))
      go_wp2_with fail
      go_ret
      exact ⟨ret_bool (by rw [hf.out, hr.out]), hbel.out⟩
end Go.Proofs.Ytijapbfkpmphpaa
