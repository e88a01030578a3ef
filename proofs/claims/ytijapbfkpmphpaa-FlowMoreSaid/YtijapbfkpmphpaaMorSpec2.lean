/- More minutes of a job at a station: the makespan, in plain Lean. -/
import Derived.Test.YtijapbfkpmphpaaMorSpec
import Derived.Test.YtijapbfkpmphpaaLawE
import Derived.Test.YtijapbfkpmphpaaTab
namespace Go.Proofs.Ytijapbfkpmphpaa

theorem good_check {p : List (List Int)} (h : Good p) : checkE p = 0 := by
  apply checkE_ok
  · have := h.len; omega
  · exact any_ri_false fun j hj => by have := h.st j hj; simp only [long8, decide_eq_false_iff_not]; omega
  · exact any_ri_false fun j hj => by have := h.st j hj; exact badRow_ok (by omega) (by omega)
  · exact any_ri_false fun j hj => any_gi_false fun s hs => by have := h.num j hj s hs; simp only [badNum, Bool.or_eq_false_iff, decide_eq_false_iff_not]; omega

/-- job j has x minutes at station s -/
def moreP (p : List (List Int)) (j s : Nat) (x : Int) : List (List Int) := p.set j ((ri p j).set s x)
theorem moreP_length (p j s x) : (moreP p j s x).length = p.length := by simp [moreP]
theorem moreP_row {p : List (List Int)} {j s : Nat} {x : Int} (hj : j < p.length) (i : Nat) : ri (moreP p j s x) i = if i = j then (ri p j).set s x else ri p i := by
  unfold moreP; rw [ri_set hj]
theorem moreP_len {p : List (List Int)} {j s : Nat} {x : Int} (hj : j < p.length) (i : Nat) : (ri (moreP p j s x) i).length = (ri p i).length := by
  rw [moreP_row hj]
  split
  · rename_i h; subst h; simp
  · rfl
theorem gi_set' {xs : List Int} {i k : Nat} {x : Int} (hi : i < xs.length) : gi (xs.set i x) k = if k = i then x else gi xs k := by
  unfold gi
  rw [List.getD_eq_getElem?_getD, List.getElem?_set]
  by_cases e : i = k
  · subst e; simp [hi]
  · rw [if_neg e, if_neg (fun h => e h.symm), List.getD_eq_getElem?_getD]
theorem moreP_good {p : List (List Int)} {j s : Nat} {x : Int} (h : Good p) (hj : j < p.length) (hs : s < (ri p j).length) (h0 : 0 ≤ x) (h1 : x ≤ 100000) : Good (moreP p j s x) := by
  refine ⟨by rw [moreP_length]; exact h.len, fun i hi => ?_, fun i hi t ht => ?_⟩
  · rw [moreP_length] at hi
    rw [moreP_len hj, moreP_len hj]; exact h.st i hi
  · rw [moreP_length] at hi
    rw [moreP_len hj] at ht
    rw [moreP_row hj]
    split
    · rename_i e; subst e
      rw [gi_set' hs]
      split
      · exact ⟨h0, h1⟩
      · exact h.num i hi t ht
    · exact h.num i hi t ht

theorem more_span {p : List (List Int)} {l : List Int} {j s : Nat} {d : Int} (hg : Good p) (hw : Whole p l) (hj : j < p.length) (hs : s < (ri p j).length) (hd : 0 ≤ d) (h1 : gi (ri p j) s + d ≤ 100000) :
    finishE (moreP p j s (gi (ri p j) s + d)) l = 0 ∧ spanV p l ≤ spanV (moreP p j s (gi (ri p j) s + d)) l ∧ spanV (moreP p j s (gi (ri p j) s + d)) l ≤ spanV p l + d := by
  have hx := (hg.num j hj s hs).1
  have hg' := moreP_good hg hj hs (x := gi (ri p j) s + d) (by omega) h1
  have hw' : Whole (moreP p j s (gi (ri p j) s + d)) l := ⟨by rw [moreP_length]; exact hw.1, by rw [moreP_length]; exact hw.2⟩
  refine ⟨finishE_whole (good_check hg') hw', ?_⟩
  rw [spanV_whole (good_check hg) hw, spanV_whole (good_check hg') hw']
  unfold lenV lastV
  have hll := hw.2
  rw [if_neg (by omega), if_neg (by omega), moreP_len hj]
  have hrow : ∀ k, jobRow (moreP p j s (gi (ri p j) s + d)) l k = if (gi l k).toNat = j then (ri p j).set s (gi (ri p j) s + d) else jobRow p l k := fun k => by
    unfold jobRow; rw [moreP_row hj]
  by_cases hex : ∃ k0, k0 < l.length ∧ (gi l k0).toNat = j
  · obtain ⟨k0, hk0, hkj⟩ := hex
    have := more_tm (p := p) (q := moreP p j s (gi (ri p j) s + d)) (l := l) (n := l.length) (k0 := k0) (s0 := s) hd (fun _ => by
      unfold cst; rw [hrow, if_pos hkj, gi_set' hs, if_pos rfl]; unfold jobRow; rw [hkj]) (fun k t hk hne => by
      unfold cst; rw [hrow]
      by_cases e : (gi l k).toNat = j
      · rw [if_pos e, gi_set' hs]
        have hkk : k = k0 := by
          have hd := rightB_nodup hw.1
          have a := rightB_job hw.1 hk
          have b := rightB_job hw.1 hk0
          have e2 : gi l k = gi l k0 := by omega
          rw [gi_lt hk, gi_lt hk0] at e2
          have hd := List.pairwise_iff_getElem.1 hd
          rcases Nat.lt_trichotomy k k0 with h | h | h
          · exact absurd e2 (hd k k0 hk hk0 h)
          · exact h
          · exact absurd e2.symm (hd k0 k hk0 hk h)
        rw [if_neg (fun h => hne ⟨hkk, h⟩)]
        unfold jobRow; rw [e]
      · rw [if_neg e]) (l.length - 1) (by omega) ((ri p 0).length - 1)
    exact ⟨this.1, this.2.1⟩
  · have := more_tm (p := p) (q := moreP p j s (gi (ri p j) s + d)) (l := l) (n := l.length) (k0 := l.length) (s0 := s) hd (fun h => by omega) (fun k t hk _ => by
      unfold cst; rw [hrow, if_neg (fun e => hex ⟨k, hk, e⟩)]) (l.length - 1) (by omega) ((ri p 0).length - 1)
    exact ⟨this.1, this.2.1⟩
end Go.Proofs.Ytijapbfkpmphpaa
