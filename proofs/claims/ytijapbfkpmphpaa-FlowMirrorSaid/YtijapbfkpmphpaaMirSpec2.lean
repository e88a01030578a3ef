/- The mirrored shop has the same makespans, in plain Lean. -/
import Derived.Test.YtijapbfkpmphpaaMorSpec
import Derived.Test.YtijapbfkpmphpaaOptSpec
namespace Go.Proofs.Ytijapbfkpmphpaa

theorem gi_reverse {xs : List Int} {k : Nat} (h : k < xs.length) : gi xs.reverse (xs.length - 1 - k) = gi xs k := by
  rw [gi_lt (by simp; omega), gi_lt h, List.getElem_reverse]
  congr 1
  omega
theorem ri_map {rs : List (List Int)} {f : List Int → List Int} {k : Nat} (h : k < rs.length) : ri (rs.map f) k = f (ri rs k) := by
  rw [ri_lt (by simpa using h), ri_lt h]; simp
theorem rightB_of {n : Nat} {l : List Int} (hd : l.Nodup) (hr : ∀ x ∈ l, 0 ≤ x ∧ x < n) : rightB n l = true := by
  apply rightB_good
  intro k hk
  have h1 := hr _ (gi_mem hk)
  simp only [badJob, Bool.or_eq_false_iff, decide_eq_false_iff_not]
  refine ⟨⟨by omega, by omega⟩, ?_⟩
  rw [List.any_eq_false]
  intro y hy
  rw [← List.take_append_drop k l, List.nodup_append] at hd
  have hm : gi l k ∈ l.drop k := by
    have : gi (l.drop k) 0 = gi l k := by rw [gi_drop, Nat.add_zero]
    rw [← this]; exact gi_mem (by simp; omega)
  have := hd.2.2 y hy _ hm
  simpa using fun h => this h.symm
theorem whole_reverse {p q : List (List Int)} {l : List Int} (h : Whole p l) (hq : q.length = p.length) : Whole q l.reverse := by
  refine ⟨?_, by rw [List.length_reverse, h.2, hq]⟩
  rw [hq]
  exact rightB_of ((List.reverse_perm l).nodup_iff.2 (rightB_nodup h.1)) fun x hx => by
    obtain ⟨k, hk, rfl⟩ := mem_gi (List.mem_reverse.1 hx)
    have := rightB_job h.1 hk; omega
theorem any_map_rev (p : List (List Int)) (f g : List Int → Bool) (h : ∀ r, f r.reverse = g r) : (p.map List.reverse).any f = p.any g := by
  rw [List.any_map]; congr 1; funext r; exact h r
theorem checkE_rev (p : List (List Int)) : checkE (p.map List.reverse) = checkE p := by
  have h0 : (ri (p.map List.reverse) 0).length = (ri p 0).length := by
    by_cases h : 0 < p.length
    · rw [ri_map h, List.length_reverse]
    · have : p = [] := List.eq_nil_of_length_eq_zero (by omega)
      subst this; rfl
  unfold checkE
  rw [List.length_map, h0, any_map_rev p long8 long8 (fun r => by simp [long8]), any_map_rev p (badRow (ri p 0).length) (badRow (ri p 0).length) (fun r => by simp [badRow]),
    any_map_rev p (fun r => r.any badNum) (fun r => r.any badNum) (fun r => by simp)]
theorem lenV_rev {p : List (List Int)} {l : List Int} (hg : Good p) (hw : Whole p l) : lenV (p.map List.reverse) l.reverse = lenV p l := by
  by_cases e : p.length = 0
  · have h1 : p = [] := List.eq_nil_of_length_eq_zero e
    have h2 : l = [] := List.eq_nil_of_length_eq_zero (by rw [hw.2, e])
    subst h1 h2; rfl
  · have hst := hg.st 0 (by omega)
    have hll := hw.2
    have hr0 : (ri (p.map List.reverse) 0).length = (ri p 0).length := by rw [ri_map (by omega), List.length_reverse]
    have hrow : ∀ k, k < l.length → (jobRow p l k).length = (ri p 0).length := fun k hk => jobRow_st hg hw.1 hk
    unfold lenV lastV
    rw [if_neg (by rw [List.length_reverse]; omega), if_neg (by omega), List.length_reverse, hr0]
    refine (mirror_tm (n := l.length) (m := (ri p 0).length) (fun k hk s hs => ?_) (by omega) (by omega) (fun k s hk hs => ?_)).symm
    · have hj := rightB_job hw.1 hk
      exact (hg.num _ hj.2.2 s (by have := hrow k hk; unfold jobRow at this; omega)).1
    · have hj := rightB_job hw.1 (show k < l.length by omega)
      have hrk := hrow k (by omega)
      unfold cst jobRow at *
      rw [gi_reverse (by omega), ri_map hj.2.2, ← hrk, gi_reverse (by omega)]
theorem span_rev {p : List (List Int)} {l : List Int} (hw : Whole p l) : finishE (p.map List.reverse) l.reverse = finishE p l ∧ spanV (p.map List.reverse) l.reverse = spanV p l := by
  have hw' : Whole (p.map List.reverse) l.reverse := whole_reverse hw (by simp)
  have hc := checkE_rev p
  have e1 : finishE (p.map List.reverse) l.reverse = finishE p l := by
    unfold finishE; rw [hc, hw.1, hw.2, hw'.1, hw'.2]; simp
  refine ⟨e1, ?_⟩
  unfold spanV
  rw [e1]
  split
  · rename_i h
    have hc0 : checkE p = 0 := by
      unfold finishE at h
      by_cases hc0 : checkE p = 0
      · exact hc0
      · rw [if_pos hc0] at h; exact h
    exact lenV_rev (checkE_zero hc0) hw
  · rfl
end Go.Proofs.Ytijapbfkpmphpaa
