/- The sums that the program and the reference make, in plain Lean. -/
import Derived.Test.YtbjnpiaooehmjaaDoorCalSpec2
namespace Go.Proofs.YtbjnpiaooehmjaaDoor

/-- before, by shifts -/
theorem bef_eq {sh : List Sp} {cl : List Int} (h1 : OkS 0 sh) (h2 : OkC (-1) cl) (t : Nat) : ((t / 168 : Nat) : Int) * shf sh 168 + shf sh ((t % 168 : Nat) : Int) - (cl.map (lost sh t)).sum = befN sh cl t := by
  unfold befN
  rw [cnt_wk sh t cl (-1) h2, cnt_time, shf_cnt h1 (t % 168), show (168 : Int) = ((168 : Nat) : Int) from rfl, shf_cnt h1 168]
  simp
theorem lost_shf {sh : List Sp} (h1 : OkS 0 sh) {t d : Nat} (h : 24 * d < t) : lost sh t d = shf sh (((24 * d) % 168 + (min (24 * d + 24) t - 24 * d) : Nat) : Int) - shf sh (((24 * d) % 168 : Nat) : Int) := by
  unfold lost
  rw [if_pos (by omega), Int.toNat_natCast, shf_cnt h1, shf_cnt h1]
  have := cnt_day sh d (min (24 * d + 24) t) (by omega) (by omega)
  have hm := cnt_mono (hW sh) (show (24 * d) % 168 ≤ (24 * d) % 168 + (min (24 * d + 24) t - 24 * d) by omega)
  omega
theorem lost_none {sh : List Sp} {t : Nat} {d : Int} (h : (t : Int) ≤ 24 * d) : lost sh t d = 0 := by unfold lost; rw [if_neg (by omega)]
theorem shf_bound {sh : List Sp} (h1 : OkS 0 sh) (h : Nat) : 0 ≤ shf sh h ∧ shf sh h ≤ h := by
  rw [shf_cnt h1]; have := cnt_le (hW sh) h; omega

/-- the hours of a day from one to another one -/
def hoursN (sh : List Sp) (cl : List Int) (d f u : Nat) : Nat := if clD cl d then 0 else cnt (fun i => fW sh (24 * d + f + i)) (u - f)
theorem hoursN_wk {sh : List Sp} {cl : List Int} {d f u : Nat} (h : f ≤ u) (hu : u ≤ 24) : befN sh cl (24 * d + u) = befN sh cl (24 * d + f) + hoursN sh cl d f u := by
  unfold befN hoursN
  rw [show 24 * d + u = (24 * d + f) + (u - f) by omega, cnt_add]
  congr 1
  have hd : ∀ i, i < u - f → (24 * d + f + i) / 24 = d := fun i hi => by omega
  cases hc : clD cl d
  · rw [if_neg (by simp)]
    apply cnt_congr
    intro i hi
    unfold wk
    rw [hd i hi, hc]; simp
  · rw [if_pos rfl]
    have : cnt (fun i => wk sh cl (24 * d + f + i)) (u - f) = cnt (fun _ => false) (u - f) := cnt_congr fun i hi => by
      unfold wk
      rw [hd i hi, hc]; simp
    rw [this]
    have : ∀ n, cnt (fun _ => false) n = 0 := by
      intro n; induction n with
      | zero => rfl
      | succ n ih => rw [cnt, ih]; rfl
    exact this _
theorem hoursN_none {sh : List Sp} {cl : List Int} {d f u : Nat} (h : u ≤ f) : hoursN sh cl d f u = 0 := by
  unfold hoursN
  rw [show u - f = 0 by omega]
  split <;> rfl
theorem hoursN_le {sh : List Sp} {cl : List Int} {d f u : Nat} : hoursN sh cl d f u ≤ u - f := by
  unfold hoursN
  split
  · omega
  · exact cnt_le _ _
/-- a whole day's hours, if it is not closed -/
def weekN (sh : List Sp) (d : Nat) : Nat := hoursN sh [] d 0 24
theorem weekN_day {sh : List Sp} {cl : List Int} {d : Nat} (h : clD cl d = false) : hoursN sh cl d 0 24 = weekN sh (d % 7) := by
  unfold weekN hoursN
  rw [h, if_neg (by simp), if_neg (by unfold clD; simp)]
  apply cnt_congr
  intro i hi
  unfold fW
  congr 1
  omega
/-- where the sum over days stands -/
def posN (f u d : Nat) : Nat := max f (min (24 * d) u)
theorem sum_step {sh : List Sp} {cl : List Int} {f u d : Nat} (hfu : f ≤ u) (hd : f / 24 ≤ d) (hu : 24 * d < u) : befN sh cl (posN f u (d + 1)) = befN sh cl (posN f u d) + hoursN sh cl d (f - 24 * d) (min (u - 24 * d) 24) := by
  unfold posN
  by_cases h : f - 24 * d ≤ min (u - 24 * d) 24
  · have := hoursN_wk (sh := sh) (cl := cl) (d := d) h (by omega)
    rw [show max f (min (24 * (d + 1)) u) = 24 * d + min (u - 24 * d) 24 by omega, show max f (min (24 * d) u) = 24 * d + (f - 24 * d) by omega]
    exact this
  · omega
/-- where the reference reaches so many hours: the hour before it -/
def reachO (sh : List Sp) (cl : List Int) (s : Nat) (h : Int) : Option Nat := firstN (fun t => decide ((befN sh cl (t + 1) : Int) - befN sh cl s = h)) s (1048577 - s)
theorem reach_next {sh : List Sp} {cl : List Int} {s : Nat} (hs : s ≤ 1048576) : reachO sh cl s 1 = nextO sh cl s := by
  cases e : nextO sh cl s with
  | none =>
    have hn := firstN_none e
    refine firstN_no fun j h1 h2 => ?_
    rw [decide_eq_false_iff_not, bef_same (show s ≤ j + 1 by omega) fun i g1 g2 => hn i g1 (by omega)]
    omega
  | some t =>
    obtain ⟨h1, h2, h3, h4⟩ := firstN_some e
    have hz := bef_same (sh := sh) (cl := cl) h1 h4
    have hn : befN sh cl (t + 1) = befN sh cl t + 1 := by unfold befN; rw [cnt, h3, if_pos rfl]
    refine firstN_at h1 h2 (by rw [decide_eq_true_eq]; omega) fun j g1 g2 => ?_
    rw [decide_eq_false_iff_not, bef_same (show s ≤ j + 1 by omega) fun i k1 k2 => h4 i k1 (by omega)]
    omega
theorem bef_succ (sh : List Sp) (cl : List Int) (t : Nat) : befN sh cl (t + 1) = befN sh cl t + if wk sh cl t then 1 else 0 := by unfold befN; rw [cnt]
theorem reach_add {sh : List Sp} {cl : List Int} {s : Nat} {h : Int} (hs : s ≤ 1048576) (hh : 0 < h) : addO sh cl s h = match reachO sh cl s h with
    | some t => if t < 1048576 then some (t + 1) else none
    | none => none := by
  cases e : reachO sh cl s h with
  | none =>
    dsimp only
    have hn := firstN_none e
    cases e2 : addO sh cl s h with
    | none => rfl
    | some t =>
      obtain ⟨h1, h2, h3, h4⟩ := addO_some (by omega) e2
      have h5 := h4 hh
      have := hn (t - 1) (by omega) (by omega)
      rw [decide_eq_false_iff_not, show t - 1 + 1 = t by omega] at this
      omega
  | some t =>
    dsimp only
    obtain ⟨h1, h2, h3, h4⟩ := firstN_some e
    rw [decide_eq_true_eq] at h3
    have hlt : (befN sh cl t : Int) - befN sh cl s < h := by
      by_cases g : s = t
      · subst g; omega
      · have := h4 (t - 1) (by omega) (by omega)
        rw [decide_eq_false_iff_not, show t - 1 + 1 = t by omega] at this
        have := cnt_mono (wk sh cl) (show t ≤ t + 1 by omega)
        have e2 := bef_succ sh cl t
        unfold befN at *
        split at e2 <;> omega
    by_cases ht : t < 1048576
    · rw [if_pos ht]
      exact addO_at (by omega) (by omega) (by omega) (.inr (by rw [Nat.add_sub_cancel]; exact hlt))
    · rw [if_neg ht, addO_none hs]
      have := btw_at (sh := sh) (cl := cl) hs (by omega)
      rw [show ((1048576 : Nat) : Int) = 1048576 from rfl] at this
      rw [this, show 1048576 = t by omega]
      exact hlt
theorem add_many {sh : List Sp} {cl : List Int} {s : Nat} {h : Int} (hs : s ≤ 1048576) (hh : 1048576 < h) : addO sh cl s h = none := by
  rw [addO_none hs]
  have := btw_at (sh := sh) (cl := cl) hs (by omega)
  rw [show ((1048576 : Nat) : Int) = 1048576 from rfl] at this
  have := cnt_le (wk sh cl) 1048576
  unfold befN at *
  omega
end Go.Proofs.YtbjnpiaooehmjaaDoor
