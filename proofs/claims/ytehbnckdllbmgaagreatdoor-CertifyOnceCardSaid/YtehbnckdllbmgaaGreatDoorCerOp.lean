/- Operations in drawn regions: empty literals, pieces of slices; plain: what is taken out of a list. -/
import Derived.Test.YtehbnckdllbmgaaGreatDoorCerC
import Derived.Test.YtehbnckdllbmgaaGreatDoorCerG
set_option linter.unusedSimpArgs false
set_option linter.unusedVariables false
namespace Go.Proofs.YtehbnckdllbmgaaGreatDoor
open Go.RowKit
section
variable {o : Oper} {a : Act} {w : World} {K : Act → World → Prop} {Q : Exit → Act → World → Prop}
theorem wp_slice0I (ho : o.op = .buildSlice 24 0 #[]) (h : K (a.put o.dst (.slice (some ⟨w.heap.size, 0, none⟩) 0 0)) (w.alloc (.cells #[] 3))) : o.wp Tryz.prog a w K Q := by
  unfold Oper.wp execOp
  simp only [ho]
  generalize a.eval = e at *
  go_simp
  exact h
theorem wp_slice0R (ho : o.op = .buildSlice 22 0 #[]) (h : K (a.put o.dst (.slice (some ⟨w.heap.size, 0, none⟩) 0 0)) (w.alloc (.cells #[] 24))) : o.wp Tryz.prog a w K Q := by
  unfold Oper.wp execOp
  simp only [ho]
  generalize a.eval = e at *
  go_simp
  exact h
theorem vl_toI (x y : Operand) (ho : o.op = .slice 24 x none (some y) none) (b : Option Addr) (n c : Nat) (e : Nat) (hx : a.eval x = .slice b n c) (hy : a.eval y = .int .i64 e) (he : e ≤ c)
    (h : K (a.put o.dst (.slice b e c)) w) : o.wp Tryz.prog a w K Q := by
  have i1 : (e : Int) ≤ c := by omega
  unfold Oper.wp execOp
  simp only [ho]
  generalize a.eval = ev at *
  go_simp
  exact h
theorem vl_fromI (x y : Operand) (ho : o.op = .slice 24 x (some y) none none) (b : Option Addr) (n c : Nat) (e : Nat) (hx : a.eval x = .slice b n c) (hy : a.eval y = .int .i64 e) (he : e ≤ n) (hc : n ≤ c)
    (h0 : c = e → K (a.put o.dst (.slice b (n - e) 0)) w) (h1 : c ≠ e → K (a.put o.dst (.slice (Option.map (fun x => x.add e) b) (n - e) (c - e))) w) : o.wp Tryz.prog a w K Q := by
  have i1 : (e : Int) ≤ n := by omega
  have i2 : (n : Int) ≤ c := by omega
  rcases Nat.eq_or_lt_of_le (Nat.le_trans he hc) with hce | hce
  · have h2 := h0 hce.symm
    obtain rfl : e = n := by omega
    subst hce
    rw [Nat.sub_self] at h2
    clear h0 h1
    unfold Oper.wp execOp
    simp only [ho]
    generalize a.eval = ev at *
    go_simp
    exact h2
  · have h2 := h1 (by omega)
    have i3 : (e : Int) < c := by omega
    have i4 : c ≠ e := by omega
    clear h0 h1
    unfold Oper.wp execOp
    simp only [ho]
    generalize a.eval = ev at *
    go_simp
    exact h2
theorem vl_fromR (x y : Operand) (ho : o.op = .slice 22 x (some y) none none) (b : Option Addr) (n c : Nat) (e : Nat) (hx : a.eval x = .slice b n c) (hy : a.eval y = .int .i64 e) (he : e ≤ n) (hc : n ≤ c)
    (h0 : c = e → K (a.put o.dst (.slice b (n - e) 0)) w) (h1 : c ≠ e → K (a.put o.dst (.slice (Option.map (fun x => x.add e) b) (n - e) (c - e))) w) : o.wp Tryz.prog a w K Q := by
  have i1 : (e : Int) ≤ n := by omega
  have i2 : (n : Int) ≤ c := by omega
  rcases Nat.eq_or_lt_of_le (Nat.le_trans he hc) with hce | hce
  · have h2 := h0 hce.symm
    obtain rfl : e = n := by omega
    subst hce
    rw [Nat.sub_self] at h2
    clear h0 h1
    unfold Oper.wp execOp
    simp only [ho]
    generalize a.eval = ev at *
    go_simp
    exact h2
  · have h2 := h1 (by omega)
    have i3 : (e : Int) < c := by omega
    have i4 : c ≠ e := by omega
    clear h0 h1
    unfold Oper.wp execOp
    simp only [ho]
    generalize a.eval = ev at *
    go_simp
    exact h2
end
theorem SI_zero (w : World) (a : Option Addr) (c : Nat) (h : c ≤ maxLen) : SI w (.slice a 0 c) [] := ⟨a, c, rfl, Nat.zero_le _, h, fun i hi => by simp at hi⟩
theorem SI.nn {w : World} {a : Option Addr} {n c : Nat} {xs : List Int} (h : SI w (.slice a n c) xs) : n = xs.length ∧ n ≤ c ∧ c ≤ maxLen := by
  obtain ⟨a', c', hv, h1, h2, _⟩ := h
  simp only [Value.slice.injEq] at hv
  obtain ⟨rfl, rfl, rfl⟩ := hv
  exact ⟨rfl, h1, h2⟩
theorem SI_from {w : World} {a : Option Addr} {n c : Nat} {xs : List Int} (h : SI w (.slice a n c) xs) {e : Nat} (he : e ≤ n) : SI w (.slice (Option.map (fun x => x.add e) a) (n - e) (c - e)) (xs.drop e) := by
  obtain ⟨hn, hc1, hc⟩ := h.nn
  by_cases h0 : e = n
  · subst h0
    rw [Nat.sub_self, hn, List.drop_length]
    exact SI_zero _ _ _ (by omega)
  · obtain ⟨b, off, cap, hv, _⟩ := h.form (by omega)
    simp only [Value.slice.injEq] at hv
    obtain ⟨rfl, _, rfl⟩ := hv
    have := h.drop e (by omega)
    have e1 : (⟨b, off, none⟩ : Addr).add e = ⟨b, off + e, none⟩ := by unfold Addr.add; split <;> simp_all
    rw [Option.map_some, e1]
    exact this
theorem SI_from0 {w : World} {a : Option Addr} {n c : Nat} {xs : List Int} (h : SI w (.slice a n c) xs) {e : Nat} (he : e ≤ n) (hc : c = e) : SI w (.slice a (n - e) 0) (xs.drop e) := by
  obtain ⟨hn, hc1, _⟩ := h.nn
  obtain rfl : e = n := by omega
  rw [Nat.sub_self, hn, List.drop_length]
  exact SI_zero _ _ _ (Nat.zero_le _)

/-- taking one out of what is left, and behind what is done -/
theorem perm_step {n k : Nat} {od lf : List Int} (h : WholeN n (od ++ lf)) (hk : k < lf.length) : WholeN n ((od ++ [gi lf k]) ++ (lf.take k ++ lf.drop (k + 1))) := by
  have e : lf = lf.take k ++ gi lf k :: lf.drop (k + 1) := by
    rw [gi_lt hk, List.getElem_cons_drop, List.take_append_drop]
  have hp : ((od ++ [gi lf k]) ++ (lf.take k ++ lf.drop (k + 1))).Perm (od ++ lf) := by
    have h1 : (lf.take k ++ gi lf k :: lf.drop (k + 1)).Perm (gi lf k :: (lf.take k ++ lf.drop (k + 1))) := List.perm_middle
    rw [← e] at h1
    rw [List.append_assoc, List.singleton_append]
    exact (List.Perm.append_left od h1).symm
  obtain ⟨h2, h3⟩ := h
  rw [rightB_iff] at h2
  refine ⟨rightB_iff.2 ⟨hp.nodup_iff.2 h2.1, fun x hx => h2.2 x (hp.mem_iff.1 hx)⟩, by rw [hp.length_eq]; exact h3⟩
theorem whole_range (n : Nat) : WholeN n ([] ++ rangeI n) := ⟨right_range n, rangeI_length n⟩
end Go.Proofs.YtehbnckdllbmgaaGreatDoor
