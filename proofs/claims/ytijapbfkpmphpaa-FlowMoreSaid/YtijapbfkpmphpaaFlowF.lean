/- Contracts: flow.last, flow.bound; the reference's last, length, bound. -/
import Derived.Test.YtijapbfkpmphpaaFlowE
namespace Go.Proofs.Ytijapbfkpmphpaa
open Go.RowKit

theorem last_any (v : Value) (t : List (List Int)) (s : Nat) (w : World) (h : SS w v t) (hs : t.length ≠ 0 → s < (ri t (t.length - 1)).length) :
    Calls Try.prog 33 #[v, .int .i64 s] w fun e w' => e = .returned (.int .i64 (lastOf t s)) ∧ ∃ m, w' = w.drewN m := by
  obtain ⟨vs, ⟨a, cap, rfl, h1, h2, h3⟩, h4⟩ := h
  have hm : t.length ≤ 9223372036854775807 := by unfold maxLen at h2; omega
  by_cases h0 : t.length = 0
  · have hf := Lib.hid (show lastOf t s = 0 by simp [lastOf, h0])
    have h0' : ((t.length : Int) == 0) = true := by rw [beq_iff_eq]; omega
    clear h0 h3 h4 hs
    go_enter Try.func33, Try.ntmps33
    go_wp2_with fail
    go_ret
    exact ⟨ret_int hf.out.symm, 0, rfl⟩
  · have hf := Lib.hid (show lastOf t s = gi (ri t (t.length - 1)) s by simp [lastOf, h0])
    have h0' : ((t.length : Int) == 0) = false := by rw [beq_eq_false_iff_ne]; omega
    have hs := hs h0
    have hl1 : t.length - 1 < t.length := by omega
    obtain ⟨b, off, rfl, hc⟩ := h3 (t.length - 1) hl1
    obtain ⟨ak, capk, ek, n1, n2, hrow⟩ := h4 (t.length - 1) hl1
    obtain ⟨b2, off2, rfl, hc2⟩ := hrow s hs
    rw [ek] at hc
    have h01 : 1 ≤ t.length := by omega
    clear h0 h3 h4 ek hrow
    have hsm : s ≤ 9223372036854775807 := by unfold maxLen at n2; omega
    go_enter Try.func33, Try.ntmps33
    go_wp2_with fail
    go_ret
    exact ⟨ret_int hf.out.symm, 0, rfl⟩

theorem rlast_any (v u : Value) (p : List (List Int)) (l : List Int) (s : Nat) (w : World) (h : SS w v p) (g : SI w u l) (hg : Good p) (hl : rightB p.length l = true) (hs : l.length ≠ 0 → s < (ri p 0).length) :
    Calls Try.prog 51 #[v, u, .int .i64 s] w fun e w' => e = .returned (.int .i64 (lastV p l s)) ∧ Below w.heap.size w w' := by
  have hn := rightB_len hl
  have h32 := hg.len
  have H := Lib.hid h; clear h
  have G := Lib.hid g
  obtain ⟨a, cap, rfl, h1, h2, h3⟩ := g
  clear h3
  have hm : l.length ≤ 9223372036854775807 := by omega
  by_cases h0 : l.length = 0
  · have hf := Lib.hid (show lastV p l s = 0 by simp [lastV, h0])
    have h0' : ((l.length : Int) == 0) = true := by rw [beq_iff_eq]; omega
    clear h0
    go_enter Try.func51, Try.ntmps51
    go_wp2_with fail
    go_ret
    exact ⟨ret_int hf.out.symm, Below.refl _ _⟩
  · have h0' : ((l.length : Int) == 0) = false := by rw [beq_eq_false_iff_ne]; omega
    have hs := hs h0
    have h8 := (hg.st 0 (by have := rightB_job hl (show 0 < l.length by omega); omega)).2.1
    have hrl : ∀ k, k < l.length → s < (jobRow p l k).length := fun k hk => by rw [jobRow_st hg hl hk]; exact hs
    have hf := Lib.hid (lastOf_times hrl)
    have hlr : (ri (timesL p l) (l.length - 1)).length = (jobRow p l (l.length - 1)).length := by rw [timesL_ri (by omega), rowL_length]
    have hsl : s < (ri (timesL p l) (l.length - 1)).length := by rw [hlr]; exact hrl _ (by omega)
    have h01 : 1 ≤ l.length := by omega
    have HG := Lib.hid hg
    have HL := Lib.hid hl
    have HR := Lib.hid hsl
    clear h0 hrl hlr hsl hg hl
    go_enter Try.func51, Try.ntmps51
    go_wp2_with fail
    refine (times_any _ _ p l w H.out G.out HG.out HL.out (by omega)).mono ?_
    rintro e w1 ⟨vt, rfl, hst, hb1⟩
    obtain ⟨vs, ⟨at', capt, rfl, t1, t2, t3⟩, t4⟩ := hst
    have hl1 : l.length - 1 < (timesL p l).length := by rw [timesL_length]; omega
    obtain ⟨b, off, rfl, hc⟩ := t3 (l.length - 1) hl1
    obtain ⟨ak, capk, ek, n1, n2, hrow⟩ := t4 (l.length - 1) hl1
    obtain ⟨b2, off2, rfl, hc2⟩ := hrow s HR.out
    rw [ek] at hc
    clear t3 t4 ek hrow hl1
    have hsr := HR.out
    have hv : gi (ri (timesL p l) (l.length - 1)) s = lastV p l s := by
      rw [← hf.out, lastOf, if_neg (by rw [timesL_length]; omega), timesL_length]
    have HV := Lib.hid hv
    clear hv
    rw [timesL_length] at t1 ⊢
    generalize ri (timesL p l) (l.length - 1) = row at *
    go_wp2_with fail
    go_ret
    exact ⟨ret_int HV.out, hb1⟩
end Go.Proofs.Ytijapbfkpmphpaa
