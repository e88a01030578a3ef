/- Contracts: Finish, Makespan, Bound of flow and of the reference. -/
import Derived.Test.YtijapbfkpmphpaaFlowG
namespace Go.Proofs.Ytijapbfkpmphpaa
open Go.RowKit

theorem finishE_bad {p : List (List Int)} {l : List Int} (h : checkE p ≠ 0) : finishE p l = checkE p := by simp [finishE, h]
theorem finishE_arg {p : List (List Int)} {l : List Int} (h : checkE p = 0) (h2 : l.length ≠ p.length ∨ rightB p.length l = false) : finishE p l = 2 := by unfold finishE; rw [if_neg (by simp [h]), if_pos h2]
theorem finishE_ok {p : List (List Int)} {l : List Int} (h : checkE p = 0) (h1 : l.length = p.length) (h2 : rightB p.length l = true) : finishE p l = 0 := by simp [finishE, h, h1, h2]
theorem finishE_zero {p : List (List Int)} {l : List Int} (h : finishE p l = 0) : checkE p = 0 ∧ l.length = p.length ∧ rightB p.length l = true := by
  by_cases h0 : checkE p = 0
  · by_cases h1 : l.length ≠ p.length ∨ rightB p.length l = false
    · rw [finishE_arg h0 h1] at h; simp at h
    · refine ⟨h0, ?_, ?_⟩
      · exact Decidable.not_not.1 (fun e => h1 (.inl e))
      · exact Bool.not_eq_false _ ▸ fun e => h1 (.inr e)
  · rw [finishE_bad h0] at h; exact absurd h h0
theorem finishV_err {p : List (List Int)} {l : List Int} (h : finishE p l ≠ 0) : finishV p l = [] := by simp [finishV, h]
theorem finishV_ok {p : List (List Int)} {l : List Int} (h : finishE p l = 0) : finishV p l = timesL p l := by simp [finishV, h]

set_option maxHeartbeats 400000 in
theorem Finish_any (v u : Value) (p : List (List Int)) (l : List Int) (w : World) (h : SS w v p) (g : SI w u l) :
    Calls Try.prog 14 #[v, u] w (RetSE w (finishV p l) (finishE p l)) := by
  have H := Lib.hid h
  have G := Lib.hid g
  obtain ⟨vs, ⟨a, cap, rfl, h1, h2, h3⟩, h4⟩ := h
  obtain ⟨a', cap', rfl, g1, g2, g3⟩ := g
  clear h3 h4 g3
  have hm : p.length ≤ 9223372036854775807 := by unfold maxLen at h2; omega
  have hm' : l.length ≤ 9223372036854775807 := by unfold maxLen at g2; omega
  go_enter Try.func14, Try.ntmps14
  go_wp2_with fail
  refine (check_any _ p w H.out).mono ?_
  rintro e w1 ⟨rfl, m1, rfl⟩
  by_cases c0 : checkE p = 0
  rotate_left
  · have hE := Lib.hid (finishE_bad (l := l) c0)
    have hV := Lib.hid (finishV_err (show finishE p l ≠ 0 by rw [hE.out]; exact c0))
    have hb : (checkE p != 0) = true := by simpa using c0
    clear c0
    go_wp2_with fail
    go_ret2
    exact retSE rfl hE.out.symm (SS_nil _) hV.out.symm (below_drewN' (Below.refl _ _) _)
  have hb : (checkE p != 0) = false := by simpa using c0
  have C0 := Lib.hid c0
  clear c0
  by_cases c1 : l.length = p.length
  rotate_left
  · have hE := Lib.hid (finishE_arg C0.out (.inl c1))
    have hV := Lib.hid (finishV_err (show finishE p l ≠ 0 by rw [hE.out]; decide))
    have hb1 : ((l.length : Int) != (p.length : Int)) = true := by rw [bne_iff_ne]; omega
    clear c1
    go_wp2_with fail
    go_ret2
    exact retSE rfl hE.out.symm (SS_nil _) hV.out.symm (below_drewN' (Below.refl _ _) _)
  have hb1 : ((l.length : Int) != (p.length : Int)) = false := by rw [bne_eq_false_iff_eq]; omega
  have C1 := Lib.hid c1
  clear c1
  go_wp2_with fail
  refine (right_any _ _ p l _ (H.out.drewN _) (G.out.drewN _)).mono ?_
  rintro e w1 ⟨rfl, m2, rfl⟩
  cases c2 : rightB p.length l
  · have hE := Lib.hid (finishE_arg C0.out (.inr c2))
    have hV := Lib.hid (finishV_err (show finishE p l ≠ 0 by rw [hE.out]; decide))
    clear c2
    go_wp2_with fail
    go_ret2
    exact retSE rfl hE.out.symm (SS_nil _) hV.out.symm (below_drewN' (Below.refl _ _) _)
  · have hE := Lib.hid (finishE_ok C0.out C1.out c2)
    have hV := Lib.hid (finishV_ok hE.out)
    have hg := Lib.hid (checkE_zero C0.out)
    have C2 := Lib.hid c2
    clear c2
    go_wp2_with fail
    refine (finish_any _ _ p l _ (H.out.drewN _) (G.out.drewN _) hg.out C2.out (by have := hg.out.len; have := C1.out; omega)).mono ?_
    rintro e w2 ⟨vt, rfl, hst, hb2⟩
    go_wp2_with fail
    go_ret2
    exact retSE rfl hE.out.symm hst hV.out.symm ((below_drewN' (Below.refl _ _) _).trans hb2)

set_option maxHeartbeats 400000 in
theorem rFinish_any (v u : Value) (p : List (List Int)) (l : List Int) (w : World) (h : SS w v p) (g : SI w u l) :
    Calls Try.prog 15 #[v, u] w (RetSE w (finishV p l) (finishE p l)) := by
  have H := Lib.hid h
  have G := Lib.hid g
  obtain ⟨vs, ⟨a, cap, rfl, h1, h2, h3⟩, h4⟩ := h
  obtain ⟨a', cap', rfl, g1, g2, g3⟩ := g
  clear h3 h4 g3
  have hm : p.length ≤ 9223372036854775807 := by unfold maxLen at h2; omega
  have hm' : l.length ≤ 9223372036854775807 := by unfold maxLen at g2; omega
  go_enter Try.func15, Try.ntmps15
  go_wp2_with fail
  refine (shop_any _ p w H.out).mono ?_
  rintro e w1 ⟨rfl, m1, rfl⟩
  by_cases c0 : checkE p = 0
  rotate_left
  · have hE := Lib.hid (finishE_bad (l := l) c0)
    have hV := Lib.hid (finishV_err (show finishE p l ≠ 0 by rw [hE.out]; exact c0))
    have hb : (checkE p != 0) = true := by simpa using c0
    clear c0
    go_wp2_with fail
    go_ret2
    exact retSE rfl hE.out.symm (SS_nil _) hV.out.symm (below_drewN' (Below.refl _ _) _)
  have hb : (checkE p != 0) = false := by simpa using c0
  have C0 := Lib.hid c0
  clear c0
  by_cases c1 : l.length = p.length
  rotate_left
  · have hE := Lib.hid (finishE_arg C0.out (.inl c1))
    have hV := Lib.hid (finishV_err (show finishE p l ≠ 0 by rw [hE.out]; decide))
    have hb1 : ((l.length : Int) != (p.length : Int)) = true := by rw [bne_iff_ne]; omega
    clear c1
    go_wp2_with fail
    go_ret2
    exact retSE rfl hE.out.symm (SS_nil _) hV.out.symm (below_drewN' (Below.refl _ _) _)
  have hb1 : ((l.length : Int) != (p.length : Int)) = false := by rw [bne_eq_false_iff_eq]; omega
  have C1 := Lib.hid c1
  clear c1
  go_wp2_with fail
  refine (distinct_any _ _ p l _ (H.out.drewN _) (G.out.drewN _)).mono ?_
  rintro e w1 ⟨rfl, m2, rfl⟩
  cases c2 : rightB p.length l
  · have hE := Lib.hid (finishE_arg C0.out (.inr c2))
    have hV := Lib.hid (finishV_err (show finishE p l ≠ 0 by rw [hE.out]; decide))
    clear c2
    go_wp2_with fail
    go_ret2
    exact retSE rfl hE.out.symm (SS_nil _) hV.out.symm (below_drewN' (Below.refl _ _) _)
  · have hE := Lib.hid (finishE_ok C0.out C1.out c2)
    have hV := Lib.hid (finishV_ok hE.out)
    have hg := Lib.hid (checkE_zero C0.out)
    have C2 := Lib.hid c2
    clear c2
    go_wp2_with fail
    refine (times_any _ _ p l _ (H.out.drewN _) (G.out.drewN _) hg.out C2.out (by have := hg.out.len; have := C1.out; omega)).mono ?_
    rintro e w2 ⟨vt, rfl, hst, hb2⟩
    go_wp2_with fail
    go_ret2
    exact retSE rfl hE.out.symm hst hV.out.symm ((below_drewN' (Below.refl _ _) _).trans hb2)

theorem rlength_any (v u : Value) (p : List (List Int)) (l : List Int) (w : World) (h : SS w v p) (g : SI w u l) (hg : Good p) (hl : rightB p.length l = true) :
    Calls Try.prog 34 #[v, u] w fun e w' => e = .returned (.int .i64 (lastV p l ((ri p 0).length - 1))) ∧ Below w.heap.size w w' := by
  have hn := rightB_len hl
  have h32 := hg.len
  have H := Lib.hid h
  have G := Lib.hid g
  obtain ⟨a', cap', rfl, g1, g2, g3⟩ := g
  clear g3
  obtain ⟨vs, ⟨a, cap, rfl, h1, h2, h3⟩, h4⟩ := h
  by_cases h0 : l.length = 0
  · have hf := Lib.hid (show lastV p l ((ri p 0).length - 1) = 0 by simp [lastV, h0])
    have h0' : ((l.length : Int) == 0) = true := by rw [beq_iff_eq]; omega
    clear h0 h3 h4
    go_enter Try.func34, Try.ntmps34
    go_wp2_with fail
    go_ret
    exact ⟨ret_int hf.out.symm, Below.refl _ _⟩
  · have h0' : ((l.length : Int) == 0) = false := by rw [beq_eq_false_iff_ne]; omega
    have hp0 : 0 < p.length := by omega
    have hst := hg.st 0 hp0
    obtain ⟨b, off, rfl, hc⟩ := h3 0 hp0
    obtain ⟨ak, capk, ek, n1, n2, hrow⟩ := h4 0 hp0
    rw [ek, Nat.add_zero] at hc
    have h1r : 1 ≤ (ri p 0).length := hst.1
    have h8r : (ri p 0).length ≤ 8 := hst.2.1
    have HR := Lib.hid (rlast_any _ _ p l ((ri p 0).length - 1) w H.out G.out hg hl (fun _ => by omega))
    clear h0 h3 h4 ek hrow hst hg hl
    have he : (((ri p 0).length - 1 : Nat) : Int) = ((ri p 0).length : Int) - 1 := by omega
    rw [he] at HR
    clear he
    go_enter Try.func34, Try.ntmps34
    go_wp2_with fail
    refine HR.out.mono ?_
    rintro e w1 ⟨rfl, hb1⟩
    go_wp2_with fail
    go_ret
    exact ⟨rfl, hb1⟩
end Go.Proofs.Ytijapbfkpmphpaa
