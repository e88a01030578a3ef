/- Contracts: Makespan, Bound of flow and of the reference. -/
import Derived.Test.YtijapbfkpmphpaaFlowH
namespace Go.Proofs.Ytijapbfkpmphpaa
open Go.RowKit

theorem lastV_nil {p : List (List Int)} {l : List Int} {s : Nat} (h : l.length = 0) : lastV p l s = 0 := by simp [lastV, h]
theorem spanV_err {p : List (List Int)} {l : List Int} (h : finishE p l ≠ 0) : spanV p l = 0 := by simp [spanV, h]
theorem spanV_ok {p : List (List Int)} {l : List Int} (h : finishE p l = 0) : spanV p l = lastV p l ((ri p 0).length - 1) := by simp [spanV, h]

set_option maxHeartbeats 400000 in
theorem rMakespan_any (v u : Value) (p : List (List Int)) (l : List Int) (w : World) (h : SS w v p) (g : SI w u l) :
    Calls Try.prog 17 #[v, u] w (RetNE w (spanV p l) (finishE p l)) := by
  have H := Lib.hid h; clear h
  have G := Lib.hid g; clear g
  go_enter Try.func17, Try.ntmps17
  go_wp2_with fail
  refine (rFinish_any _ _ p l w H.out G.out).mono ?_
  rintro e w1 ⟨vt, rfl, hst, hb1⟩
  clear hst
  by_cases c0 : finishE p l = 0
  · have hb : (finishE p l != 0) = false := by simpa using c0
    have hV := Lib.hid (spanV_ok c0)
    have hz := finishE_zero c0
    have HG := Lib.hid (checkE_zero hz.1)
    have HL := Lib.hid hz.2.2
    have C0 := Lib.hid c0
    clear c0 hz
    go_wp2_with fail
    refine (rlength_any _ _ p l w1 (H.out.keep hb1) (G.out.keep hb1) HG.out HL.out).mono ?_
    rintro e w2 ⟨rfl, hb2⟩
    go_wp2_with fail
    go_ret2
    exact retNE rfl C0.out.symm hV.out.symm (ext_trans hb1 hb2)
  · have hb : (finishE p l != 0) = true := by simpa using c0
    have hV := Lib.hid (spanV_err c0)
    clear c0
    go_wp2_with fail
    go_ret2
    exact retNE rfl rfl hV.out.symm hb1

set_option maxHeartbeats 400000 in
theorem Makespan_any (v u : Value) (p : List (List Int)) (l : List Int) (w : World) (h : SS w v p) (g : SI w u l) :
    Calls Try.prog 16 #[v, u] w (RetNE w (spanV p l) (finishE p l)) := by
  have H := Lib.hid h
  have G := Lib.hid g; clear g
  obtain ⟨vs, ⟨a, cap, rfl, h1, h2, h3⟩, h4⟩ := h
  go_enter Try.func16, Try.ntmps16
  have H3 := Lib.hid h3; have H4 := Lib.hid h4
  clear h3 h4
  go_wp2_with fail
  refine (Finish_any _ _ p l w H.out G.out).mono ?_
  rintro e w1 ⟨vt, rfl, hst, hb1⟩
  by_cases c0 : finishE p l = 0
  · have hb : (finishE p l != 0) = false := by simpa using c0
    have hV := Lib.hid (spanV_ok c0)
    have hz := finishE_zero c0
    have HG := Lib.hid (checkE_zero hz.1)
    have HL := Lib.hid hz.2.2
    have h32 := HG.out.len
    have C0 := Lib.hid c0
    rw [finishV_ok c0] at hst
    have HST := Lib.hid hst
    obtain ⟨ts, ⟨at', capt, rfl, t1, t2, t3⟩, t4⟩ := hst
    have T1 := timesL_length p l
    rw [T1] at t1 ⊢
    have hlp := hz.2.1
    clear t3 t4 c0 hz
    by_cases hl0 : l.length = 0
    · have hl0' : ((l.length : Int) == 0) = true := by rw [beq_iff_eq]; omega
      have hf := Lib.hid (lastV_nil (p := p) (s := (ri p 0).length - 1) hl0)
      clear hl0 hlp T1
      go_wp2_with fail
      go_ret2
      exact retNE rfl rfl (by rw [hV.out, hf.out]) hb1
    · have hl0' : ((l.length : Int) == 0) = false := by rw [beq_eq_false_iff_ne]; omega
      have hp0 : 0 < p.length := by omega
      have hst := HG.out.st 0 hp0
      obtain ⟨b, off, rfl, hc⟩ := H3.out 0 hp0
      obtain ⟨ak, capk, ek, n1, n2, hrow⟩ := H4.out 0 hp0
      rw [ek, Nat.add_zero] at hc
      have hc := cell_keep hb1 hc
      have h1r : 1 ≤ (ri p 0).length := hst.1
      have h8r : (ri p 0).length ≤ 8 := hst.2.1
      have hrl : ∀ k, k < l.length → (ri p 0).length - 1 < (jobRow p l k).length := fun k hk => by rw [jobRow_st HG.out HL.out hk]; omega
      have HF := Lib.hid (lastOf_times hrl)
      have HLA := Lib.hid (last_any _ (timesL p l) ((ri p 0).length - 1) w1 HST.out (fun _ => by
        rw [T1, timesL_ri (by omega), rowL_length]; exact hrl _ (by omega)))
      have he : (((ri p 0).length - 1 : Nat) : Int) = ((ri p 0).length : Int) - 1 := by omega
      rw [he, T1] at HLA
      clear he hrow ek hst hrl hl0 T1
      have HLP := Lib.hid hlp; clear hlp
      go_wp2_with fail
      refine HLA.out.mono ?_
      rintro e w2 ⟨rfl, m, rfl⟩
      go_wp2_with fail
      go_ret2
      exact retNE rfl C0.out.symm (by rw [hV.out, HF.out]) (below_drewN' hb1 _)
  · have hb : (finishE p l != 0) = true := by simpa using c0
    have hV := Lib.hid (spanV_err c0)
    clear c0 hst
    go_wp2_with fail
    go_ret2
    exact retNE rfl rfl hV.out.symm hb1

theorem boundE_bad {p : List (List Int)} {l : List Int} {s : Int} (h : checkE p ≠ 0) : boundE p l s = checkE p := by simp [boundE, h]
theorem boundE_arg {p : List (List Int)} {l : List Int} {s : Int} (h : checkE p = 0) (h2 : rightB p.length l = false ∨ p.length = 0 ∨ s < 0 ∨ (ri p 0).length ≤ s) : boundE p l s = 2 := by
  unfold boundE; rw [if_neg (by simp [h]), if_pos h2]
theorem boundE_ok {p : List (List Int)} {l : List Int} {s : Int} (h : checkE p = 0) (h2 : ¬ (rightB p.length l = false ∨ p.length = 0 ∨ s < 0 ∨ (ri p 0).length ≤ s)) : boundE p l s = 0 := by
  unfold boundE; rw [if_neg (by simp [h]), if_neg h2]
theorem boundR_err {p : List (List Int)} {l : List Int} {s : Int} (h : boundE p l s ≠ 0) : boundR p l s = 0 := by simp [boundR, h]
theorem boundR_ok {p : List (List Int)} {l : List Int} {s : Int} (h : boundE p l s = 0) : boundR p l s = boundV p l s.toNat := by simp [boundR, h]

set_option maxHeartbeats 800000 in
theorem Bound_any (v u : Value) (p : List (List Int)) (l : List Int) (s : Int) (w : World) (h : SS w v p) (g : SI w u l) :
    Calls Try.prog 19 #[v, u, .int .i64 s] w (RetNE w (boundR p l s) (boundE p l s)) := by
  have H := Lib.hid h
  have G := Lib.hid g; clear g
  obtain ⟨vs, ⟨a, cap, rfl, h1, h2, h3⟩, h4⟩ := h
  have H3 := Lib.hid h3; have H4 := Lib.hid h4
  clear h3 h4
  have hm : p.length ≤ 9223372036854775807 := by unfold maxLen at h2; omega
  go_enter Try.func19, Try.ntmps19
  go_wp2_with fail
  refine (check_any _ p w H.out).mono ?_
  rintro e w1 ⟨rfl, m1, rfl⟩
  by_cases c0 : checkE p = 0
  rotate_left
  · have hE := Lib.hid (boundE_bad (l := l) (s := s) c0)
    have hV := Lib.hid (boundR_err (show boundE p l s ≠ 0 by rw [hE.out]; exact c0))
    have hb : (checkE p != 0) = true := by simpa using c0
    clear c0
    go_wp2_with fail
    go_ret2
    exact retNE rfl hE.out.symm hV.out.symm (below_drewN' (Below.refl _ _) _)
  have hb : (checkE p != 0) = false := by simpa using c0
  have C0 := Lib.hid c0
  clear c0
  go_wp2_with fail
  refine (right_any _ _ p l _ (H.out.drewN _) (G.out.drewN _)).mono ?_
  rintro e w1 ⟨rfl, m2, rfl⟩
  cases c2 : rightB p.length l
  · have hE := Lib.hid (boundE_arg (s := s) C0.out (.inl c2))
    have hV := Lib.hid (boundR_err (show boundE p l s ≠ 0 by rw [hE.out]; decide))
    clear c2
    go_wp2_with fail
    go_ret2
    exact retNE rfl hE.out.symm hV.out.symm (below_drewN' (Below.refl _ _) _)
  have C2 := Lib.hid c2
  clear c2
  by_cases c3 : p.length = 0
  · have hE := Lib.hid (boundE_arg (l := l) (s := s) C0.out (.inr (.inl c3)))
    have hV := Lib.hid (boundR_err (show boundE p l s ≠ 0 by rw [hE.out]; decide))
    have hb3 : ((p.length : Int) == 0) = true := by rw [beq_iff_eq]; omega
    clear c3
    go_wp2_with fail
    go_ret2
    exact retNE rfl hE.out.symm hV.out.symm (below_drewN' (Below.refl _ _) _)
  have hb3 : ((p.length : Int) == 0) = false := by rw [beq_eq_false_iff_ne]; omega
  by_cases c4 : s < 0
  · have hE := Lib.hid (boundE_arg (l := l) C0.out (.inr (.inr (.inl c4))))
    have hV := Lib.hid (boundR_err (show boundE p l s ≠ 0 by rw [hE.out]; decide))
    have hb4 : decide (s < 0) = true := by simpa using c4
    clear c3
    go_wp2_with fail
    go_ret2
    exact retNE rfl hE.out.symm hV.out.symm (below_drewN' (Below.refl _ _) _)
  have hb4 : decide (s < 0) = false := by simpa using c4
  have hp0 : 0 < p.length := by omega
  obtain ⟨b, off, ha, hc⟩ := H3.out 0 hp0
  have HS0 := Lib.hid (H4.out 0 hp0)
  obtain ⟨ak, capk, ek, n1, n2, hrow⟩ := H4.out 0 hp0
  rw [ek, Nat.add_zero] at hc
  clear hrow ek
  have hmr : (ri p 0).length ≤ 9223372036854775807 := by unfold maxLen at n2; omega
  rw [ha] at H H3 ⊢
  clear ha
  by_cases c5 : ((ri p 0).length : Int) ≤ s
  · have hE := Lib.hid (boundE_arg (l := l) C0.out (.inr (.inr (.inr c5))))
    have hV := Lib.hid (boundR_err (show boundE p l s ≠ 0 by rw [hE.out]; decide))
    have hb5 : decide (((ri p 0).length : Int) ≤ s) = true := by simpa using c5
    clear c3 c4
    go_wp2_with fail
    go_ret2
    exact retNE rfl hE.out.symm hV.out.symm (below_drewN' (Below.refl _ _) _)
  have hb5 : decide (((ri p 0).length : Int) ≤ s) = false := by simpa using c5
  have hE := Lib.hid (boundE_ok (l := l) (s := s) C0.out (by rw [C2.out]; simp only [Bool.true_eq_false, false_or]; omega))
  have hV := Lib.hid (boundR_ok hE.out)
  have hg := Lib.hid (checkE_zero C0.out)
  have hs : s.toNat < (ri p 0).length := by omega
  obtain ⟨sn, hsn⟩ := Int.eq_ofNat_of_zero_le (show 0 ≤ s by omega)
  subst hsn
  clear c3 c4 c5
  go_wp2_with fail
  refine (finish_any _ _ p l _ (H.out.drewN _) (G.out.drewN _) hg.out C2.out (by have := hg.out.len; have := rightB_len C2.out; omega)).mono ?_
  rintro e w2 ⟨vt, rfl, hst, hb2⟩
  have HST := Lib.hid hst; clear hst
  have hb2' : Below w.heap.size w w2 := (below_drewN' (Below.refl _ _) _).trans hb2
  clear hb2
  go_wp2_with fail
  refine (fbound_any _ _ _ p l sn w2 (H.out.keep hb2') (G.out.keep hb2') HST.out hg.out C2.out hs).mono ?_
  rintro e w3 ⟨rfl, m3, rfl⟩
  go_wp2_with fail
  go_ret2
  exact retNE rfl hE.out.symm hV.out.symm (below_drewN' hb2' _)

set_option maxHeartbeats 800000 in
theorem rBound_any (v u : Value) (p : List (List Int)) (l : List Int) (s : Int) (w : World) (h : SS w v p) (g : SI w u l) :
    Calls Try.prog 20 #[v, u, .int .i64 s] w (RetNE w (boundR p l s) (boundE p l s)) := by
  have H := Lib.hid h
  have G := Lib.hid g; clear g
  obtain ⟨vs, ⟨a, cap, rfl, h1, h2, h3⟩, h4⟩ := h
  have H3 := Lib.hid h3; have H4 := Lib.hid h4
  clear h3 h4
  have hm : p.length ≤ 9223372036854775807 := by unfold maxLen at h2; omega
  go_enter Try.func20, Try.ntmps20
  go_wp2_with fail
  refine (shop_any _ p w H.out).mono ?_
  rintro e w1 ⟨rfl, m1, rfl⟩
  by_cases c0 : checkE p = 0
  rotate_left
  · have hE := Lib.hid (boundE_bad (l := l) (s := s) c0)
    have hV := Lib.hid (boundR_err (show boundE p l s ≠ 0 by rw [hE.out]; exact c0))
    have hb : (checkE p != 0) = true := by simpa using c0
    clear c0
    go_wp2_with fail
    go_ret2
    exact retNE rfl hE.out.symm hV.out.symm (below_drewN' (Below.refl _ _) _)
  have hb : (checkE p != 0) = false := by simpa using c0
  have C0 := Lib.hid c0
  clear c0
  by_cases c3 : p.length = 0
  · have hE := Lib.hid (boundE_arg (l := l) (s := s) C0.out (.inr (.inl c3)))
    have hV := Lib.hid (boundR_err (show boundE p l s ≠ 0 by rw [hE.out]; decide))
    have hb3 : ((p.length : Int) == 0) = true := by rw [beq_iff_eq]; omega
    clear c3
    go_wp2_with fail
    go_ret2
    exact retNE rfl hE.out.symm hV.out.symm (below_drewN' (Below.refl _ _) _)
  have hb3 : ((p.length : Int) == 0) = false := by rw [beq_eq_false_iff_ne]; omega
  go_wp2_with fail
  refine (distinct_any _ _ p l _ (H.out.drewN _) (G.out.drewN _)).mono ?_
  rintro e w1 ⟨rfl, m2, rfl⟩
  cases c2 : rightB p.length l
  · have hE := Lib.hid (boundE_arg (s := s) C0.out (.inl c2))
    have hV := Lib.hid (boundR_err (show boundE p l s ≠ 0 by rw [hE.out]; decide))
    clear c2
    go_wp2_with fail
    go_ret2
    exact retNE rfl hE.out.symm hV.out.symm (below_drewN' (Below.refl _ _) _)
  have C2 := Lib.hid c2
  clear c2
  by_cases c4 : s < 0
  · have hE := Lib.hid (boundE_arg (l := l) C0.out (.inr (.inr (.inl c4))))
    have hV := Lib.hid (boundR_err (show boundE p l s ≠ 0 by rw [hE.out]; decide))
    have hb4 : decide (s < 0) = true := by simpa using c4
    clear c3
    go_wp2_with fail
    go_ret2
    exact retNE rfl hE.out.symm hV.out.symm (below_drewN' (Below.refl _ _) _)
  have hb4 : decide (s < 0) = false := by simpa using c4
  have hp0 : 0 < p.length := by omega
  obtain ⟨b, off, ha, hc⟩ := H3.out 0 hp0
  have HS0 := Lib.hid (H4.out 0 hp0)
  obtain ⟨ak, capk, ek, n1, n2, hrow⟩ := H4.out 0 hp0
  rw [ek, Nat.add_zero] at hc
  clear hrow ek
  have hmr : (ri p 0).length ≤ 9223372036854775807 := by unfold maxLen at n2; omega
  rw [ha] at H H3 ⊢
  clear ha
  by_cases c5 : ((ri p 0).length : Int) ≤ s
  · have hE := Lib.hid (boundE_arg (l := l) C0.out (.inr (.inr (.inr c5))))
    have hV := Lib.hid (boundR_err (show boundE p l s ≠ 0 by rw [hE.out]; decide))
    have hb5 : decide (((ri p 0).length : Int) ≤ s) = true := by simpa using c5
    clear c3 c4
    go_wp2_with fail
    go_ret2
    exact retNE rfl hE.out.symm hV.out.symm (below_drewN' (Below.refl _ _) _)
  have hb5 : decide (((ri p 0).length : Int) ≤ s) = false := by simpa using c5
  have hE := Lib.hid (boundE_ok (l := l) (s := s) C0.out (by rw [C2.out]; simp only [Bool.true_eq_false, false_or]; omega))
  have hV := Lib.hid (boundR_ok hE.out)
  have hg := Lib.hid (checkE_zero C0.out)
  have hs : s.toNat < (ri p 0).length := by omega
  obtain ⟨sn, hsn⟩ := Int.eq_ofNat_of_zero_le (show 0 ≤ s by omega)
  subst hsn
  clear c3 c4 c5
  go_wp2_with fail
  refine (rbound_any _ _ p l sn _ (H.out.drewN _) (G.out.drewN _) hg.out C2.out hs).mono ?_
  rintro e w3 ⟨rfl, hb3⟩
  go_wp2_with fail
  go_ret2
  exact retNE rfl hE.out.symm hV.out.symm ((below_drewN' (Below.refl _ _) _).trans hb3)
end Go.Proofs.Ytijapbfkpmphpaa
