/- Contract: flow.Best's search. -/
import Derived.Test.YtijapbfkpmphpaaFlowN
namespace Go.Proofs.Ytijapbfkpmphpaa
open Go.RowKit

set_option maxHeartbeats 1000000 in
theorem search_leaf (w0 w : World) (X : Nat) (pv u ov : Value) (l : Int) (p : List (List Int)) (st : St) (pre : List Int) (hp : SS w0 pv p) (hb0 : Below w0.heap.size w0 w) (hX : w0.heap.size ≤ X)
    (hr : RepC w X pv st l ov) (hll : l = st.left) (hu : OwnI w (X + 6) u pre) (hg : Good p) (hpre : rightB p.length pre = true) (hl : pre.length = p.length) :
    Calls Try.prog 43 #[u, .pointer (some ⟨X, 0, none⟩), .pointer (some ⟨X + 4, 0, none⟩), .pointer (some ⟨X + 2, 0, none⟩), .pointer (some ⟨X + 1, 0, none⟩), .pointer (some ⟨X + 3, 0, none⟩), .pointer (some ⟨X + 5, 0, none⟩)] w (PostC w X pv p 0 st pre) := by
  have HP := Lib.hid hp
  have HU := Lib.hid hu
  have HR := Lib.hid hr
  have HG := Lib.hid hg
  have HPRE := Lib.hid hpre
  have HLL := Lib.hid hll
  have h32 := hg.len
  obtain ⟨vs, ⟨a, cap, rfl, h1, h2, h3⟩, h4⟩ := hp
  obtain ⟨a', cap', rfl, g1, g2, g3⟩ := hu.si
  have hb : ((pre.length : Int) == (p.length : Int)) = true := by rw [beq_iff_eq]; omega
  have hp32 : pre.length ≤ 32 := by omega
  have H3 := Lib.hid h3
  have H4 := Lib.hid h4
  have HPL := Lib.hid hl
  clear h3 h4 g3 hl hg hpre hu hll
  have c0 := hr.c0
  clear hr
  go_enter Try.func43, Try.ntmps43
  go_wp2_with fail
  refine (finish_any _ _ p pre w (HP.out.keep hb0) HU.out.si HG.out HPRE.out hp32).mono ?_
  rintro e w1 ⟨vt, rfl, hst, hb1⟩
  clear c0
  have HT := Lib.hid hst
  have HR1 := Lib.hid (HR.out.below hb1)
  have HU1 := Lib.hid (HU.out.below hb1)
  clear hst
  have c0 := HR1.out.c0
  have c2 := HR1.out.c2
  have c4 := HR1.out.c4
  have hb01 := Lib.hid (hb0.trans (hb1.mono hb0.size))
  by_cases hp0 : 0 < p.length
  · obtain ⟨bp, op, ha, hc0⟩ := H3.out 0 hp0
    obtain ⟨ak, capk, ek, n1, n2, hrow⟩ := H4.out 0 hp0
    rw [ek, Nat.add_zero] at hc0
    have hc0 := cell_keep hb01.out hc0
    have hst0 := HG.out.st 0 hp0
    have h1r : 1 ≤ (ri p 0).length := hst0.1
    have h8r : (ri p 0).length ≤ 8 := hst0.2.1
    have hrl : ∀ k, k < pre.length → (ri p 0).length - 1 < (jobRow p pre k).length := fun k hk => by rw [jobRow_st HG.out HPRE.out hk]; omega
    have hla := last_any vt (timesL p pre) ((ri p 0).length - 1) w1 HT.out (fun _ => by
      have := HPL.out
      rw [timesL_length, timesL_ri (by omega), rowL_length]; exact hrl _ (by omega))
    rw [lastOf_times hrl, show (((ri p 0).length - 1 : Nat) : Int) = ((ri p 0).length : Int) - 1 by omega] at hla
    have HLA := Lib.hid hla
    have HN : Hid (lenV p pre = lastV p pre ((ri p 0).length - 1)) := rfl
    clear hla hrl hrow ek hst0
    rw [ha] at c0 ⊢
    go_wp2_with fail
    refine HLA.out.mono ?_
    rintro e w2 ⟨rfl, m2, rfl⟩
    have hw2 : Below w1.heap.size w1 (w1.drewN m2) := below_drewN' (Below.refl _ _) _
    generalize w1.drewN m2 = w2 at *
    have HR2 := Lib.hid (HR1.out.below hw2)
    have HU2 := Lib.hid (HU1.out.below hw2)
    have HB2 := Lib.hid (ext_trans hb1 hw2)
    clear hw2 c0 c2 c4
    have c2 := HR2.out.c2
    have c4 := HR2.out.c4
    by_cases hc : st.found = false ∨ lenV p pre < st.span
    rotate_left
    · have HL := Lib.hid (leaf_miss (p := p) (pre := pre) hc)
      have hf : st.found = true := by cases h : st.found; exact absurd (Or.inl h) hc; rfl
      have hlt : ¬ lastV p pre ((ri p 0).length - 1) < st.span := fun h => hc (.inr (by rw [HN.out]; exact h))
      have hb4 : decide (lastV p pre ((ri p 0).length - 1) < st.span) = false := by simpa using hlt
      rw [hf] at c4
      clear hf hc hlt
      go_wp2_with fail
      go_ret
      refine ⟨Chg.of_below HB2.out, ?_⟩
      rw [expl_zero, HL.out]
      exact ⟨rfl, ov, by rw [← HLL.out]; exact HR2.out⟩
    · have HL := Lib.hid (leaf_hit (p := p) (pre := pre) hc)
      have HCL := Lib.hid (clone_int _ pre w2 HU2.out.si HU2.out.some_form (by omega))
      cases hf : st.found
      · rw [hf] at c4
        clear hf hc
        go_wp2_with fail
        refine HCL.out.mono ?_
        rintro e w3 ⟨v3, rfl, ho3, hb3⟩
        clear c2 c4
        obtain ⟨av, cv, ev, _, _, _⟩ := ho3.si
        rw [ev] at ho3 ⊢
        clear ev
        have HO3 := Lib.hid (ho3.mono HR2.out.lt)
        have HR3 := Lib.hid (HR2.out.below hb3)
        have HB3 := Lib.hid (ext_trans HB2.out hb3)
        clear ho3 hb3
        obtain ⟨ao, no, co, eo⟩ : ∃ ao no co, ov = .slice ao no co := by obtain ⟨x, y, h, _⟩ := HR3.out.own.si; exact ⟨_, _, _, h⟩
        have c1 := HR3.out.c1
        rw [eo] at c1
        have c2 := HR3.out.c2
        have c4 := HR3.out.c4
        have f1 := HR3.out.f1
        have f2 := HR3.out.f2
        have f4 := HR3.out.f4
        clear eo
        go_wp2_with fail
        go_ret
        refine ⟨(Chg.of_below HB3.out).trans (((Chg.set _ _ _ (by omega) (by omega)).trans (Chg.set _ _ _ (by omega) (by omega))).trans (Chg.set _ _ _ (by omega) (by omega))), ?_⟩
        rw [expl_zero, HL.out, HN.out]
        exact ⟨rfl, _, by rw [show ({ st with order := pre, span := lastV p pre ((ri p 0).length - 1), found := true } : St).left = st.left from rfl, ← HLL.out]; exact HR3.out.setBest HO3.out _⟩
      · rw [hf] at c4
        have hlt : lastV p pre ((ri p 0).length - 1) < st.span := by
          rcases hc with hc | hc
          · rw [hf] at hc; cases hc
          · rw [HN.out] at hc; exact hc
        have hb4 : decide (lastV p pre ((ri p 0).length - 1) < st.span) = true := by simpa using hlt
        clear hf hc hlt
        go_wp2_with fail
        refine HCL.out.mono ?_
        rintro e w3 ⟨v3, rfl, ho3, hb3⟩
        clear c2 c4
        obtain ⟨av, cv, ev, _, _, _⟩ := ho3.si
        rw [ev] at ho3 ⊢
        clear ev
        have HO3 := Lib.hid (ho3.mono HR2.out.lt)
        have HR3 := Lib.hid (HR2.out.below hb3)
        have HB3 := Lib.hid (ext_trans HB2.out hb3)
        clear ho3 hb3
        obtain ⟨ao, no, co, eo⟩ : ∃ ao no co, ov = .slice ao no co := by obtain ⟨x, y, h, _⟩ := HR3.out.own.si; exact ⟨_, _, _, h⟩
        have c1 := HR3.out.c1
        rw [eo] at c1
        have c2 := HR3.out.c2
        have c4 := HR3.out.c4
        have f1 := HR3.out.f1
        have f2 := HR3.out.f2
        have f4 := HR3.out.f4
        clear eo
        go_wp2_with fail
        go_ret
        refine ⟨(Chg.of_below HB3.out).trans (((Chg.set _ _ _ (by omega) (by omega)).trans (Chg.set _ _ _ (by omega) (by omega))).trans (Chg.set _ _ _ (by omega) (by omega))), ?_⟩
        rw [expl_zero, HL.out, HN.out]
        exact ⟨rfl, _, by rw [show ({ st with order := pre, span := lastV p pre ((ri p 0).length - 1), found := true } : St).left = st.left from rfl, ← HLL.out]; exact HR3.out.setBest HO3.out _⟩

  · have hp00 : ¬ (0 : Int) < (p.length : Int) := by omega
    have hpb : decide ((0 : Int) < (p.length : Int)) = false := by simpa using hp00
    have HN : Hid (lenV p pre = 0) := by
      have := HPL.out
      show lastV p pre _ = 0
      simp [lastV]; intro h; exfalso; apply h; apply List.eq_nil_of_length_eq_zero; omega
    have hw2 : Below w1.heap.size w1 w1 := Below.refl _ _
    obtain ⟨w2, hww⟩ : ∃ w2 : World, w2 = w1 := ⟨_, rfl⟩
    subst hww
    have HR2 := Lib.hid (HR1.out.below hw2)
    have HU2 := Lib.hid (HU1.out.below hw2)
    have HB2 := Lib.hid (ext_trans hb1 hw2)
    clear hw2 c0 c2 c4
    have c0 := HR2.out.c0
    have c2 := HR2.out.c2
    have c4 := HR2.out.c4
    by_cases hc : st.found = false ∨ lenV p pre < st.span
    rotate_left
    · have HL := Lib.hid (leaf_miss (p := p) (pre := pre) hc)
      have hf : st.found = true := by cases h : st.found; exact absurd (Or.inl h) hc; rfl
      have hlt : ¬ 0 < st.span := fun h => hc (.inr (by rw [HN.out]; exact h))
      have hb4 : decide (0 < st.span) = false := by simpa using hlt
      rw [hf] at c4
      clear hf hc hlt
      go_wp2_with fail
      go_ret
      refine ⟨Chg.of_below HB2.out, ?_⟩
      rw [expl_zero, HL.out]
      exact ⟨rfl, ov, by rw [← HLL.out]; exact HR2.out⟩
    · have HL := Lib.hid (leaf_hit (p := p) (pre := pre) hc)
      have HCL := Lib.hid (clone_int _ pre w2 HU2.out.si HU2.out.some_form (by omega))
      cases hf : st.found
      · rw [hf] at c4
        clear hf hc
        go_wp2_with fail
        refine HCL.out.mono ?_
        rintro e w3 ⟨v3, rfl, ho3, hb3⟩
        clear c2 c4
        obtain ⟨av, cv, ev, _, _, _⟩ := ho3.si
        rw [ev] at ho3 ⊢
        clear ev
        have HO3 := Lib.hid (ho3.mono HR2.out.lt)
        have HR3 := Lib.hid (HR2.out.below hb3)
        have HB3 := Lib.hid (ext_trans HB2.out hb3)
        clear ho3 hb3
        obtain ⟨ao, no, co, eo⟩ : ∃ ao no co, ov = .slice ao no co := by obtain ⟨x, y, h, _⟩ := HR3.out.own.si; exact ⟨_, _, _, h⟩
        have c1 := HR3.out.c1
        rw [eo] at c1
        have c2 := HR3.out.c2
        have c4 := HR3.out.c4
        have f1 := HR3.out.f1
        have f2 := HR3.out.f2
        have f4 := HR3.out.f4
        clear eo
        go_wp2_with fail
        go_ret
        refine ⟨(Chg.of_below HB3.out).trans (((Chg.set _ _ _ (by omega) (by omega)).trans (Chg.set _ _ _ (by omega) (by omega))).trans (Chg.set _ _ _ (by omega) (by omega))), ?_⟩
        rw [expl_zero, HL.out, HN.out]
        exact ⟨rfl, _, by rw [show ({ st with order := pre, span := 0, found := true } : St).left = st.left from rfl, ← HLL.out]; exact HR3.out.setBest HO3.out _⟩
      · rw [hf] at c4
        have hlt : 0 < st.span := by
          rcases hc with hc | hc
          · rw [hf] at hc; cases hc
          · rw [HN.out] at hc; exact hc
        have hb4 : decide (0 < st.span) = true := by simpa using hlt
        clear hf hc hlt
        go_wp2_with fail
        refine HCL.out.mono ?_
        rintro e w3 ⟨v3, rfl, ho3, hb3⟩
        clear c2 c4
        obtain ⟨av, cv, ev, _, _, _⟩ := ho3.si
        rw [ev] at ho3 ⊢
        clear ev
        have HO3 := Lib.hid (ho3.mono HR2.out.lt)
        have HR3 := Lib.hid (HR2.out.below hb3)
        have HB3 := Lib.hid (ext_trans HB2.out hb3)
        clear ho3 hb3
        obtain ⟨ao, no, co, eo⟩ : ∃ ao no co, ov = .slice ao no co := by obtain ⟨x, y, h, _⟩ := HR3.out.own.si; exact ⟨_, _, _, h⟩
        have c1 := HR3.out.c1
        rw [eo] at c1
        have c2 := HR3.out.c2
        have c4 := HR3.out.c4
        have f1 := HR3.out.f1
        have f2 := HR3.out.f2
        have f4 := HR3.out.f4
        clear eo
        go_wp2_with fail
        go_ret
        refine ⟨(Chg.of_below HB3.out).trans (((Chg.set _ _ _ (by omega) (by omega)).trans (Chg.set _ _ _ (by omega) (by omega))).trans (Chg.set _ _ _ (by omega) (by omega))), ?_⟩
        rw [expl_zero, HL.out, HN.out]
        exact ⟨rfl, _, by rw [show ({ st with order := pre, span := 0, found := true } : St).left = st.left from rfl, ← HLL.out]; exact HR3.out.setBest HO3.out _⟩
end Go.Proofs.Ytijapbfkpmphpaa
