/- Contract: the reference's search for the best plan. -/
import Derived.Test.YtlgepggmgfnneaaBarT
import Derived.Test.YtlgepggmgfnneaaBarR
import Derived.BigRegion
import Derived.Deep.RegionLaw
import Derived.StillTailTactics
import Derived.Outline
import Derived.Deep.DeepCutAuto
namespace Go.Proofs.Ytlgepggmgfnneaa
open Go.RowKit

theorem drop_needR {l : List Int} {k : Int} {i : Nat} (h : i < l.length) : (ndL l k).drop i = (gi l i + k) :: (ndL l k).drop (i + 1) := by
  rw [List.drop_eq_getElem_cons (by rw [ndL_length]; exact h)]
  congr 1
  rw [← gi_ndL h, gi_lt (by rw [ndL_length]; exact h)]
theorem plT_yes {c x : Int} {xs fr : List Int} {bar : List Nat} {st : BestS} {j : Nat} (h : x ≤ gi fr j) : plT c x xs fr bar st (j + 1) = plB c xs (fr.set j (gi fr j - x)) (bar ++ [j]) (plT c x xs fr bar st j) := if_pos h
theorem plT_no {c x : Int} {xs fr : List Int} {bar : List Nat} {st : BestS} {j : Nat} (h : ¬ x ≤ gi fr j) : plT c x xs fr bar st (j + 1) = plT c x xs fr bar st j := if_neg h

theorem RepP.after4 {w w' : World} {X : Nat} {lv bv uv ov : Value} {s k : Int} {bar : List Nat} {fr : List Int} {st : BestS} (h : RepP w X lv s k bv uv ov bar fr st) (hg : w.grownBy w' uv.ownBlock) : w'.cell? ⟨X, 4, none⟩ = some uv ∧ w'.frozen? ⟨X, 4, none⟩ = false := by
  have hx := blk_kept h.blk h.uo (Nat.lt_succ_self _) hg
  exact ⟨by simp [World.cell?, hx, blkP], by simp [World.frozen?, hx, blkP]⟩

set_option maxRecDepth 100000 in
set_option maxHeartbeats 20000000 in
theorem place_any (w0 : World) (X : Nat) (lv : Value) (l : List Int) (s k : Int) (hp : SI w0 lv l) (hX : w0.heap.size ≤ X) (hg : GoodB l s k) (h12 : l.length ≤ 12) :
    ∀ (f : Nat) (bar : List Nat) (fr : List Int) (st : BestS) (bv uv ov : Value) (w : World), bar.length + f = l.length → (∀ i, i < fr.length → 0 ≤ gi fr i ∧ gi fr i ≤ s + k) → fr.length ≤ bar.length → st.2 ≤ 20 →
    Below w0.heap.size w0 w → RepP w X lv s k bv uv ov bar fr st →
    Calls Try.prog 43 #[.pointer (some ⟨X, 0, none⟩), .int .i64 bar.length] w (PostP w X lv s k ((ndL l k).drop bar.length) fr bar st) := by
  intro f
  induction f with
  | zero =>
    intro bar fr st bv uv ov w hl hfr hf20 hst20 hb0 hr
    have HR := Lib.hid hr
    have hbl : bar.length ≤ 12 := by omega
    have HDR : Hid ((ndL l k).drop bar.length = []) := by
      show _ = _
      apply List.drop_eq_nil_of_le; rw [ndL_length]; omega
    obtain ⟨a, cap, rfl, h1, h2, h3⟩ := hp
    have hb : ((bar.length : Int) == (l.length : Int)) = true := by rw [beq_iff_eq]; omega
    have c0 := hr.c0
    have c4 := hr.c4
    have c6 := hr.c6
    have hlt := hr.lt
    obtain ⟨au, cu, eu, hcu⟩ := own_form0 hr.uo
    rw [usL_length] at eu hcu
    rw [eu] at c4
    have HEU := Lib.hid eu
    clear h3 hl hfr hg hb0 hr eu
    by_cases hcut : st.2 ≤ fr.length
    · have hd : decide (st.2 ≤ fr.length) = true := by rw [decide_eq_true_eq]; omega
      have HCUT := Lib.hid (plB_cut (c := s + k) (xs := (ndL l k).drop bar.length) (bar := bar) hcut)
      clear hcut
      go_enter Try.func43, Try.ntmps43
      go_wp2_with fail
      go_quiet (fail)
      go_wp2_with fail
      refine bodyPost_end (results_none Try.results43 _ _ _) rfl ?_
      refine ⟨rfl, below_drewN' (Below.refl _ _) _, bv, uv, ov, ?_⟩
      rw [HCUT.out]
      exact HR.out.dn _
    have hd : decide (st.2 ≤ fr.length) = false := by rw [decide_eq_false_iff_not]; omega
    have HNIL := Lib.hid (plB_nil (c := s + k) (bar := bar) (by omega : fr.length < st.2))
    clear hcut
    go_enter Try.func43, Try.ntmps43
    obtain ⟨ab, cb, eb, hcb⟩ := own_form0 HR.out.bo
    rw [natL_length] at eb hcb
    have c3 := HR.out.c3
    rw [eb] at c3
    have HEB := Lib.hid eb
    clear eb
    go_wp2_with fail
    go_quiet (fail)
    have HRQ := Lib.hid (HR.out.dn nq)
    have c3a := cell_alloc' HRQ.out.c3 (.cells #[] 3)
    rw [HEB.out] at c3a
    have hXl : X < w.heap.size := hlt
    go_wp2_with (at_builtin; refine wpList_app_int rfl (.tmp 24) (.tmp 28) rfl w.heap.size _ _ [] (natL bar) rfl rfl (OwnI_empty _ _ (Nat.le_refl _)) (by rw [← HEB.out]; exact HRQ.out.bo.si.alloc _) (by rw [natL_length]; simp; omega) (by simp) ?_)
    intro v' w2 ho hg _
    have hb2 : Below w.heap.size w w2 := ((below_drewN' (Below.refl _ _) nq).alloc (Nat.le_refl _) _).grown hg (by simp) (by simp [Value.ownBlock])
    obtain ⟨av, cv, ev, _, _, _⟩ := ho.si
    rw [ev] at ho ⊢
    clear ev hg
    have hfin := HR.out.setO hb2 (by simpa using ho)
    have HR2 := HR.out.below hb2
    have c4' := HR2.c4
    rw [HEU.out] at c4'
    have c5' := HR2.c5
    have c6' := HR2.c6
    have f5 := HR2.fz 5
    have f6 := HR2.fz 6
    have HFIN := Lib.hid hfin
    clear hfin ho HR2 hb2 c0 c3 c4 c6 c3a
    go_wp2_with fail
    refine bodyPost_end (results_none Try.results43 _ _ _) rfl ?_
    refine ⟨rfl, HFIN.out.2, ?_⟩
    rw [HDR.out, HNIL.out]
    exact ⟨_, _, _, HFIN.out.1⟩
  | succ f ih =>
    intro bar fr st bv uv ov w hl hfr hf20 hst20 hb0 hr
    have IH := Lib.hid ih
    have HP := Lib.hid hp
    have HG := Lib.hid hg
    have HB0 := Lib.hid hb0
    have HFR := Lib.hid hfr
    have HL := Lib.hid hl
    have HR := Lib.hid hr
    have hil : bar.length < l.length := by omega
    have HDR := Lib.hid (drop_needR (k := k) hil)
    obtain ⟨a, cap, rfl, h1, h2, h3⟩ := hp
    obtain ⟨bl, ol, rfl, hcl⟩ := h3 bar.length hil
    have HCL := Lib.hid hcl
    have hsd := hg.side _ (gi_mem hil)
    have hst := hg.stock
    have hkf := hg.kerf
    have hb : ((bar.length : Int) == (l.length : Int)) = false := by rw [beq_eq_false_iff_ne]; omega
    have hic : (bar.length : Int) < (cap : Int) := by omega
    have hilI : (bar.length : Int) < (l.length : Int) := by omega
    have c0 := hr.c0
    have c4 := hr.c4
    have c6 := hr.c6
    have hlt := hr.lt
    obtain ⟨au, cu, eu, hcu⟩ := own_form0 hr.uo
    rw [usL_length] at eu hcu
    rw [eu] at c4
    have HEU := Lib.hid eu
    obtain ⟨li, hli⟩ : ∃ li, gi l bar.length = li := ⟨_, rfl⟩
    rw [hli] at hsd
    have HLI := Lib.hid hli
    have HDR : Hid ((ndL l k).drop bar.length = (li + k) :: (ndL l k).drop (bar.length + 1)) := by show _ = _; rw [← hli]; exact HDR.out
    clear h3 hl hfr hg hb0 hr eu ih hli hcl
    by_cases hcut : st.2 ≤ fr.length
    · have hd : decide (st.2 ≤ fr.length) = true := by rw [decide_eq_true_eq]; omega
      have HCUT := Lib.hid (plB_cut (c := s + k) (xs := (ndL l k).drop bar.length) (bar := bar) hcut)
      clear hcut
      go_enter Try.func43, Try.ntmps43
      go_wp2_with fail
      go_quiet (fail)
      go_wp2_with fail
      refine bodyPost_end (results_none Try.results43 _ _ _) rfl ?_
      refine ⟨rfl, below_drewN' (Below.refl _ _) _, bv, uv, ov, ?_⟩
      rw [HCUT.out]
      exact HR.out.dn _
    have hd : decide (st.2 ≤ fr.length) = false := by rw [decide_eq_false_iff_not]; omega
    clear hcut
    go_enter Try.func43, Try.ntmps43
    go_wp2_with fail
    go_quiet (fail)
    go_wp2_with fail
    have HR1 := Lib.hid (HR.out.dn nq)
    have HBS : Hid (Below X w (w.drewN nq)) := below_drewN' (Below.refl _ _) _
    clear c0 c4 c6
    generalize w.drewN nq = ws at *
    have hx1 : 1 ≤ li + k ∧ li + k ≤ 32868 := by omega
    obtain ⟨x, hxx⟩ : ∃ x, li + k = x := ⟨_, rfl⟩
    have HXX := Lib.hid hxx
    rw [hxx] at hx1 HDR
    clear hxx
    go_loopg [5] fr.length (fun g i wr => ∃ j : Nat, j ≤ fr.length ∧ i = .int .i64 j ∧ g = fr.length - j ∧ Hid (Below X w wr) ∧ Hid (∃ bv uv ov, RepP wr X (.slice (some ⟨bl, ol, none⟩) l.length cap) s k bv uv ov bar fr (plT (s + k) x ((ndL l k).drop (bar.length + 1)) fr bar st j)))
    case atStart => exact ⟨0, Nat.zero_le _, rfl, by omega, HBS.out, bv, uv, ov, HR1.out⟩
    case round =>
      clear HR1 HBS HR
      obtain ⟨wo, rfl⟩ : ∃ wo : World, wo = wr := ⟨_, rfl⟩
      obtain ⟨j, hj, rfl, rfl, hbw, hrep⟩ := hrel
      obtain ⟨bv, uv, ov, hr⟩ := hrep.out
      clear hrep
      have HR := Lib.hid hr
      have hlt := hr.lt
      have c0 := hr.c0
      have hcl := cell_keep (HB0.out.trans (hbw.out.mono hX)) HCL.out
      try dsimp only at hcl
      rw [HLI.out] at hcl
      by_cases hjm : j < fr.length
      · obtain ⟨gu, capu, eu, hcu, _, _, _, cellu, fzu⟩ := hr.uo.form (by rw [usL_length]; omega)
        rw [usL_length] at eu hcu
        have c4 := hr.c4
        rw [eu] at c4
        have c1 := hr.c1
        have c2 := hr.c2
        have cU := cellu j (by rw [usL_length]; exact hjm)
        rw [gi_usL hjm] at cU
        have fU := fzu j
        have HEU := Lib.hid eu
        have hjc : (j : Int) < (capu : Int) := by omega
        have hjm' : (j : Int) < (fr.length : Int) := by omega
        have hyb := HFR.out j hjm
        obtain ⟨y, hy⟩ : ∃ y, gi fr j = y := ⟨_, rfl⟩
        rw [hy] at cU hyb
        have HY := Lib.hid hy
        have hxli := HXX.out
        have e1 : IntKind.i64.wrap (s - y + k) = s - y + k := IntWalk.i64_in _ (by omega)
        have e2 : IntKind.i64.wrap (s - y + k + li) = s - y + k + li := IntWalk.i64_in _ (by omega)
        have HXLI := Lib.hid hxli
        clear hr eu cellu fzu hy
        by_cases hxy : x ≤ y
        rotate_left
        · have hd : decide (s - y + k + li ≤ s) = false := by rw [decide_eq_false_iff_not]; omega
          have HN := Lib.hid (plT_no (c := s + k) (xs := (ndL l k).drop (bar.length + 1)) (bar := bar) (st := st) (j := j) (fr := fr) (x := x) (by rw [HY.out]; exact hxy))
          clear hxy hxli
          go_wp2_with fail
          go_quiet (fail)
          go_wp2_with fail
          go_roundg (fr.length - (j + 1))
          case measure => omega
          case rel => exact ⟨j + 1, by omega, by go_num, rfl, below_drewN' hbw.out _, bv, uv, ov, by rw [HN.out]; exact HR.out.dn _⟩
        · have hd : decide (s - y + k + li ≤ s) = true := by rw [decide_eq_true_eq]; omega
          have HYS := Lib.hid (plT_yes (c := s + k) (xs := (ndL l k).drop (bar.length + 1)) (bar := bar) (st := st) (j := j) (fr := fr) (x := x) (by rw [HY.out]; exact hxy))
          clear hxli
          go_wp2_with fail
          go_quiet (fail)
          go_wp2_with fail
          go_cut [5] (fun s5 wx => s5 = .int .i64 j ∧ Below X wo wx ∧ RepP wx X (.slice (some ⟨bl, ol, none⟩) l.length cap) s k bv uv ov bar (fr.set j (y - x)) (plT (s + k) x ((ndL l k).drop (bar.length + 1)) fr bar st j))
          case first =>
            go_region
            all_goals
              have hu := RepP.setU (HR.out.dn (nq + 1)) HEU.out j (y - x) (s - y + k + li) (by have := HXLI.out; omega)
              go_wp2_with fail
              go_meet
              exact ⟨rfl, (below_drewN' (Below.refl _ _) (nq + 1)).trans (hu.2.mono (by omega)), hu.1⟩
          case rest =>
            obtain ⟨rfl, hbu, hru⟩ := hcut
            have HRU := Lib.hid hru
            have HBU := Lib.hid (hbw.out.trans hbu)
            have c3 := hru.c3
            have hltu := hru.lt
            obtain ⟨ab, cb, eb, hcb⟩ := own_form0 hru.bo
            rw [natL_length] at eb hcb
            rw [eb] at c3
            have HEB := Lib.hid eb
            have hbl : bar.length ≤ 12 := by omega
            clear hbu hru c0 c1 c2 c4 cU fU hcl eb
            go_wp2_with (at_builtin; refine wpList_app_int rfl (.tmp 105) (.tmp 107) rfl (X + 1) _ _ (natL bar) [(j : Int)] rfl rfl (by rw [← HEB.out]; exact HRU.out.bo.alloc _) (SI_one _ _ _) (by rw [natL_length]; simp; omega) (by simp; omega) ?_)
            intro v' w2 ho hg hat
            rw [← HEB.out] at hg hat
            have hx2 := blk_kept (HRU.out.alloc _).blk (HRU.out.alloc _).bo (Nat.lt_succ_self _) hg
            have hpb := fun w3 (h3 : w3 = w2.setCell ⟨X, 3, none⟩ v') => h3 ▸ RepP.pushB (HRU.out.alloc _) ho hg (by simpa using hat)
            obtain ⟨gv, cv, ev, _, _, _, _, _, _⟩ := ho.form (by simp)
            rw [List.length_append, List.length_singleton, natL_length] at ev
            subst ev
            have c3 : w2.cell? ⟨X, 3, none⟩ = some bv := by simp [World.cell?, hx2, blkP]
            have f3 : w2.frozen? ⟨X, 3, none⟩ = false := by simp [World.frozen?, hx2, blkP]
            have hpb := hpb _ rfl
            have HR3 := Lib.hid hpb.1
            have HB3 := Lib.hid ((HBU.out.alloc (by omega) (.cells #[.int .i64 (j : Int)] 3)).trans hpb.2)
            clear ho hg hat hx2 hpb
            go_wp2_with fail
            have hzt : (plT (s + k) x ((ndL l k).drop (bar.length + 1)) fr bar st j).2 ≤ 20 := Nat.le_trans (plT_le j) hst20
            have hrec := IH.out (bar ++ [j]) (fr.set j (y - x)) _ _ uv ov _ (by have := HL.out; simp; omega) (fun i hi => by
              rw [List.length_set] at hi
              rw [gi_setB hjm]
              have := HFR.out i hi
              split <;> omega) (by rw [List.length_set]; simp; omega) hzt (HB0.out.trans (HB3.out.mono hX)) HR3.out
            rw [List.length_append, List.length_singleton] at hrec
            clear c3 f3
            generalize w2.setCell ⟨X, 3, none⟩ (.slice (some ⟨gv, 0, none⟩) (bar.length + 1) cv) = w3 at *
            refine hrec.mono ?_
            clear hrec
            rintro e w4 ⟨rfl, hb4, bv4, uv4, ov4, hr4⟩
            rw [← HY.out, ← HYS.out, HY.out] at hr4
            have HB4 := Lib.hid (HB3.out.trans hb4)
            obtain ⟨g4, c4c, e4, hc4, _, _, _, _, _⟩ := hr4.bo.form (by rw [natL_length]; simp)
            rw [natL_length, List.length_append, List.length_singleton] at e4 hc4
            subst e4
            have HP4 := Lib.hid hr4.popB
            have HR4 := Lib.hid hr4
            have c3 := hr4.c3
            have f3 := hr4.fz 3
            clear hb4 hr4 hzt
            go_wp2_with fail
            have HR5 := Lib.hid HP4.out.1
            have HB5 := Lib.hid (HB4.out.trans HP4.out.2)
            clear c3 f3 HP4
            generalize w4.setCell ⟨X, 3, none⟩ (.slice (some ⟨g4, 0, none⟩) bar.length c4c) = w5 at *
            obtain ⟨gu5, capu5, eu5, hcu5, _, _, _, cellu5, fzu5⟩ := HR5.out.uo.form (by rw [usL_length, List.length_set]; omega)
            rw [usL_length, List.length_set] at eu5 hcu5
            have HEU5 := Lib.hid eu5
            have cU := cellu5 j (by rw [usL_length, List.length_set]; exact hjm)
            rw [gi_usL (by rw [List.length_set]; exact hjm), gi_setB hjm, if_pos rfl] at cU
            have fU := fzu5 j
            have c4 := HR5.out.c4
            rw [eu5] at c4
            have c0 := HR5.out.c0
            have c2 := HR5.out.c2
            have hcl := cell_keep (HB0.out.trans (HB5.out.mono hX)) HCL.out
            try dsimp only at hcl
            rw [HLI.out] at hcl
            have hjc5 : (j : Int) < (capu5 : Int) := by omega
            have hxl5 := HXLI.out
            have e3 : IntKind.i64.wrap (s - (y - x) - k) = s - (y - x) - k := IntWalk.i64_in _ (by omega)
            have e4 : IntKind.i64.wrap (s - (y - x) - k - li) = s - (y - x) - k - li := IntWalk.i64_in _ (by omega)
            have HXL5 := Lib.hid hxl5
            have hltu5 := HR5.out.lt
            clear eu5 cellu5 fzu5 hxl5
            go_wp2_with fail
            go_region
            all_goals
              have hu := RepP.setU HR5.out HEU5.out j y (s - (y - x) - k - li) (by have := HXL5.out; omega)
              have hback : (fr.set j (y - x)).set j y = fr := by rw [← HY.out, List.set_set, gi_lt hjm, List.set_getElem_self]
              rw [hback] at hu
              have HU := Lib.hid hu
              clear hu hback
              go_wp2_with fail
              go_roundg (fr.length - (j + 1))
              case measure => omega
              case rel =>
                exact ⟨j + 1, by omega, by go_num, rfl, (HB5.out.trans (HU.out.2.mono (by omega))).drew, _, _, _, HU.out.1.drew⟩
      · obtain rfl : j = fr.length := by omega
        have c4 := hr.c4
        obtain ⟨au2, cu2, eu2, hcu2⟩ := own_form0 hr.uo
        rw [usL_length] at eu2 hcu2
        subst eu2
        have huo := hr.uo
        have hfl20 : (usL s fr).length ≤ 1000000 := by rw [usL_length]; omega
        have HXLI := Lib.hid HXX.out
        have f4 := hr.fz 4
        have hW := hr
        clear hr
        go_wp2_with fail
        go_cut [] (fun wx => Below X wo wx ∧ ∃ uv', RepP wx X (.slice (some ⟨bl, ol, none⟩) l.length cap) s k bv uv' ov bar (fr ++ [s + k - x]) (plT (s + k) x ((ndL l k).drop (bar.length + 1)) fr bar st fr.length))
        case first =>
          have c4a := cell_alloc' c4 (.cells #[.int .i64 li] 3)
          have huo' := huo
          go_region_law
            (first
              | (refine step_row_app (B := X + 1) (v := .slice au2 fr.length cu2) (r := usL s fr) ?_ (.tmp 154) (.tmp 162) rfl _ li rfl rfl ?_ ?_ ?_ ?_ ?_; rfl; (with_reducible repeat (first | exact huo' | refine OwnI_drew' ?_ | refine OwnI_alloc' ?_ _)); (with_reducible repeat (first | exact SI_new0 | refine SI_drew ?_ | refine SI_alloc ?_ _)); omega; (first | exact (hW.alloc _).lt | exact (hW.drew.alloc _).lt | exact (hW.alloc _).drew.lt); intro vC wC hoC hgC hatC; obtain ⟨cC, fC⟩ := RepP.after4 (by with_reducible first | exact hW.alloc _ | exact hW.drew.alloc _ | exact (hW.alloc _).drew) hgC; obtain ⟨gC, cpC, eC, _, _, _, _, _, _⟩ := hoC.form (by simp); subst eC))
          all_goals
            have HP := RepP.pushU (y := s + k - x) (by with_reducible first | exact hW.alloc _ | exact hW.drew.alloc _ | exact (hW.alloc _).drew) (by have e : s - (s + k - x) = li := (by have := HXLI.out; omega); rw [e]; exact hoC) hgC hatC
            clear hoC hgC hatC cC fC c4a huo huo' hW c4 f4
            simp only [List.length_append, List.length_singleton] at HP
            go_wp2_with fail
            go_meet
            refine ⟨?_, _, HP.1⟩
            refine Below.trans ?_ HP.2
            with_reducible first | exact (Below.refl _ _).alloc (by omega) _ | exact ((Below.refl _ _).drew).alloc (by omega) _ | exact ((Below.refl _ _).alloc (by omega) _).drew
        case rest =>
          obtain ⟨hbx, uv6, hr6⟩ := hcut
          have HR6 := Lib.hid hr6
          have HB6 := Lib.hid (hbw.out.trans hbx)
          have c3 := hr6.c3
          have hlt6 := hr6.lt
          obtain ⟨ab, cb, eb, hcb⟩ := own_form0 hr6.bo
          rw [natL_length] at eb hcb
          rw [eb] at c3
          have HEB := Lib.hid eb
          have hbl : bar.length ≤ 12 := by omega
          clear hbx hr6 eb c4 f4 huo hW c0 hcl
          go_wp2_with (at_builtin; refine wpList_app_int rfl (.tmp 170) (.tmp 172) rfl (X + 1) _ _ (natL bar) [(fr.length : Int)] rfl rfl (by rw [← HEB.out]; exact HR6.out.bo.alloc _) (SI_one _ _ _) (by rw [natL_length]; simp; omega) (by simp; omega) ?_)
          intro v' w2 ho hg hat
          rw [← HEB.out] at hg hat
          have hx2 := blk_kept (HR6.out.alloc _).blk (HR6.out.alloc _).bo (Nat.lt_succ_self _) hg
          have hpb := fun w3 (h3 : w3 = w2.setCell ⟨X, 3, none⟩ v') => h3 ▸ RepP.pushB (HR6.out.alloc _) ho hg (by simpa using hat)
          obtain ⟨gv, cv, ev, _, _, _, _, _, _⟩ := ho.form (by simp)
          rw [List.length_append, List.length_singleton, natL_length] at ev
          subst ev
          have c3 : w2.cell? ⟨X, 3, none⟩ = some bv := by simp [World.cell?, hx2, blkP]
          have f3 : w2.frozen? ⟨X, 3, none⟩ = false := by simp [World.frozen?, hx2, blkP]
          have hpb := hpb _ rfl
          have HR7 := Lib.hid hpb.1
          have HB7 := Lib.hid ((HB6.out.alloc (by omega) (.cells #[.int .i64 (fr.length : Int)] 3)).trans hpb.2)
          clear ho hg hat hx2 hpb
          go_wp2_with fail
          have hzt : (plT (s + k) x ((ndL l k).drop (bar.length + 1)) fr bar st fr.length).2 ≤ 20 := Nat.le_trans (plT_le _) hst20
          have hxli := HXLI.out
          have hst := HG.out.stock
          have hrec := IH.out (bar ++ [fr.length]) (fr ++ [s + k - x]) _ _ uv6 ov _ (by have := HL.out; simp; omega) (fun i hi => by
            simp at hi
            by_cases e : i < fr.length
            · rw [gi_append_left e]; exact HFR.out i e
            · obtain rfl : i = fr.length := by omega
              rw [gi_append_one]; omega) (by simp; omega) hzt (HB0.out.trans (HB7.out.mono hX)) HR7.out
          rw [List.length_append, List.length_singleton] at hrec
          clear c3 f3
          generalize w2.setCell ⟨X, 3, none⟩ (.slice (some ⟨gv, 0, none⟩) (bar.length + 1) cv) = w7 at *
          refine hrec.mono ?_
          clear hrec
          rintro e w8 ⟨rfl, hb8, bv8, uv8, ov8, hr8⟩
          have HB8 := Lib.hid (HB7.out.trans hb8)
          obtain ⟨g8, c8c, e8, hc8, _, _, _, _, _⟩ := hr8.bo.form (by rw [natL_length]; simp)
          rw [natL_length, List.length_append, List.length_singleton] at e8 hc8
          subst e8
          have HP8 := Lib.hid hr8.popB
          have c3 := hr8.c3
          have f3 := hr8.fz 3
          clear hb8 hr8 hzt
          go_upto_region 18 with fail
          have HR9 := Lib.hid HP8.out.1
          have HB9 := Lib.hid (HB8.out.trans HP8.out.2)
          clear c3 f3 HP8
          generalize w8.setCell ⟨X, 3, none⟩ (.slice (some ⟨g8, 0, none⟩) bar.length c8c) = w9 at *
          obtain ⟨gu9, cu9, eu9, hcu9, _, _, _, _, _⟩ := HR9.out.uo.form (by rw [usL_length]; simp)
          rw [usL_length, List.length_append, List.length_singleton] at eu9 hcu9
          subst eu9
          have HPA := Lib.hid HR9.out.popU
          have c4 := HR9.out.c4
          have f4 := HR9.out.fz 4
          go_wp2_with fail
          refine bodyPost_end (results_none Try.results43 _ _ _) rfl ?_
          refine ⟨rfl, HB9.out.trans HPA.out.2, ?_⟩
          rw [HDR.out, plB_cons]
          exact ⟨_, _, _, HPA.out.1⟩
end Go.Proofs.Ytlgepggmgfnneaa
