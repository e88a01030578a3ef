/- Contract: flow.Best's search, its step. -/
import Derived.Test.YtijapbfkpmphpaaFlowO
namespace Go.Proofs.Ytijapbfkpmphpaa
open Go.RowKit

theorem step_app_int {ops : Array Oper} {o : Oper} {a : Act} {K : Act → World → Prop} {Q : Exit → Act → World → Prop} {w : World} {E : Prop} (hw : Region.wanted o (yielded ops a.tmps) = true) (s x : Operand)
    (ho : o.op = .call { callee := .builtin .append, args := #[s, x], argTypes := #[23, 23] })
    (B : Nat) (v u : Value) (r xs : List Int) (hs : a.eval s = v) (hx : a.eval x = u) (hown : OwnI w B v r) (hsrc : SI w u xs) (hlen : r.length + xs.length ≤ 100000000) (hb : B ≤ w.heap.size)
    (h : ∀ v' w', OwnI w' B v' (r ++ xs) → w.grownBy w' v.ownBlock → (v'.ownBlock = v.ownBlock ∨ v'.ownBlock = some w.heap.size) → K (a.put o.dst v') w') : if Region.wanted o (yielded ops a.tmps) = true then Oper.wp Try.prog o a w K Q else E := by
  rw [if_pos hw]
  exact wp_app_int s x ho B v u r xs hs hx hown hsrc hlen hb h

set_option maxHeartbeats 4000000 in
theorem search_any (w0 : World) (X : Nat) (pv : Value) (p : List (List Int)) (hp : SS w0 pv p) (hX : w0.heap.size ≤ X) (hg : Good p) : ∀ (f : Nat) (st : St) (pre : List Int) (u ov : Value) (w : World),
    pre.length + f = p.length → rightB p.length pre = true → Below w0.heap.size w0 w → RepC w X pv st st.left ov → OwnI w (X + 6) u pre → st.left ≤ 100000 →
    Calls Try.prog 43 #[u, .pointer (some ⟨X, 0, none⟩), .pointer (some ⟨X + 4, 0, none⟩), .pointer (some ⟨X + 2, 0, none⟩), .pointer (some ⟨X + 1, 0, none⟩), .pointer (some ⟨X + 3, 0, none⟩), .pointer (some ⟨X + 5, 0, none⟩)] w (PostC w X pv p f st pre) := by
  intro f
  induction f with
  | zero => exact fun st pre u ov w hl hpre hb0 hr hu _ => search_leaf w0 w X pv u ov _ p st pre hp hb0 hX hr rfl hu hg hpre (by omega)
  | succ f ih =>
    intro st pre u ov w hl hpre hb0 hr hu hleft
    have IH := Lib.hid ih
    clear ih
    have HP := Lib.hid hp
    have HU := Lib.hid hu
    have HR := Lib.hid hr
    have HG := Lib.hid hg
    have HPRE := Lib.hid hpre
    have h32 := hg.len
    have hp0 : 0 < p.length := by omega
    have h8r : (ri p 0).length ≤ 8 := (hg.st 0 hp0).2.1
    obtain ⟨vs, ⟨a, cap, rfl, h1, h2, h3⟩, h4⟩ := hp
    obtain ⟨a', cap', rfl, g1, g2, g3⟩ := hu.si
    obtain ⟨bp, op, rfl, hc0⟩ := h3 0 hp0
    obtain ⟨ak, capk, ek, n1, n2, hrow⟩ := h4 0 hp0
    rw [ek, Nat.add_zero] at hc0
    have hb : ((pre.length : Int) == (p.length : Int)) = false := by rw [beq_eq_false_iff_ne]; omega
    have hL := Lib.hid hl
    have hp32 : pre.length ≤ 32 := by omega
    have c0 := hr.c0
    have HC0 := Lib.hid hc0
    clear h3 h4 g3 hl hg hpre hu ek hrow hr hc0
    go_enter Try.func43, Try.ntmps43
    go_wp2_with fail
    refine (finish_any _ _ p pre w (HP.out.keep hb0) HU.out.si HG.out HPRE.out hp32).mono ?_
    rintro e w1 ⟨vt, rfl, hst, hb1⟩
    clear c0
    have HT := Lib.hid hst
    have HR1 := Lib.hid (HR.out.below hb1)
    have HU1 := Lib.hid (HU.out.below hb1)
    have hb01 := Lib.hid (hb0.trans (hb1.mono hb0.size))
    have HB1 := Lib.hid hb1
    clear hst hb1
    have c0 := HR1.out.c0
    have cc := cell_keep hb01.out HC0.out
    go_wp2_with fail
    clear c0 cc
    go_loopw [45] (fun i wr => ∃ s : Nat, s ≤ (ri p 0).length ∧ i = .int .i64 s ∧ Hid (Below w1.heap.size w1 wr) ∧ Hid (∀ j, j < s → bnd p st pre j = false)) (fun i _ => (ri p 0).length - (intOf i).toNat)
    case atStart => exact ⟨0, Nat.zero_le _, rfl, Below.refl _ _, fun j hj => by omega⟩
    case round =>
      obtain ⟨s, hs, rfl, hbw, hjs⟩ := hrel
      have HR2 := Lib.hid (HR1.out.below hbw.out)
      have HU2 := Lib.hid (HU1.out.below hbw.out)
      have HT2 := Lib.hid (HT.out.keep hbw.out)
      have HP2 := Lib.hid (HP.out.keep (hb01.out.trans (hbw.out.mono hb01.out.size)))
      by_cases hlt : s < (ri p 0).length
      · have c4 := HR2.out.c4
        cases hf : st.found
        · rw [hf] at c4
          go_wp2_with fail
          go_quiet (fail)
          go_wp2_with fail
          go_roundw
          case rel => exact ⟨s + 1, by omega, by go_num, below_drewN' hbw.out _, upto hjs.out (bnd_no hf)⟩
          case measure => simp [intOf]; omega
        · rw [hf] at c4
          have c3 := HR2.out.c2
          have c0 := HR2.out.c0
          have hbv := Lib.hid hf
          clear hf
          by_cases hsp : st.span ≤ boundV p pre s
          · have hbs : decide (st.span ≤ boundV p pre s) = true := by simpa using hsp
            have HPR := Lib.hid (expl_pruned (f := f) (pruned_hit hbv.out hlt hsp))
            clear hsp
            go_wp2_with fail
            go_quiet ((go_at_call 35; exact Calls.quiet_of (fbound_any _ _ _ p pre s _ (HP2.out.drewN _) (HU2.out.si.drewN _) (HT2.out.drewN _) HG.out HPRE.out hlt)))
            go_wp2_with fail
            go_ret
            refine ⟨Chg.of_below (ext_trans HB1.out (below_drewN' hbw.out _)), ?_⟩
            rw [HPR.out]
            exact ⟨rfl, _, HR2.out.below (below_drewN' (Below.refl _ _) _)⟩
          · have hbs : decide (st.span ≤ boundV p pre s) = false := by simpa using hsp
            have HBL := Lib.hid (bnd_less hsp)
            clear hsp
            go_wp2_with fail
            go_quiet ((go_at_call 35; exact Calls.quiet_of (fbound_any _ _ _ p pre s _ (HP2.out.drewN _) (HU2.out.si.drewN _) (HT2.out.drewN _) HG.out HPRE.out hlt)))
            go_wp2_with fail
            go_roundw
            case rel => exact ⟨s + 1, by omega, by go_num, below_drewN' hbw.out _, upto hjs.out HBL.out⟩
            case measure => simp [intOf]; omega
      · have HPM := Lib.hid (pruned_miss (st := st) (pre := pre) (fun j h => hjs.out j (by omega)))
        clear hjs
        have c1 := HR2.out.c3
        have cf := HR2.out.f3
        by_cases hl0 : st.left = 0
        · have hlb : ((st.left : Int) - 1 < 0) := by omega
          have HPR := Lib.hid (expl_none (f := f) HPM.out hl0)
          clear hl0
          go_wp2_with fail
          go_ret
          refine ⟨(Chg.of_below (ext_trans HB1.out hbw.out)).trans (Chg.set _ _ _ (by omega) (by omega)), ?_⟩
          rw [HPR.out]
          exact ⟨rfl, _, _, _, HR2.out.setLeft _ st rfl rfl rfl⟩
        · have hlb : ¬ ((st.left : Int) - 1 < 0) := by omega
          have HPR := Lib.hid (expl_tries (f := f) HPM.out hl0)
          have hl1 : 1 ≤ st.left := by omega
          have hsl : ((st.left : Int) - 1) = ((st.left - 1 : Nat) : Int) := by omega
          have HSL := Lib.hid hsl
          have c0 := HR2.out.c0
          clear hl0 hsl
          go_wp2_with fail
          have HWS : Hid (RepC (wr.setCell ⟨X + 3, 0, none⟩ (.int .i64 ((st.left : Int) - 1))) X (.slice (some ⟨bp, op, none⟩) p.length cap) (spend st) (spend st).left ov) := by
            have := HR2.out.setLeft ((st.left - 1 : Nat) : Int) (spend st) rfl rfl rfl
            rw [← HSL.out] at this
            have e : (((spend st).left : Nat) : Int) = (st.left : Int) - 1 := HSL.out.symm
            show RepC _ _ _ _ _ _
            rw [e]
            exact this
          have HGW : Hid (Chg w (wr.setCell ⟨X + 3, 0, none⟩ (.int .i64 ((st.left : Int) - 1))) X) := (Chg.of_below (ext_trans HB1.out hbw.out)).trans (Chg.set _ _ _ (by omega) (by omega))
          clear c0 c1 cf HR2 HU2 HT2 HP2 hbw HSL HR1 HU1 HT HB1 hb01
          generalize wr.setCell ⟨X + 3, 0, none⟩ (.int .i64 ((st.left : Int) - 1)) = ws at *
          go_loopw [65] (fun i wr => ∃ j : Nat, j ≤ p.length ∧ i = .int .i64 j ∧ Hid (Chg w wr X) ∧ Hid (∃ stj ovj, tries (tryJob p f pre) j (spend st) = some stj ∧ stj.left ≤ 100000 ∧ RepC wr X (.slice (some ⟨bp, op, none⟩) p.length cap) stj stj.left ovj)) (fun i _ => p.length - (intOf i).toNat)
          case atStart => exact ⟨0, Nat.zero_le _, rfl, HGW, spend st, ov, rfl, (by simp [spend]; omega), HWS.out⟩
          case round =>
            obtain ⟨wj, rfl⟩ : ∃ wj : World, wj = wr := ⟨_, rfl⟩
            obtain ⟨j, hj, rfl, hgw, hst⟩ := hrel
            obtain ⟨stj, ovj, htr, hlj, hrj⟩ := hst.out
            have HTR := Lib.hid htr
            have HRJ := Lib.hid hrj
            clear htr hrj hst
            have HUJ := Lib.hid (HU.out.chg hgw.out)
            have HB0 := Lib.hid (Chg.below hb0 hgw.out hX)
            have hXw : X + 6 ≤ wj.heap.size := HRJ.out.lt
            by_cases hjl : j < p.length
            · cases hh : pre.any (fun y => (j : Int) == y)
              · have HTJ := Lib.hid ((tries_succ HTR.out).trans (tryJob_new hh))
                have HPS := Lib.hid (rightB_snoc HPRE.out hjl hh)
                have HCO : Hid (Calls Try.prog 45 #[.slice a' pre.length cap', .int .i64 j] wj.drew fun e w' => e = .returned (.bool false) ∧ Below wj.heap.size wj w') :=
                  (contains_no _ _ _ wj.drew (show SI wj.drew _ pre from HUJ.out.si) hh).mono fun e w' ⟨h1, m, h2⟩ => ⟨h1, by rw [h2]; exact below_drewN' (Below.refl _ _).drew _⟩
                have HCL : Hid (∀ wz, Below wj.heap.size wj wz → Calls Try.prog 44 #[.slice a' pre.length cap'] wz fun e w' => ∃ v, e = .returned v ∧ OwnI w' wj.heap.size v pre ∧ Below wj.heap.size wj w' ∧ Below wz.heap.size wz w') :=
                  fun wz hz => (clone_int _ pre wz (HUJ.out.si.keep hz) HUJ.out.some_form (by omega)).mono fun e w' ⟨v, h1, h2, h3⟩ => ⟨v, h1, h2.mono hz.size, ext_trans hz h3, h3⟩
                clear hh
                have c5 := HRJ.out.c5
                cases hx : expl p f stj (pre ++ [(j : Int)]) with
                | none =>
                  have HTN := Lib.hid (tries_none (HTJ.out.trans hx) p.length (by omega))
                  have HREC : Hid (∀ va wa, OwnI wa wj.heap.size va (pre ++ [(j : Int)]) → Below wj.heap.size wj wa → Calls Try.prog 43 #[va, .pointer (some ⟨X, 0, none⟩), .pointer (some ⟨X + 4, 0, none⟩), .pointer (some ⟨X + 2, 0, none⟩), .pointer (some ⟨X + 1, 0, none⟩), .pointer (some ⟨X + 3, 0, none⟩), .pointer (some ⟨X + 5, 0, none⟩)] wa fun e w' => e = .returned (.bool false) ∧ Chg wa w' X ∧ ∃ stz lz ovz, RepC w' X (.slice (some ⟨bp, op, none⟩) p.length cap) stz lz ovz) := by
                    intro va wa h1 h2
                    refine (IH.out stj (pre ++ [(j : Int)]) va ovj wa (by have := hL.out; simp; omega) HPS.out (HB0.out.trans (h2.mono HB0.out.size)) (HRJ.out.below h2) (h1.mono hXw) hlj).mono ?_
                    rintro e w' ⟨h3, h4⟩
                    rw [hx] at h4
                    exact ⟨h4.1, h3, h4.2⟩
                  clear hx
                  go_wp2_with fail
                  go_region_held3 (fun w' => w'.cell? ⟨X + 5, 0, none⟩ = some (.func (.func 43) #[] #[.pointer (some ⟨X, 0, none⟩), .pointer (some ⟨X + 4, 0, none⟩), .pointer (some ⟨X + 2, 0, none⟩), .pointer (some ⟨X + 1, 0, none⟩), .pointer (some ⟨X + 3, 0, none⟩), .pointer (some ⟨X + 5, 0, none⟩)]))
                    (first | exact c5 | exact cell_keep hby c5 | exact cell_keep (hby.alloc hby.size _) c5 | exact cell_keep hbcj c5 | exact cell_keep (hbcj.alloc hbcj.size _) c5 | exact cell_keep hba c5 | exact hcr.cell5 (cell_keep hba c5))
                    (first
                      | (go_at_call 45; refine HCO.out.mono ?_; rintro e wy ⟨rfl, hby⟩)
                      | (go_at_call 44; refine (HCL.out _ (by first | exact hby | exact hby.alloc hby.size _)).mono ?_; rintro e wc ⟨vc, rfl, hoc, hbcj, hbc⟩)
                      | (refine step_app_int (by rfl) (.tmp 75) (.tmp 77) (by rfl) wj.heap.size vc _ pre [(j : Int)] (by rfl) (by rfl) (by first | exact hoc.alloc _ | exact hoc) (by first | exact SI_one _ _ _ | exact (SI_one _ _ _).keep hbc) (by simp; omega) (by first | exact hbcj.size | (have := hbcj.size; simp; omega)) ?_; intro va wa hoa hga _; have hba : Below wj.heap.size wj wa := by first | exact (hbcj.alloc hbcj.size _).grown hga (by have := hbcj.size; simp; omega) (fun k hk => (World.ownsRow.lt hoc k hk).1) | exact hbcj.grown hga hbcj.size (fun k hk => (World.ownsRow.lt hoc k hk).1))
                      | (go_at_call 43; refine (HREC.out va wa hoa hba).mono ?_; rintro e wr2 ⟨rfl, hcr, stz, lz, ovz, hrz⟩))
                  all_goals
                    have HCG := Lib.hid ((hgw.out.trans (Chg.of_below hba)).trans hcr)
                    have HRZ := Lib.hid hrz
                    clear hby hbcj hbc hba hcr hoc hoa hga c5 hrz
                    go_wp2_with fail
                    go_ret
                    refine ⟨HCG.out, ?_⟩
                    rw [HPR.out, HTN.out]
                    exact ⟨rfl, _, _, _, HRZ.out⟩
                | some st' =>
                  have HTS := Lib.hid (HTJ.out.trans hx)
                  have HLE := Lib.hid (expl_left p f _ _ _ hx)
                  have HREC : Hid (∀ va wa, OwnI wa wj.heap.size va (pre ++ [(j : Int)]) → Below wj.heap.size wj wa → Calls Try.prog 43 #[va, .pointer (some ⟨X, 0, none⟩), .pointer (some ⟨X + 4, 0, none⟩), .pointer (some ⟨X + 2, 0, none⟩), .pointer (some ⟨X + 1, 0, none⟩), .pointer (some ⟨X + 3, 0, none⟩), .pointer (some ⟨X + 5, 0, none⟩)] wa fun e w' => e = .returned (.bool true) ∧ Chg wa w' X ∧ ∃ ov', RepC w' X (.slice (some ⟨bp, op, none⟩) p.length cap) st' st'.left ov') := by
                    intro va wa h1 h2
                    refine (IH.out stj (pre ++ [(j : Int)]) va ovj wa (by have := hL.out; simp; omega) HPS.out (HB0.out.trans (h2.mono HB0.out.size)) (HRJ.out.below h2) (h1.mono hXw) hlj).mono ?_
                    rintro e w' ⟨h3, h4⟩
                    rw [hx] at h4
                    exact ⟨h4.1, h3, h4.2⟩
                  clear hx
                  go_wp2_with fail
                  go_region_held3 (fun w' => w'.cell? ⟨X + 5, 0, none⟩ = some (.func (.func 43) #[] #[.pointer (some ⟨X, 0, none⟩), .pointer (some ⟨X + 4, 0, none⟩), .pointer (some ⟨X + 2, 0, none⟩), .pointer (some ⟨X + 1, 0, none⟩), .pointer (some ⟨X + 3, 0, none⟩), .pointer (some ⟨X + 5, 0, none⟩)]))
                    (first | exact c5 | exact cell_keep hby c5 | exact cell_keep (hby.alloc hby.size _) c5 | exact cell_keep hbcj c5 | exact cell_keep (hbcj.alloc hbcj.size _) c5 | exact cell_keep hba c5 | exact hcr.cell5 (cell_keep hba c5))
                    (first
                      | (go_at_call 45; refine HCO.out.mono ?_; rintro e wy ⟨rfl, hby⟩)
                      | (go_at_call 44; refine (HCL.out _ (by first | exact hby | exact hby.alloc hby.size _)).mono ?_; rintro e wc ⟨vc, rfl, hoc, hbcj, hbc⟩)
                      | (refine step_app_int (by rfl) (.tmp 75) (.tmp 77) (by rfl) wj.heap.size vc _ pre [(j : Int)] (by rfl) (by rfl) (by first | exact hoc.alloc _ | exact hoc) (by first | exact SI_one _ _ _ | exact (SI_one _ _ _).keep hbc) (by simp; omega) (by first | exact hbcj.size | (have := hbcj.size; simp; omega)) ?_; intro va wa hoa hga _; have hba : Below wj.heap.size wj wa := by first | exact (hbcj.alloc hbcj.size _).grown hga (by have := hbcj.size; simp; omega) (fun k hk => (World.ownsRow.lt hoc k hk).1) | exact hbcj.grown hga hbcj.size (fun k hk => (World.ownsRow.lt hoc k hk).1))
                      | (go_at_call 43; refine (HREC.out va wa hoa hba).mono ?_; rintro e wr2 ⟨rfl, hcr, ovr, hrr⟩))
                  all_goals
                    have HCG := Lib.hid ((hgw.out.trans (Chg.of_below hba)).trans hcr)
                    have HRR := Lib.hid hrr
                    clear hby hbcj hbc hba hcr hoc hoa hga c5 hrr
                    go_wp2_with fail
                    go_roundw
                    case rel => exact ⟨j + 1, by omega, by go_num, HCG.out, st', ovr, HTS.out, Nat.le_trans HLE.out hlj, HRR.out⟩
                    case measure => simp [intOf]; omega
              · have HTJ := Lib.hid ((tries_succ HTR.out).trans (tryJob_has hh))
                have HH := Lib.hid hh
                clear hh
                go_wp2_with fail
                go_quiet ((go_at_call 45; exact Calls.quiet_of (contains_yes _ _ _ _ (HUJ.out.si.drewN _) HH.out)))
                go_wp2_with fail
                go_roundw
                case rel => exact ⟨j + 1, by omega, by go_num, hgw.out.trans (Chg.of_below (below_drewN' (Below.refl _ _) _)), stj, ovj, HTJ.out, hlj, HRJ.out.below (below_drewN' (Below.refl _ _) _)⟩
                case measure => simp [intOf]; omega
            · have hjp : j = p.length := by omega
              have HTE := HTR.out
              rw [hjp] at HTE
              have HTE := Lib.hid HTE
              clear hjp
              go_wp2_with fail
              go_ret
              refine ⟨hgw.out, ?_⟩
              rw [HPR.out, HTE.out]
              exact ⟨rfl, _, HRJ.out⟩
end Go.Proofs.Ytijapbfkpmphpaa
