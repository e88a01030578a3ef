/- Contract: the reference's explore. -/
import Derived.Test.YtijapbfkpmphpaaFlowL
import Derived.Deep.RegionHeld3
namespace Go.Proofs.Ytijapbfkpmphpaa
open Go.RowKit

set_option maxHeartbeats 1000000 in
theorem explore_leaf (w0 w : World) (X : Nat) (pv u : Value) (p : List (List Int)) (st : St) (pre : List Int) (hp : SS w0 pv p) (hb0 : Below w0.heap.size w0 w) (hX : w0.heap.size ≤ X)
    (hr : RepX w w0.heap.size X pv st) (hu : OwnI w w0.heap.size u pre) (hg : Good p) (hpre : rightB p.length pre = true) (hl : pre.length = p.length) :
    Calls Try.prog 46 #[.pointer (some ⟨X, 0, none⟩), u] w (PostX w w0.heap.size X pv p 0 st pre) := by
  have HP := Lib.hid hp
  have HU := Lib.hid hu
  have HR := Lib.hid hr
  have HG := Lib.hid hg
  have HPRE := Lib.hid hpre
  have h32 := hg.len
  obtain ⟨vs, ⟨a, cap, rfl, h1, h2, h3⟩, h4⟩ := hp
  obtain ⟨a', cap', rfl, g1, g2, g3⟩ := hu.si
  have hb : ((pre.length : Int) == (p.length : Int)) = true := by rw [beq_iff_eq]; omega
  have hp32 : pre.length ≤ 32 := by omega
  clear h3 h4 g3 hl hg hpre hu
  have c0 := hr.c0
  clear hr
  go_enter Try.func46, Try.ntmps46
  go_wp2_with fail
  refine (rlength_any _ _ p pre w (HP.out.keep hb0) HU.out.si HG.out HPRE.out).mono ?_
  rintro e w1 ⟨rfl, hb1⟩
  clear c0
  have HR1 := Lib.hid (HR.out.below hb1)
  have HU1 := Lib.hid (HU.out.below hb1)
  have c3 := HR1.out.c3
  have c4 := HR1.out.c4
  have HN : Hid (lenV p pre = lastV p pre ((ri p 0).length - 1)) := rfl
  have HNE := Lib.hid (HR1.out.ne HU1.out)
  have hXl : X < w1.heap.size := by obtain ⟨ov, hx, _⟩ := HR1.out; exact lt_of_block hx
  by_cases hc : st.found = false ∨ lastV p pre ((ri p 0).length - 1) < st.span
  · have HL := Lib.hid (leaf_hit (p := p) (pre := pre) hc)
    cases hf : st.found
    · rw [hf] at c4
      clear hf hc
      have cf := HR1.out.fz
      go_wp2_with (at_builtin; refine wpList_app_int rfl _ _ rfl w0.heap.size _ _ [] pre rfl rfl (OwnI_empty _ _ (Nat.le_trans hb0.size hb1.size)) (HU1.out.si.alloc _) (by simp; omega) (by have := hb0.size; have := hb1.size; simp; omega) ?_)
      intro v' w2 ho hgr _
      have hb2 : Below w1.heap.size w1 w2 := ((Below.refl _ _).alloc (Nat.le_refl _) _).grown hgr (by simp) (by simp [Value.ownBlock])
      obtain ⟨av, cv, ev, _, _, _⟩ := ho.si
      rw [ev] at ho ⊢
      clear ev
      have HO := Lib.hid ho
      have HB2 := Lib.hid hb2
      have HR2 := Lib.hid (HR1.out.below hb2)
      clear ho hgr hb2 c3 c4 cf
      obtain ⟨ov, c2, _⟩ := HR2.out.c2
      have c3 := HR2.out.c3
      have c4 := HR2.out.c4
      have cf := HR2.out.fz
      go_wp2_with fail
      go_ret
      refine ⟨grownBy_trans (grownBy_of_below (ext_trans hb1 HB2.out) _) (grownBy_trans (grownBy_trans (grownBy_setCell _ _ _ _) (grownBy_setCell _ _ _ _)) (grownBy_setCell _ _ _ _)), ?_⟩
      rw [expl_zero, HL.out]
      exact ⟨rfl, HR2.out.setBest HO.out _⟩
    · rw [hf] at c4
      have hlt : lastV p pre ((ri p 0).length - 1) < st.span := by rcases hc with hc | hc; rw [hf] at hc; cases hc; exact hc
      have hb4 : decide (lastV p pre ((ri p 0).length - 1) < st.span) = true := by simpa using hlt
      clear hf hc hlt
      have cf := HR1.out.fz
      go_wp2_with (at_builtin; refine wpList_app_int rfl _ _ rfl w0.heap.size _ _ [] pre rfl rfl (OwnI_empty _ _ (Nat.le_trans hb0.size hb1.size)) (HU1.out.si.alloc _) (by simp; omega) (by have := hb0.size; have := hb1.size; simp; omega) ?_)
      intro v' w2 ho hgr _
      have hb2 : Below w1.heap.size w1 w2 := ((Below.refl _ _).alloc (Nat.le_refl _) _).grown hgr (by simp) (by simp [Value.ownBlock])
      obtain ⟨av, cv, ev, _, _, _⟩ := ho.si
      rw [ev] at ho ⊢
      clear ev
      have HO := Lib.hid ho
      have HB2 := Lib.hid hb2
      have HR2 := Lib.hid (HR1.out.below hb2)
      clear ho hgr hb2 c3 c4 cf
      obtain ⟨ov, c2, _⟩ := HR2.out.c2
      have c3 := HR2.out.c3
      have c4 := HR2.out.c4
      have cf := HR2.out.fz
      go_wp2_with fail
      go_ret
      refine ⟨grownBy_trans (grownBy_of_below (ext_trans hb1 HB2.out) _) (grownBy_trans (grownBy_trans (grownBy_setCell _ _ _ _) (grownBy_setCell _ _ _ _)) (grownBy_setCell _ _ _ _)), ?_⟩
      rw [expl_zero, HL.out]
      exact ⟨rfl, HR2.out.setBest HO.out _⟩
  · have HL := Lib.hid (leaf_miss (p := p) (pre := pre) hc)
    have hf : st.found = true := by cases h : st.found; exact absurd (Or.inl h) hc; rfl
    have hlt : ¬ lastV p pre ((ri p 0).length - 1) < st.span := fun h => hc (.inr h)
    have hb4 : decide (lastV p pre ((ri p 0).length - 1) < st.span) = false := by simpa using hlt
    rw [hf] at c4
    clear hf hc hlt
    go_wp2_with fail
    go_ret
    refine ⟨grownBy_of_below hb1 _, ?_⟩
    rw [expl_zero, HL.out]
    exact ⟨rfl, HR1.out⟩

set_option maxHeartbeats 4000000 in
theorem explore_any (w0 : World) (X : Nat) (pv : Value) (p : List (List Int)) (hp : SS w0 pv p) (hX : w0.heap.size ≤ X) (hg : Good p) : ∀ (f : Nat) (st : St) (pre : List Int) (u : Value) (w : World),
    pre.length + f = p.length → rightB p.length pre = true → Below w0.heap.size w0 w → RepX w w0.heap.size X pv st → OwnI w w0.heap.size u pre →
    st.left ≤ 100000 → Calls Try.prog 46 #[.pointer (some ⟨X, 0, none⟩), u] w (PostX w w0.heap.size X pv p f st pre) := by
  intro f
  induction f with
  | zero => exact fun st pre u w hl hpre hb0 hr hu _ => explore_leaf w0 w X pv u p st pre hp hb0 hX hr hu hg hpre (by omega)
  | succ f ih =>
    intro st pre u w hl hpre hb0 hr hu hleft
    have IH := Lib.hid ih
    clear ih
    have HP := Lib.hid hp
    have HU := Lib.hid hu
    have HR := Lib.hid hr
    have HG := Lib.hid hg
    have HPRE := Lib.hid hpre
    have HNE := Lib.hid (hr.ne hu)
    have h32 := hg.len
    have hp0 : 0 < p.length := by omega
    have hst := hg.st 0 hp0
    have h8r : (ri p 0).length ≤ 8 := hst.2.1
    clear hst
    obtain ⟨vs, ⟨a, cap, rfl, h1, h2, h3⟩, h4⟩ := hp
    obtain ⟨a', cap', rfl, g1, g2, g3⟩ := hu.si
    obtain ⟨bp, op, rfl, hc0⟩ := h3 0 hp0
    obtain ⟨ak, capk, ek, n1, n2, hrow⟩ := h4 0 hp0
    rw [ek, Nat.add_zero] at hc0
    have hb : ((pre.length : Int) == (p.length : Int)) = false := by rw [beq_eq_false_iff_ne]; omega
    have hL := Lib.hid hl
    clear h3 h4 g3 hl hg hpre hu ek hrow
    have HC0 := Lib.hid (cell_keep hb0 hc0)
    clear hc0
    have c0 := hr.c0
    clear hr
    have hXl : X < w.heap.size := by obtain ⟨ov, hx, _⟩ := HR.out; exact lt_of_block hx
    go_enter Try.func46, Try.ntmps46
    go_wp2_with fail
    clear c0
    go_loopw [6] (fun i wr => ∃ s : Nat, s ≤ (ri p 0).length ∧ i = .int .i64 s ∧ Hid (Below w.heap.size w wr) ∧ Hid (∀ j, j < s → bnd p st pre j = false)) (fun i _ => (ri p 0).length - (intOf i).toNat)
    case atStart => exact ⟨0, Nat.zero_le _, rfl, Below.refl _ _, fun j hj => by omega⟩
    case round =>
      obtain ⟨s, hs, rfl, hbw, hjs⟩ := hrel
      have HR1 := Lib.hid (HR.out.below hbw.out)
      have HU1 := Lib.hid (HU.out.below hbw.out)
      have c0 := HR1.out.c0
      have cc := cell_keep hbw.out HC0.out
      by_cases hlt : s < (ri p 0).length
      · have c4 := HR1.out.c4
        cases hf : st.found
        · rw [hf] at c4
          go_wp2_with fail
          go_quiet (fail)
          go_wp2_with fail
          go_roundw
          case rel => exact ⟨s + 1, by omega, by go_num, below_drewN' hbw.out _, upto hjs.out (bnd_no hf)⟩
          case measure => simp [intOf]; omega
        · rw [hf] at c4
          have c3 := HR1.out.c3
          have HRB := Lib.hid (fun wz (hz : Below wr.heap.size wr wz) => rbound_any _ _ p pre s wz (HP.out.keep (hb0.trans (ext_trans hbw.out hz |>.mono hb0.size))) (HU1.out.below hz).si HG.out HPRE.out hlt)
          have hbv := Lib.hid hf
          clear hf
          by_cases hsp : st.span ≤ boundV p pre s
          · have hbs : decide (st.span ≤ boundV p pre s) = true := by simpa using hsp
            have HPR := Lib.hid (expl_pruned (f := f) (pruned_hit hbv.out hlt hsp))
            clear hsp
            go_wp2_with fail
            go_region_held3 (fun w' => w'.cell? ⟨X, 0, none⟩ = some (.slice (some ⟨bp, op, none⟩) p.length cap) ∧ w'.cell? ⟨X, 3, none⟩ = some (.int .i64 st.span) ∧ w'.cell? ⟨X, 4, none⟩ = some (.bool true))
              (first | exact ⟨c0, c3, c4⟩ | exact ⟨cell_keep hbx c0, cell_keep hbx c3, cell_keep hbx c4⟩)
              (first | (go_at_call 36; refine (HRB.out _ ((Below.refl _ _).drew)).mono ?_; rintro e wy ⟨rfl, hbx⟩))
            have hby : Below w.heap.size w wy := hbw.out.trans (((Below.refl _ _).drew.trans hbx).mono hbw.out.size)
            go_wp2_with fail
            go_ret
            refine ⟨grownBy_of_below hby _, ?_⟩
            rw [HPR.out]
            exact ⟨rfl, HR.out.below hby⟩
          · have hbs : decide (st.span ≤ boundV p pre s) = false := by simpa using hsp
            have HBL := Lib.hid (bnd_less hsp)
            clear hsp
            go_wp2_with fail
            go_region_held3 (fun w' => w'.cell? ⟨X, 0, none⟩ = some (.slice (some ⟨bp, op, none⟩) p.length cap) ∧ w'.cell? ⟨X, 3, none⟩ = some (.int .i64 st.span) ∧ w'.cell? ⟨X, 4, none⟩ = some (.bool true))
              (first | exact ⟨c0, c3, c4⟩ | exact ⟨cell_keep hbx c0, cell_keep hbx c3, cell_keep hbx c4⟩)
              (first | (go_at_call 36; refine (HRB.out _ ((Below.refl _ _).drew)).mono ?_; rintro e wy ⟨rfl, hbx⟩))
            have hby : Below w.heap.size w wy := hbw.out.trans (((Below.refl _ _).drew.trans hbx).mono hbw.out.size)
            go_wp2_with fail
            go_roundw
            case rel => exact ⟨s + 1, by omega, by go_num, hby, upto hjs.out HBL.out⟩
            case measure => simp [intOf]; omega
      · have HPM := Lib.hid (pruned_miss (st := st) (pre := pre) (fun j h => hjs.out j (by omega)))
        clear hjs
        have c1 := HR1.out.c1
        have cf := HR1.out.fz 1
        by_cases hl0 : st.left = 0
        · have hlb : ((st.left : Int) == 0) = true := by rw [beq_iff_eq]; omega
          have HPR := Lib.hid (expl_none (f := f) HPM.out hl0)
          clear hl0
          go_wp2_with fail
          go_ret
          refine ⟨grownBy_of_below hbw.out _, ?_⟩
          rw [HPR.out]
          rfl
        · have hlb : ((st.left : Int) == 0) = false := by rw [beq_eq_false_iff_ne]; omega
          have HPR := Lib.hid (expl_tries (f := f) HPM.out hl0)
          have hl1 : 1 ≤ st.left := by omega
          have hsl : ((st.left : Int) - 1) = ((st.left - 1 : Nat) : Int) := by omega
          have HSL := Lib.hid hsl
          clear hl0 hsl
          go_wp2_with fail
          rw [HSL.out]
          have HRS : Hid (RepX (wr.setCell ⟨X, 1, none⟩ (.int .i64 ((st.left - 1 : Nat) : Int))) w0.heap.size X _ (spend st)) := HR1.out.setLeft (st.left - 1)
          have HGW : Hid (w.grownBy (wr.setCell ⟨X, 1, none⟩ (.int .i64 ((st.left - 1 : Nat) : Int))) (some X)) := grownBy_trans (grownBy_of_below hbw.out _) (grownBy_setCell _ _ _ _)
          clear c0 c1 cf cc HR1 HU1 hbw HSL
          generalize wr.setCell ⟨X, 1, none⟩ (.int .i64 ((st.left - 1 : Nat) : Int)) = ws at *
          go_loopw [7] (fun i wr => ∃ j : Nat, j ≤ p.length ∧ i = .int .i64 j ∧ Hid (w.grownBy wr (some X)) ∧ Hid (∃ stj, tries (tryJob p f pre) j (spend st) = some stj ∧ stj.left ≤ 100000 ∧ RepX wr w0.heap.size X (.slice (some ⟨bp, op, none⟩) p.length cap) stj)) (fun i _ => p.length - (intOf i).toNat)
          case atStart => exact ⟨0, Nat.zero_le _, rfl, HGW, spend st, rfl, (by simp [spend]; omega), HRS.out⟩
          case round =>
            obtain ⟨j, hj, rfl, hgw, hst⟩ := hrel
            obtain ⟨stj, htr, hlj, hrj⟩ := hst.out
            have HTR := Lib.hid htr
            have HRJ := Lib.hid hrj
            have c0 := hrj.c0
            clear htr hrj hst
            have HUJ := Lib.hid (HU.out.grown hgw.out HNE.out)
            have HB0 := Lib.hid (below_of_grownBy hb0 hgw.out hX)
            by_cases hjl : j < p.length
            · go_wp2_with fail
              refine (has_any _ _ _ _ HUJ.out.si).mono ?_
              rintro e w1 ⟨rfl, m1, rfl⟩
              cases hh : pre.any (fun y => (j : Int) == y)
              · have HTJ := Lib.hid ((tries_succ HTR.out).trans (tryJob_new hh))
                have HPS := Lib.hid (rightB_snoc HPRE.out hjl hh)
                clear hh
                have hwz : Below wr.heap.size wr (wr.drewN m1) := below_drewN' (Below.refl _ _) _
                have hB0 : w0.heap.size ≤ wr.heap.size := HB0.out.size
                generalize wr.drewN m1 = wq at *
                have HUQ := Lib.hid (HUJ.out.below hwz)
                have HRQ := Lib.hid (HRJ.out.below hwz)
                have HBQ := Lib.hid (HB0.out.trans (hwz.mono hB0))
                have hGQ := Lib.hid (grownBy_trans hgw.out (grownBy_of_below hwz _))
                have hBq : w0.heap.size ≤ wq.heap.size := HBQ.out.size
                clear c0 hwz hgw HUJ HRJ HB0
                have hpl : pre.length ≤ 32 := by have := hL.out; omega
                go_wp2_with (at_builtin; refine wpList_app_int rfl (.tmp 104) (.tmp 105) rfl wq.heap.size _ _ [] pre rfl rfl (OwnI_empty _ _ (Nat.le_refl _)) (HUQ.out.si.alloc _) (by simp; omega) (by simp) ?_)
                intro v1 w2 ho1 hg1 _
                have hb2 : Below wq.heap.size wq w2 := ((Below.refl _ _).alloc (Nat.le_refl _) _).grown hg1 (by simp) (by simp [Value.ownBlock])
                have HO1 := Lib.hid ho1
                have HB2 := Lib.hid hb2
                have hB2 : wq.heap.size ≤ w2.heap.size := hb2.size
                clear ho1 hg1 hb2
                go_wp2_with (at_builtin; refine wpList_app_int rfl (.tmp 106) (.tmp 108) rfl wq.heap.size _ _ pre [(j : Int)] rfl rfl (HO1.out.alloc _) (SI_one _ _ _) (by simp; omega) (by simp; omega) ?_)
                intro v2 w3 ho2 hg2 _
                have hb3 : Below wq.heap.size wq w3 := (HB2.out.alloc hB2 _).grown hg2 (by simp; omega) (fun k hk => (World.ownsRow.lt HO1.out k hk).1)
                have HO2 := Lib.hid (ho2.mono hBq)
                have HB3 := Lib.hid hb3
                clear ho2 hg2 hb3 hB2
                go_wp2_with fail
                refine (IH.out stj (pre ++ [(j : Int)]) v2 w3 (by have := hL.out; simp; omega) HPS.out (HBQ.out.trans (HB3.out.mono hBq)) (HRQ.out.below HB3.out) HO2.out hlj).mono ?_
                rintro e w4 ⟨hg4, hm⟩
                have HG4 := Lib.hid (grownBy_trans (grownBy_trans hGQ.out (grownBy_of_below HB3.out _)) hg4)
                clear hg4
                cases hx : expl p f stj (pre ++ [(j : Int)]) with
                | none =>
                  rw [hx] at hm
                  have HTN := Lib.hid (tries_none (HTJ.out.trans hx) p.length (by omega))
                  clear hx
                  obtain rfl := hm
                  go_wp2_with fail
                  go_ret
                  refine ⟨HG4.out, ?_⟩
                  rw [HPR.out, HTN.out]
                  rfl
                | some st' =>
                  rw [hx] at hm
                  have HTS := Lib.hid (HTJ.out.trans hx)
                  have HLE := Lib.hid (expl_left p f _ _ _ hx)
                  clear hx
                  obtain ⟨rfl, hrep⟩ := hm
                  have HREP := Lib.hid hrep
                  clear hrep
                  go_wp2_with fail
                  go_roundw
                  case rel => exact ⟨j + 1, by omega, by go_num, HG4.out, st', HTS.out, Nat.le_trans HLE.out hlj, HREP.out⟩
                  case measure => simp [intOf]; omega
              · have HTJ := Lib.hid ((tries_succ HTR.out).trans (tryJob_has hh))
                clear hh
                go_wp2_with fail
                go_roundw
                case rel => exact ⟨j + 1, by omega, by go_num, grownBy_trans hgw.out (grownBy_of_below (below_drewN' (Below.refl _ _) _) _), stj, HTJ.out, hlj, HRJ.out.below (below_drewN' (Below.refl _ _) _)⟩
                case measure => simp [intOf]; omega
            · have hjp : j = p.length := by omega
              have HTE := HTR.out
              rw [hjp] at HTE
              have HTE := Lib.hid HTE
              clear hjp
              go_wp2_with fail
              go_ret
              refine ⟨hgw.out, ?_⟩
              rw [HPR.out, HTE.out]
              exact ⟨rfl, HRJ.out⟩
end Go.Proofs.Ytijapbfkpmphpaa
