/- Contract: the search of bars.divide. -/
import Derived.Test.YtlgepggmgfnneaaBarR
import Derived.BigRegion
import Derived.Deep.RegionLaw
import Derived.Outline
import Derived.Deep.DeepCutAuto
namespace Go.Proofs.Ytlgepggmgfnneaa
open Go.RowKit

theorem drop_need {l : List Int} {k : Int} {i : Nat} (h : i < l.length) : (ndL l k).drop i = (gi l i + k) :: (ndL l k).drop (i + 1) := by
  rw [List.drop_eq_getElem_cons (by rw [ndL_length]; exact h)]
  congr 1
  rw [← gi_ndL h, gi_lt (by rw [ndL_length]; exact h)]
theorem drop_done {l : List Int} {k : Int} {i : Nat} (h : i = l.length) : (ndL l k).drop i = [] := by
  rw [h]; apply List.drop_eq_nil_of_le; rw [ndL_length]; exact Nat.le_refl _
theorem free_set {fr : List Int} {c x : Int} {j : Nat} (hj : j < fr.length) (hx0 : 0 ≤ x) (hx : x ≤ gi fr j) (h : ∀ i, i < fr.length → 0 ≤ gi fr i ∧ gi fr i ≤ c) : ∀ i, i < (fr.set j (gi fr j - x)).length → 0 ≤ gi (fr.set j (gi fr j - x)) i ∧ gi (fr.set j (gi fr j - x)) i ≤ c := by
  intro i hi
  rw [List.length_set] at hi
  rw [gi_setB hj]
  have := h i hi
  have := h j hj
  split <;> omega
theorem free_app {fr : List Int} {c y : Int} (hy : 0 ≤ y ∧ y ≤ c) (h : ∀ i, i < fr.length → 0 ≤ gi fr i ∧ gi fr i ≤ c) : ∀ i, i < (fr ++ [y]).length → 0 ≤ gi (fr ++ [y]) i ∧ gi (fr ++ [y]) i ≤ c := by
  intro i hi
  simp at hi
  by_cases e : i < fr.length
  · rw [gi_append_left e]; exact h i e
  · obtain rfl : i = fr.length := by omega
    rw [gi_append_one]; exact hy
theorem set_set_back {fr : List Int} {j : Nat} (hj : j < fr.length) (y : Int) : (fr.set j y).set j (gi fr j) = fr := by
  rw [List.set_set, gi_lt hj, List.set_getElem_self]
theorem set_set_backR {rs : List (List Int)} {j : Nat} (hj : j < rs.length) (y : List Int) : (rs.set j y).set j (ri rs j) = rs := by
  rw [List.set_set, ri_lt hj, List.set_getElem_self]
theorem dvAt_small {c : Int} {n : Nat} {x : Int} {xs fr : List Int} {j : Nat} (h : ¬ x ≤ gi fr j) : dvAt c n x xs fr j = none := if_neg h
theorem dvAt_try {c : Int} {n : Nat} {x : Int} {xs fr : List Int} {j : Nat} (h : x ≤ gi fr j) : dvAt c n x xs fr j = (dv c n xs (fr.set j (gi fr j - x))).map (consB j) := if_pos h
theorem same_of_any {fr : List Int} {j : Nat} (hj : j < fr.length) (h : ((fr.take j).any fun z => gi fr j == z) = true) : ∃ j', j' < j ∧ gi fr j' = gi fr j := by
  rw [List.any_eq_true] at h
  obtain ⟨z, hz, he⟩ := h
  obtain ⟨j', h1, h2⟩ := mem_gi hz
  simp at h1 he
  rw [gi_take (by omega)] at h2
  exact ⟨j', by omega, by omega⟩

theorem OwnI.pop {w : World} {B g cap : Nat} {r : List Int} {y : Int} (h : OwnI w B (.slice (some ⟨g, 0, none⟩) (r.length + 1) cap) (r ++ [y])) : OwnI w B (.slice (some ⟨g, 0, none⟩) r.length cap) r := by
  have ho : w.ownsRow B 3 1 _ (r ++ [y]).length ((r ++ [y]).map (Value.int .i64)) := h
  rw [List.length_append, List.length_singleton, List.map_append, List.map_singleton] at ho
  exact ownsRow_pop (by simp) ho
/-- the arguments of the search -/
theorem SI.sl {w : World} {v : Value} {xs : List Int} (h : SI w v xs) : ∃ a cap, v = .slice a xs.length cap ∧ xs.length ≤ cap ∧ cap ≤ maxLen ∧ ∀ i, i < xs.length → ∃ b off, a = some ⟨b, off, none⟩ ∧ w.cell? ⟨b, off + i, none⟩ = some (.int .i64 (gi xs i)) := h

set_option maxRecDepth 100000 in
set_option maxHeartbeats 20000000 in
theorem divStep_any (w0 : World) (X : Nat) (lv : Value) (l : List Int) (s k : Int) (n : Nat) (hp : SI w0 lv l) (hX : w0.heap.size ≤ X) (hg : GoodB l s k) (h12 : l.length ≤ 12) (hn12 : n ≤ 12) :
    ∀ (f : Nat) (bar : List Nat) (fr : List Int) (t fv : Value) (vs : List Value) (w : World), bar.length + f = l.length → (∀ j ∈ bar, j < fr.length) → fr.length ≤ n → (∀ i, i < fr.length → 0 ≤ gi fr i ∧ gi fr i ≤ s + k) →
    Below w0.heap.size w0 w → RepD w X lv s k n t fv (rowsB bar fr.length) vs fr →
    Calls Try.prog 53 #[.int .i64 bar.length, .pointer (some ⟨X, 0, none⟩), .pointer (some ⟨X + 2, 0, none⟩), .pointer (some ⟨X + 4, 0, none⟩), .pointer (some ⟨X + 5, 0, none⟩), .pointer (some ⟨X + 6, 0, none⟩), .pointer (some ⟨X + 3, 0, none⟩), .pointer (some ⟨X + 1, 0, none⟩)] w (PostD w X lv s k n ((ndL l k).drop bar.length) fr bar) := by
  intro f
  induction f with
  | zero =>
    intro bar fr t fv vs w hl hbar hfn hfr hb0 hr
    have HD := Lib.hid (drop_done (l := l) (k := k) (show bar.length = l.length by omega))
    have HR := Lib.hid hr
    obtain ⟨a, cap, rfl, h1, h2, h3⟩ := hp
    have hb : ((bar.length : Int) == (l.length : Int)) = true := by rw [beq_iff_eq]; omega
    have c0 := hr.box.c0
    have HN := Lib.hid (dv_nil (c := s + k) hfn)
    clear h3 hg hr hbar hfr
    go_enter Try.func53, Try.ntmps53
    go_wp2_with fail
    go_ret
    refine ⟨Below.refl _ _, ?_⟩
    rw [HD.out, HN.out]
    exact ⟨rfl, t, fv, vs, fr, by simpa using HR.out⟩
  | succ f ih =>
    intro bar fr t fv vs w hl hbar hfn hfr hb0 hr
    have IH := Lib.hid ih
    have HP := Lib.hid hp
    have HG := Lib.hid hg
    have HB0 := Lib.hid hb0
    have HBAR := Lib.hid hbar
    have HFR := Lib.hid hfr
    have hil : bar.length < l.length := by omega
    have HDR := Lib.hid (drop_need (k := k) hil)
    have HL := Lib.hid hl
    obtain ⟨a, cap, rfl, h1, h2, h3⟩ := hp
    obtain ⟨bl, ol, rfl, hcl⟩ := h3 bar.length hil
    have HCL := Lib.hid hcl
    have hcl := cell_keep hb0 hcl
    have hsd := hg.side _ (gi_mem hil)
    have hst := hg.stock
    have hkf := hg.kerf
    have HR := Lib.hid hr
    have hb : ((bar.length : Int) == (l.length : Int)) = false := by rw [beq_eq_false_iff_ne]; omega
    have hic : (bar.length : Int) < (cap : Int) := by omega
    have hilI : (bar.length : Int) < (l.length : Int) := by omega
    have c0 := hr.box.c0
    have c2 := hr.box.c2
    have c4 := hr.box.c4
    have hsz := hr.lt
    have HXW := Lib.hid hsz
    obtain ⟨at_, ct, et, hct⟩ := hr.two.slice_t
    rw [et] at c4
    have hm : (rowsB bar fr.length).length = fr.length := rowsB_length _ _
    rw [hm] at c4
    obtain ⟨li, hli⟩ : ∃ li, gi l bar.length = li := ⟨_, rfl⟩
    dsimp only at hcl
    rw [hli] at hsd hcl
    have HDR : Hid ((ndL l k).drop bar.length = (li + k) :: (ndL l k).drop (bar.length + 1)) := by show _ = _; rw [← hli]; exact HDR.out
    have e1 : IntKind.i64.wrap (li + k) = li + k := IntWalk.i64_in _ (by omega)
    have HLI := Lib.hid hli
    clear h3 hl hbar hfr hg hb0 hr et hct hm ih hli
    go_enter Try.func53, Try.ntmps53
    go_wp2_with fail
    go_quiet (fail)
    go_wp2_with fail
    have hnq : ∃ ws : World, ws = w.drewN nq := ⟨_, rfl⟩
    have HRS := Lib.hid (HR.out.dn nq)
    have HBS : Hid (Below X w (w.drewN nq)) := below_drewN' (Below.refl _ _) _
    clear c0 c2 c4 hcl
    generalize w.drewN nq = ws at *
    clear hnq
    have hx1 : 1 ≤ li + k ∧ li + k ≤ 32868 := by omega
    generalize hxx : li + k = x at *
    have HXX := Lib.hid hxx
    clear hxx
    go_loopg [24] fr.length (fun g i wr => ∃ j : Nat, j ≤ fr.length ∧ i = .int .i64 j ∧ g = fr.length - j ∧ Hid (Below X w wr) ∧ Hid (∀ j', j' < j → dvAt (s + k) n x ((ndL l k).drop (bar.length + 1)) fr j' = none) ∧ Hid (∃ t fv vs, RepD wr X (.slice (some ⟨bl, ol, none⟩) l.length cap) s k n t fv (rowsB bar fr.length) vs fr))
    case atStart => exact ⟨0, Nat.zero_le _, rfl, by omega, HBS.out, fun j hj => by omega, t, fv, vs, HRS.out⟩
    case round =>
      clear HRS HBS HR
      obtain ⟨wo, rfl⟩ : ∃ wo : World, wo = wr := ⟨_, rfl⟩
      obtain ⟨j, hj, rfl, rfl, hbw, hdv, hrep⟩ := hrel
      obtain ⟨t, fv, vs, hr⟩ := hrep.out
      clear hrep
      have HR := Lib.hid hr
      have hsz := hr.lt
      by_cases hjm : j < fr.length
      · obtain ⟨gt, capt, et, ct1, _, _, _, cells, _⟩ := hr.two.tab.form (by rw [rowsB_length]; omega)
        obtain ⟨gf, capf, ef, cf1, _, _, _, cellf, fzf⟩ := hr.two.own.form (by omega)
        have hm : (rowsB bar fr.length).length = fr.length := rowsB_length _ _
        rw [hm] at et ct1
        have HEF := Lib.hid ef
        have HET := Lib.hid et
        have c5 := hr.box.c5
        have cF := cellf j hjm
        have fF := fzf j
        have HSI := Lib.hid hr.two.own.si
        have hjc : (j : Int) < (capf : Int) := by omega
        have hjm' : (j : Int) < (fr.length : Int) := by omega
        rw [ef] at c5
        rw [ef] at HSI
        clear hr cells cellf fzf hm et ef
        have hyb := HFR.out j hjm
        by_cases hlx : gi fr j < x
        · have hd : decide (gi fr j < x) = true := by simpa using hlx
          have HDJ := Lib.hid (upto hdv.out (dvAt_small (c := s + k) (n := n) (xs := (ndL l k).drop (bar.length + 1)) (by omega : ¬ x ≤ gi fr j)))
          clear hlx
          go_wp2_with fail
          go_quiet (fail)
          go_wp2_with fail
          go_roundg (fr.length - (j + 1))
          case measure => omega
          case rel => exact ⟨j + 1, by omega, by go_num, rfl, below_drewN' hbw.out _, HDJ.out, t, fv, vs, HR.out.dn _⟩
        · have hd : decide (gi fr j < x) = false := by simpa using hlx
          have HXL : Hid (x ≤ gi fr j) := by show _ ≤ _; omega
          have hxl := HXL.out
          clear hlx
          have HTK := Lib.hid (HSI.out.take j (by omega))
          cases hsame : (fr.take j).any fun z => gi fr j == z
          · have HSM := Lib.hid hsame
            clear hsame
            go_wp2_with fail
            go_quiet ((go_at_call 54; exact Calls.quiet_of (contains_no _ _ _ _ (HTK.out.drewN _) HSM.out)))
            go_wp2_with fail
            have hbelow : Below X wo ((wo.drewN nq).setCell ⟨gf, j, none⟩ (.int .i64 (gi fr j - x))) := (below_drewN' (Below.refl _ _) nq).trans (((HR.out.dn nq).setF_below HEF.out j _).mono (by omega))
            have HWF := Lib.hid (hbw.out.trans hbelow)
            have HRF := Lib.hid ((HR.out.dn nq).setF HEF.out j (gi fr j - x))
            clear hbelow c5 cF fF
            generalize (wo.drewN nq).setCell ⟨gf, j, none⟩ (.int .i64 (gi fr j - x)) = wf at *
            have hjr : j < (rowsB bar fr.length).length := by rw [rowsB_length]; exact hjm
            have hszf := HRF.out.lt
            have c4 := HRF.out.box.c4
            obtain ⟨gt', capt', et', _, _, _, _, cells, fzt⟩ := HRF.out.two.tab.form (by rw [rowsB_length]; omega)
            rw [HET.out] at et' c4
            simp at et'
            obtain ⟨rfl, -, rfl⟩ := et'
            have hct0 := cells j hjr
            have hrow0 := HRF.out.two.tab.row j hjr
            have hrl : (ri (rowsB bar fr.length) j).length ≤ 100 := by have := rowsB_row (bar := bar) hjm; have := HL.out; omega
            have hW := HRF.out
            have hjt : (j : Int) < (capt : Int) := by omega
            clear cells fzt
            go_cut [11, 24] (fun s11 s24 wx => s11 = .int .i64 j ∧ s24 = .int .i64 j ∧ Below (X + 7) wf wx ∧ ∃ v, RepD wx X (.slice (some ⟨bl, ol, none⟩) l.length cap) s k n t fv ((rowsB bar fr.length).set j (ri (rowsB bar fr.length) j ++ [(bar.length : Int)])) (vs.set j v) (fr.set j (gi fr j - x)))
            case first =>
              have hcta := cell_alloc' hct0 (.cells #[.int .i64 (bar.length : Int)] 3)
              have c4a := cell_alloc' c4 (.cells #[.int .i64 (bar.length : Int)] 3)
              go_region_law
                (first
                  | (refine step_row_app (B := X + 7) (v := vs.getD j undef) (r := ri (rowsB bar fr.length) j) ?_ (.tmp 55) (.tmp 57) rfl _ (bar.length : Int) rfl rfl ?_ ?_ ?_ ?_ ?_; rfl; (with_reducible repeat (first | exact hrow0 | refine OwnI_drew' ?_ | refine OwnI_alloc' ?_ _)); (with_reducible repeat (first | exact SI_new0 | refine SI_drew ?_ | refine SI_alloc ?_ _)); omega; (first | exact (hW.alloc _).lt | exact (hW.drew.alloc _).lt | exact (hW.alloc _).drew.lt); intro vC wC hoC hgC hatC; obtain ⟨cB, cC, fC⟩ := RepD.after (by first | exact hW.alloc _ | exact hW.drew.alloc _ | exact (hW.alloc _).drew) HET.out hjr hgC; rw [HET.out] at cB; obtain ⟨gC, cpC, eC, _, _, _, _, _, _⟩ := hoC.form (by simp); subst eC))
              all_goals
                have HPB := RepD.put (by with_reducible first | exact hW.alloc _ | exact hW.drew.alloc _ | exact (hW.alloc _).drew) HET.out hjr hgC hoC hatC
                simp only [List.length_append, List.length_singleton] at HPB
                clear hoC hgC hatC cB cC fC hcta c4a hct0 hrow0
                go_wp2_with fail
                go_meet
                refine ⟨rfl, rfl, ?_, _, HPB.1⟩
                refine Below.trans ?_ HPB.2
                with_reducible first | exact (Below.refl _ _).alloc hszf _ | exact ((Below.refl _ _).drew).alloc hszf _ | exact ((Below.refl _ _).alloc hszf _).drew
            case rest =>
              obtain ⟨rfl, rfl, hbx, v, hrx⟩ := hcut
              have HRX := Lib.hid hrx
              have HWX := Lib.hid (HWF.out.trans (hbx.mono (by omega)))
              clear hbx hrx c4 hct0 hrow0 hW HRF HWF
              have HBX0 := Lib.hid (HB0.out.trans (HWX.out.mono hX))
              have c6 := HRX.out.box.c6
              have hrows := rowsB_set (bar := bar) hjm
              have hrec : Calls Try.prog 53 #[.int .i64 ((bar.length : Int) + 1), .pointer (some ⟨X, 0, none⟩), .pointer (some ⟨X + 2, 0, none⟩), .pointer (some ⟨X + 4, 0, none⟩), .pointer (some ⟨X + 5, 0, none⟩), .pointer (some ⟨X + 6, 0, none⟩), .pointer (some ⟨X + 3, 0, none⟩), .pointer (some ⟨X + 1, 0, none⟩)] wc (PostD wc X (.slice (some ⟨bl, ol, none⟩) l.length cap) s k n ((ndL l k).drop (bar.length + 1)) (fr.set j (gi fr j - x)) (bar ++ [j])) := by
                have := IH.out (bar ++ [j]) (fr.set j (gi fr j - x)) t fv (vs.set j v) wc (by have := HL.out; simp; omega) (fun q hq => by
                  rw [List.length_set]
                  rw [List.mem_append, List.mem_singleton] at hq
                  rcases hq with hq | rfl
                  · exact HBAR.out q hq
                  · exact hjm) (by rw [List.length_set]; exact hfn) (free_set hjm (by omega) HXL.out HFR.out) HBX0.out (by rw [List.length_set, hrows]; exact HRX.out)
                simpa using this
              have HREC := Lib.hid hrec
              have HROWS := Lib.hid hrows
              clear hrows hrec
              cases hq : dv (s + k) n ((ndL l k).drop (bar.length + 1)) (fr.set j (gi fr j - x)) with
              | some r =>
                have HHIT := Lib.hid (dv_hit hjm hdv.out ((dvAt_try HXL.out).trans (by rw [hq]; rfl)))
                have HREC2 : Hid (Calls Try.prog 53 #[.int .i64 ((bar.length : Int) + 1), .pointer (some ⟨X, 0, none⟩), .pointer (some ⟨X + 2, 0, none⟩), .pointer (some ⟨X + 4, 0, none⟩), .pointer (some ⟨X + 5, 0, none⟩), .pointer (some ⟨X + 6, 0, none⟩), .pointer (some ⟨X + 3, 0, none⟩), .pointer (some ⟨X + 1, 0, none⟩)] wc fun e w' => e = .returned (.bool true) ∧ Below X wc w' ∧ ∃ t fv vs fr', RepD w' X (.slice (some ⟨bl, ol, none⟩) l.length cap) s k n t fv (rowsB (bar ++ [j] ++ r.1) r.2) vs fr') :=
                  HREC.out.mono fun e w' ⟨h1, h2⟩ => by rw [hq] at h2; exact ⟨h2.1, h1, h2.2⟩
                clear hq HREC
                go_wp2_with fail
                refine HREC2.out.mono ?_
                rintro e w5 ⟨rfl, hb5, t5, fv5, vs5, fr5, hr5⟩
                have HR5 := Lib.hid hr5
                have HB5 := Lib.hid (HWX.out.trans hb5)
                clear hr5 hb5 c6
                go_wp2_with fail
                go_ret
                refine ⟨HB5.out, ?_⟩
                rw [HDR.out, HHIT.out]
                exact ⟨rfl, t5, fv5, vs5, fr5, by simpa [consB] using HR5.out⟩
              | none =>
                have HMISS := Lib.hid (upto hdv.out ((dvAt_try HXL.out).trans (by rw [hq]; rfl)))
                have HREC2 : Hid (Calls Try.prog 53 #[.int .i64 ((bar.length : Int) + 1), .pointer (some ⟨X, 0, none⟩), .pointer (some ⟨X + 2, 0, none⟩), .pointer (some ⟨X + 4, 0, none⟩), .pointer (some ⟨X + 5, 0, none⟩), .pointer (some ⟨X + 6, 0, none⟩), .pointer (some ⟨X + 3, 0, none⟩), .pointer (some ⟨X + 1, 0, none⟩)] wc fun e w' => e = .returned (.bool false) ∧ Below X wc w' ∧ ∃ t fv vs, RepD w' X (.slice (some ⟨bl, ol, none⟩) l.length cap) s k n t fv (rowsB (bar ++ [j]) (fr.set j (gi fr j - x)).length) vs (fr.set j (gi fr j - x))) :=
                  HREC.out.mono fun e w' ⟨h1, h2⟩ => by rw [hq] at h2; exact ⟨h2.1, h1, h2.2⟩
                clear hq HREC
                go_wp2_with fail
                refine HREC2.out.mono ?_
                rintro e w5 ⟨rfl, hb5, t5, fv5, vs5, hr5⟩
                have HB5 := Lib.hid (HWX.out.trans hb5)
                rw [List.length_set, HROWS.out] at hr5
                have HR5 := Lib.hid hr5
                have hsz5 := hr5.lt
                clear hb5 c6
                obtain ⟨gt5, capt5, gr5, capr5, et5, hcc5, hct5, hcr5, hgr5, _, ev5, _, _⟩ := hr5.two.tab.look (i := j) (by rw [List.length_set]; exact hjr) (by rw [ri_setR hjr]; simp)
                obtain ⟨gtx, captx, et5', _, _, _, _, _, fzt5⟩ := hr5.two.tab.form (by rw [List.length_set]; omega)
                rw [et5] at et5'
                simp at et5'
                obtain ⟨rfl, rfl⟩ := et5'
                have hown5 := hr5.two.tab.row j (by rw [List.length_set]; exact hjr)
                rw [ri_setR hjr, if_pos rfl, List.length_append, List.length_singleton] at hct5 hcr5 ev5
                rw [ri_setR hjr, if_pos rfl, ev5] at hown5
                have HOP := Lib.hid (OwnI.pop hown5)
                rw [List.length_set, rowsB_length] at et5 hcc5
                have HET5 := Lib.hid et5
                have HEV5 := Lib.hid ev5
                have c4 := hr5.box.c4
                rw [et5] at c4
                have f4 := fzt5 j
                have hjt5 : (j : Int) < (capt5 : Int) := by omega
                clear hr5 et5 ev5 hown5 fzt5
                go_wp2_with fail
                go_cut [11, 24] (fun s11 s24 wx => s11 = .int .i64 j ∧ s24 = .int .i64 j ∧ Below (X + 7) w5 wx ∧ ∃ v, RepD wx X (.slice (some ⟨bl, ol, none⟩) l.length cap) s k n t5 fv5 (rowsB bar fr.length) (vs5.set j v) (fr.set j (gi fr j - x)))
                case first =>
                  go_region
                  all_goals
                    have HPB := RepD.put HR5.out.drew HET5.out (by rw [List.length_set]; exact hjr) (World.grownBy.refl _ _) (show OwnI w5.drew (X + 7) _ _ from HOP.out) (.inl (by rw [HEV5.out]; rfl))
                    rw [set_set_backR hjr] at HPB
                    clear c4 f4 hct5
                    go_wp2_with fail
                    go_meet
                    refine ⟨rfl, rfl, ?_, _, HPB.1⟩
                    exact Below.trans (Below.refl _ _).drew HPB.2
                case rest =>
                  obtain ⟨rfl, rfl, hbx, v6, hrx⟩ := hcut
                  have HR6 := Lib.hid hrx
                  have HB6 := Lib.hid (HB5.out.trans (hbx.mono (by omega)))
                  have hsz6 := hrx.lt
                  obtain ⟨gf6, capf6, ef6, hcf6, _, _, _, cellf6, fzf6⟩ := hrx.two.own.form (by rw [List.length_set]; omega)
                  rw [List.length_set] at ef6 hcf6
                  have cF := cellf6 j (by rw [List.length_set]; exact hjm)
                  rw [gi_setB hjm, if_pos rfl] at cF
                  have fF := fzf6 j
                  have c5 := hrx.box.c5
                  rw [ef6] at c5
                  have HEF6 := Lib.hid ef6
                  have hjc6 : (j : Int) < (capf6 : Int) := by omega
                  clear hbx hrx ef6 cellf6 fzf6 c4 f4 hct5
                  go_wp2_with fail
                  have HR7 := Lib.hid (HR6.out.setF HEF6.out j (gi fr j))
                  rw [set_set_back hjm] at HR7
                  have HB7 := Lib.hid (HB6.out.trans ((HR6.out.setF_below HEF6.out j (.int .i64 (gi fr j))).mono (by omega)))
                  go_roundg (fr.length - (j + 1))
                  case measure => omega
                  case rel => exact ⟨j + 1, by omega, by go_num, rfl, HB7.out, HMISS.out, t5, fv5, _, HR7.out⟩
          · have HDJ := Lib.hid (upto hdv.out (by
              obtain ⟨j', h1, h2⟩ := same_of_any hjm hsame
              exact dvAt_same hjm h1 h2 (hdv.out j' h1)))
            have HSM := Lib.hid hsame
            clear hsame
            go_wp2_with fail
            go_quiet ((go_at_call 54; exact Calls.quiet_of (contains_yes _ _ _ _ (HTK.out.drewN _) HSM.out)))
            go_wp2_with fail
            go_roundg (fr.length - (j + 1))
            case measure => omega
            case rel => exact ⟨j + 1, by omega, by go_num, rfl, below_drewN' hbw.out _, HDJ.out, t, fv, vs, HR.out.dn _⟩
      · have HALL : Hid (∀ j', j' < fr.length → dvAt (s + k) n x ((ndL l k).drop (bar.length + 1)) fr j' = none) := fun j' h => hdv.out j' (by omega)
        have c3 := hr.box.c3
        have c4 := hr.box.c4
        obtain ⟨at2, ct2, et2, hct2⟩ := hr.two.slice_t
        have HE2 := Lib.hid et2
        have hm : (rowsB bar fr.length).length = fr.length := rowsB_length _ _
        rw [et2, hm] at c4
        clear hdv et2 hm hr hct2
        by_cases hfn2 : fr.length = n
        · have hb2 : ((fr.length : Int) == (n : Int)) = true := by rw [beq_iff_eq]; omega
          have HDS := Lib.hid (dv_stop HALL.out hfn2)
          clear hfn2
          go_wp2_with fail
          go_ret
          refine ⟨hbw.out, ?_⟩
          rw [HDR.out, HDS.out]
          exact ⟨rfl, t, fv, vs, HR.out⟩
        · have hb2 : ((fr.length : Int) == (n : Int)) = false := by rw [beq_eq_false_iff_ne]; omega
          have hfn3 : fr.length < n := by omega
          have HDN := Lib.hid (dv_new (c := s + k) (n := n) HALL.out)
          clear hfn2
          go_wp2_with fail
          refine wp_name fun a0 ha0 => ?_
          have z0 : a0.tmps.size = 117 := by rw [ha0]; rfl
          have q0 : a0.eval (.tmp 0) = .int .i64 (bar.length : Int) := by rw [ha0]; rfl
          have q2 : a0.eval (.tmp 2) = .pointer (some ⟨X + 2, 0, none⟩) := by rw [ha0]; rfl
          have q3 : a0.eval (.tmp 3) = .pointer (some ⟨X + 4, 0, none⟩) := by rw [ha0]; rfl
          have q4 : a0.eval (.tmp 4) = .pointer (some ⟨X + 5, 0, none⟩) := by rw [ha0]; rfl
          have q7 : a0.eval (.tmp 7) = .pointer (some ⟨X + 1, 0, none⟩) := by rw [ha0]; rfl
          have q10 : a0.eval (.tmp 10) = .int .i64 x := by rw [ha0]; rfl
          have hst := HG.out.stock
          have hkf := HG.out.kerf
          have hrl : (rowsB bar fr.length).length ≤ 1000000 := by rw [rowsB_length]; omega
          have hfl : fr.length ≤ 1000000 := by omega
          refine wp_region_inv (by kernel_rfl) (by kernel_rfl) (fun L a w => I17 a0 wo X (.slice (some ⟨bl, ol, none⟩) l.length cap) s k n t fv (rowsB bar fr.length) fr (bar.length : Int) x L a w) (I17.first HR.out) ?_ ?_
          · intro i o L a w ho hLi hdep hcl I K hK
            have hi : i < 15 := (Array.getElem?_eq_some_iff.1 ho).1
            have es : ∀ m, m ∉ S17 → a.eval (.tmp m) = a0.eval (.tmp m) := fun m hm => I.sm.eval hm
            have cf : ∀ p q : Nat, (L p = true → L q = true) → L q = false → L p = false := by
              intro p q h hq
              cases hp : L p
              · rfl
              · rw [h hp] at hq; cases hq
            have hcase : i = 0 ∨ i = 1 ∨ i = 2 ∨ i = 3 ∨ i = 4 ∨ i = 5 ∨ i = 6 ∨ i = 7 ∨ i = 8 ∨ i = 9 ∨ i = 10 ∨ i = 11 ∨ i = 12 ∨ i = 13 ∨ i = 14 := by omega
            rcases hcase with h | h | h | h | h | h | h | h | h | h | h | h | h | h | h <;> subst h <;> have ho' := Option.some.inj ho <;> subst ho' <;> rw [if_pos (by rfl)]
            · exact wp_load1 40 agg_rows (.tmp 3) rfl _ _ ((es 3 (by simp [S17])).trans q3) (I.box4 (cf 13 0 (fun h => hcl 13 _ rfl h ⟨0, .phase⟩ (by simp) rfl) hLi)) (hK _ _ (I.pure z0 0 _ (by simp)))
            · exact wp_move1 _ rfl _ ((es 0 (by simp [S17])).trans q0) (hK _ _ (I.pure z0 1 _ (by simp)))
            · have h3 := cf 3 2 (fun h => hcl 3 _ rfl h ⟨2, .data⟩ (by simp) rfl) hLi
              exact I.op2 z0 rfl rfl (hdep ⟨1, .data⟩ (by simp) rfl) hLi h3 (cf 4 3 (fun h => hcl 4 _ rfl h ⟨3, .data⟩ (by simp) rfl) h3) hK
            · exact I.op3 z0 rfl rfl (hdep ⟨2, .data⟩ (by simp) rfl) hLi (cf 4 3 (fun h => hcl 4 _ rfl h ⟨3, .data⟩ (by simp) rfl) hLi) hK
            · have h3 := hdep ⟨3, .data⟩ (by simp) rfl
              exact I.op4 z0 hrl rfl rfl (hdep ⟨0, .data⟩ (by simp) rfl) (hcl 3 _ rfl h3 ⟨2, .data⟩ (by simp) rfl) h3 hLi (cf 13 4 (fun h => hcl 13 _ rfl h ⟨4, .data⟩ (by simp) rfl) hLi) hK
            · exact wp_load1 36 agg_ints (.tmp 4) rfl _ _ ((es 4 (by simp [S17])).trans q4) (I.box5 (cf 14 5 (fun h => hcl 14 _ rfl h ⟨5, .phase⟩ (by simp) rfl) hLi)) (hK _ _ (I.pure z0 5 _ (by simp)))
            · exact wp_load1 3 agg_int (.tmp 7) rfl _ _ ((es 7 (by simp [S17])).trans q7) I.box1 (hK _ _ (I.pure z0 6 _ (by simp)))
            · exact wp_load1 3 agg_int (.tmp 2) rfl _ _ ((es 2 (by simp [S17])).trans q2) I.box2 (hK _ _ (I.pure z0 7 _ (by simp)))
            · exact wp_add1 (.tmp 96) (.tmp 97) rfl s k (I.v6 (hdep ⟨6, .data⟩ (by simp) rfl)) (I.v7 (hdep ⟨7, .data⟩ (by simp) rfl)) (by omega) (hK _ _ (I.pure z0 8 _ (by simp)))
            · exact wp_move1 _ rfl _ ((es 10 (by simp [S17])).trans q10) (hK _ _ (I.pure z0 9 _ (by simp)))
            · exact wp_sub1 (.tmp 98) (.tmp 99) rfl (s + k) x (I.v8 (hdep ⟨8, .data⟩ (by simp) rfl)) (I.v9 (hdep ⟨9, .data⟩ (by simp) rfl)) (by omega) (hK _ _ (I.pure z0 10 _ (by simp)))
            · exact I.op11 z0 rfl rfl (hdep ⟨10, .data⟩ (by simp) rfl) hLi hK
            · exact I.op12 z0 hfl rfl rfl (hdep ⟨5, .data⟩ (by simp) rfl) (hdep ⟨11, .data⟩ (by simp) rfl) hLi (cf 14 12 (fun h => hcl 14 _ rfl h ⟨12, .data⟩ (by simp) rfl) hLi) hK
            · exact I.op13 rfl rfl ((es 3 (by simp [S17])).trans q3) (hdep ⟨4, .data⟩ (by simp) rfl) hLi hK
            · exact I.op14 rfl rfl ((es 4 (by simp [S17])).trans q4) (hdep ⟨4, .phase⟩ (by simp) rfl) (hdep ⟨12, .data⟩ (by simp) rfl) hLi hK
          · intro L a w1 hall I
            obtain ⟨vC, hR1, hB1⟩ := I.last (hall 4 (by decide)) (hall 12 (by decide)) (hall 13 (by decide)) (hall 14 (by decide))
            have HA := I.sm.lit
            generalize a.eval (.tmp 94) = t1 at *
            generalize a.eval (.tmp 102) = fv1 at *
            rw [HA]
            rw [ha0]
            simp only [S17, List.foldl, Act.put, List.setIfInBounds_toArray, List.set_cons_zero, List.set_cons_succ]
            clear HA I hall q0 q2 q3 q4 q7 q10 z0 ha0 c3 c4
            have HR1 := Lib.hid hR1
            have HB1 := Lib.hid (hbw.out.trans (hB1.mono (by omega)))
            clear hR1 hB1
            have hnew := rowsB_new (bar := bar) (m := fr.length) HBAR.out
            have HBX0 := Lib.hid (HB0.out.trans (HB1.out.mono hX))
            have c6 := HR1.out.box.c6
            have hxl := HXX.out
            have hrec : Calls Try.prog 53 #[.int .i64 ((bar.length : Int) + 1), .pointer (some ⟨X, 0, none⟩), .pointer (some ⟨X + 2, 0, none⟩), .pointer (some ⟨X + 4, 0, none⟩), .pointer (some ⟨X + 5, 0, none⟩), .pointer (some ⟨X + 6, 0, none⟩), .pointer (some ⟨X + 3, 0, none⟩), .pointer (some ⟨X + 1, 0, none⟩)] w1 (PostD w1 X (.slice (some ⟨bl, ol, none⟩) l.length cap) s k n ((ndL l k).drop (bar.length + 1)) (fr ++ [s + k - x]) (bar ++ [fr.length])) := by
              have hlen : (fr ++ [s + k - x]).length = fr.length + 1 := by simp
              have := IH.out (bar ++ [fr.length]) (fr ++ [s + k - x]) t1 fv1 vC w1 (by have := HL.out; simp; omega) (fun q hq => by
                rw [hlen]
                rw [List.mem_append, List.mem_singleton] at hq
                rcases hq with hq | rfl
                · have := HBAR.out q hq; omega
                · omega) (by rw [hlen]; omega) (free_app (by omega) HFR.out) HBX0.out (by rw [hlen, hnew]; exact HR1.out)
              simpa using this
            have HREC := Lib.hid hrec
            have HNEW := Lib.hid hnew
            clear hnew hrec hxl
            cases hq : dv (s + k) n ((ndL l k).drop (bar.length + 1)) (fr ++ [s + k - x]) with
            | some r =>
              have HHIT := Lib.hid (HDN.out.trans (by rw [hq]; rfl : _ = some (consB fr.length r)))
              have HREC2 : Hid (Calls Try.prog 53 #[.int .i64 ((bar.length : Int) + 1), .pointer (some ⟨X, 0, none⟩), .pointer (some ⟨X + 2, 0, none⟩), .pointer (some ⟨X + 4, 0, none⟩), .pointer (some ⟨X + 5, 0, none⟩), .pointer (some ⟨X + 6, 0, none⟩), .pointer (some ⟨X + 3, 0, none⟩), .pointer (some ⟨X + 1, 0, none⟩)] w1 fun e w' => e = .returned (.bool true) ∧ Below X w1 w' ∧ ∃ t fv vs fr', RepD w' X (.slice (some ⟨bl, ol, none⟩) l.length cap) s k n t fv (rowsB (bar ++ [fr.length] ++ r.1) r.2) vs fr') :=
                HREC.out.mono fun e w' ⟨h1, h2⟩ => by rw [hq] at h2; exact ⟨h2.1, h1, h2.2⟩
              clear hq HREC
              go_wp2_with fail
              refine HREC2.out.mono ?_
              rintro e w5 ⟨rfl, hb5, t5, fv5, vs5, fr5, hr5⟩
              have HR5 := Lib.hid hr5
              have HB5 := Lib.hid (HB1.out.trans hb5)
              clear hr5 hb5 c6
              go_wp2_with fail
              go_ret
              refine ⟨HB5.out, ?_⟩
              rw [HDR.out, HHIT.out]
              exact ⟨rfl, t5, fv5, vs5, fr5, by simpa [consB] using HR5.out⟩
            | none =>
              have HMISS := Lib.hid (HDN.out.trans (by rw [hq]; rfl : _ = none))
              have HREC2 : Hid (Calls Try.prog 53 #[.int .i64 ((bar.length : Int) + 1), .pointer (some ⟨X, 0, none⟩), .pointer (some ⟨X + 2, 0, none⟩), .pointer (some ⟨X + 4, 0, none⟩), .pointer (some ⟨X + 5, 0, none⟩), .pointer (some ⟨X + 6, 0, none⟩), .pointer (some ⟨X + 3, 0, none⟩), .pointer (some ⟨X + 1, 0, none⟩)] w1 fun e w' => e = .returned (.bool false) ∧ Below X w1 w' ∧ ∃ t fv vs, RepD w' X (.slice (some ⟨bl, ol, none⟩) l.length cap) s k n t fv (rowsB (bar ++ [fr.length]) (fr ++ [s + k - x]).length) vs (fr ++ [s + k - x])) :=
                HREC.out.mono fun e w' ⟨h1, h2⟩ => by rw [hq] at h2; exact ⟨h2.1, h1, h2.2⟩
              clear hq HREC
              go_wp2_with fail
              refine HREC2.out.mono ?_
              rintro e w5 ⟨rfl, hb5, t5, fv5, vs5, hr5⟩
              have HB5 := Lib.hid (HB1.out.trans hb5)
              rw [List.length_append, List.length_singleton, HNEW.out] at hr5
              have hm : (rowsB bar fr.length).length = fr.length := rowsB_length _ _
              have hsz5 := hr5.lt
              obtain ⟨gt5, capt5, et5, hct5, _, _, _, _, _⟩ := hr5.two.tab.form (by simp)
              obtain ⟨gf5, capf5, ef5, hcf5, _, _, _, _, _⟩ := hr5.two.own.form (by simp)
              rw [List.length_append, List.length_singleton] at et5 ef5 hct5 hcf5
              rw [hm] at et5 hct5
              have hvl := hr5.two.tab.len
              rw [List.length_append, List.length_singleton, hm] at hvl
              rcases List.eq_nil_or_concat vs5 with hv | ⟨vs6, v6, hv⟩
              · rw [hv] at hvl; simp at hvl
              rw [List.concat_eq_append] at hv
              subst hv
              rw [List.length_append, List.length_singleton] at hvl
              subst et5 ef5
              have hpop := Two.pop hr5.two hm rfl (by omega)
              have HPOP := Lib.hid hpop
              have HR5 := Lib.hid hr5
              have c4 := hr5.box.c4
              have c5 := hr5.box.c5
              have f4 := hr5.box.f4
              have f5 := hr5.box.f5
              clear hb5 c6 hm hvl hpop hr5
              go_wp2_with fail
              go_region
              all_goals
                have HFIN := Lib.hid (RepD.setBoth HR5.out (Below.refl _ _) HPOP.out)
                clear c4 c5 f4 f5
                go_wp2_with fail
                go_ret
                refine ⟨((HB5.out.setCell (by simp) _).setCell (by simp) _).drew, ?_⟩
                rw [HDR.out, HMISS.out]
                refine ⟨rfl, .slice (some ⟨gt5, 0, none⟩) fr.length capt5, .slice (some ⟨gf5, 0, none⟩) fr.length capf5, vs6, ?_⟩
                with_reducible first | exact HFIN.out.1.drew | exact HFIN.out.2.drew
end Go.Proofs.Ytlgepggmgfnneaa
