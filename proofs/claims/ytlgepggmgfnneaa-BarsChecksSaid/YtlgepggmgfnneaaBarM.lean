/- Contract: Greedy. -/
import Derived.Test.YtlgepggmgfnneaaBarL
import Derived.Test.YtlgepggmgfnneaaBarC
import Derived.Test.YtlgepggmgfnneaaTwoW
import Derived.Test.YtlgepggmgfnneaaSortF
import Derived.BigRegion
import Derived.Deep.RegionLaw
import Derived.Laws.EntriesVeiled
import Derived.Deep.DeepCutAuto
namespace Go.Proofs.Ytlgepggmgfnneaa
open Go.RowKit

/-- 0, 1, .. n - 1 -/
def rangeI (n : Nat) : List Int := (List.range n).map fun k : Nat => (k : Int)
theorem rangeI_length (n) : (rangeI n).length = n := by simp [rangeI]
theorem gi_rangeI {n k : Nat} (h : k < n) : gi (rangeI n) k = k := by simp [gi, rangeI, h]
theorem grown_cell {a b : World} {g k : Nat} (h : a.grownBy b (some g)) (hk : k < a.heap.size) (hne : k ≠ g) : b.cell? ⟨k, 0, none⟩ = a.cell? ⟨k, 0, none⟩ := by
  have := h.block k hk (by simp; omega)
  unfold World.cell?
  rw [this]

set_option maxRecDepth 100000 in
set_option maxHeartbeats 20000000 in
theorem Greedy_any (v : Value) (l : List Int) (s k : Int) (w : World) (h : SI w v l) :
    Calls Try.prog 20 #[v, .int .i64 s, .int .i64 k] w (RetSE w (greedyL l s k) (rightE l s k)) := by
  have H := Lib.hid h
  have HB0 := Lib.hid (((Below.refl w.heap.size w).alloc (Nat.le_refl _) (.cells #[v] 36)).alloc (by simp) (.cells #[.int .i64 k] 3))
  obtain ⟨a, cap, rfl, h1, h2, h3⟩ := h
  have H3 := Lib.hid h3
  clear h3
  have hm9 : l.length ≤ 9223372036854775807 := by unfold maxLen at h2; omega
  obtain ⟨iI, hI, hz0, hz1, hz2⟩ := info_parts Try_infoInt
  have HI := Lib.hid hI
  have HZ0 := Lib.hid hz0
  have HZ1 := Lib.hid hz1
  have HZ2 := Lib.hid hz2
  clear hI hz0 hz1 hz2
  go_enter Try.func20, Try.ntmps20
  go_wp2_with fail
  have HX0 : Hid (((w.alloc (.cells #[.slice a l.length cap] 36)).alloc (.cells #[.int .i64 k] 3)).cell? ⟨w.heap.size, 0, none⟩ = some (.slice a l.length cap)) := by show _ = _; simp
  have HK0 : Hid (((w.alloc (.cells #[.slice a l.length cap] 36)).alloc (.cells #[.int .i64 k] 3)).cell? ⟨w.heap.size + 1, 0, none⟩ = some (.int .i64 k)) := by show _ = _; simp
  have HSZ : Hid (w.heap.size + 2 = ((w.alloc (.cells #[.slice a l.length cap] 36)).alloc (.cells #[.int .i64 k] 3)).heap.size) := by show _ = _; simp
  generalize (w.alloc (.cells #[.slice a l.length cap] 36)).alloc (.cells #[.int .i64 k] 3) = w0 at *
  refine (right_any _ l s k _ (H.out.keep HB0.out)).mono ?_
  rintro e w1 ⟨rfl, hb⟩
  have HB1 := Lib.hid (ext_trans HB0.out hb)
  have HX1 := Lib.hid (cell_keep hb HX0.out)
  have HK1 := Lib.hid (cell_keep hb HK0.out)
  have hw1 : w.heap.size + 2 ≤ w1.heap.size := by have := hb.size; have := HSZ.out; omega
  clear hb HX0 HK0 HSZ HB0
  by_cases hr : rightE l s k = 0
  rotate_left
  · have hb : (rightE l s k != 0) = true := by simpa using hr
    have HE := Lib.hid (greedyL_bad hr)
    clear hr
    go_wp2_with fail
    go_ret2
    exact retSE rfl rfl (SS_nil _) HE.out.symm HB1.out
  have hb : (rightE l s k != 0) = false := by rw [hr]; rfl
  have HG := Lib.hid (rightE_zero.1 hr)
  have HE := Lib.hid (greedyL_good hr)
  have HR := Lib.hid hr
  have h256 := HG.out.len
  have hkf := HG.out.kerf
  have hst := HG.out.stock
  rw [hr]
  clear hr
  have c0 := HX1.out
  go_wp2_with (at_make; refine wpList_make_full _ rfl _ _ 36 rfl w1.heap.size 3 iI (.int .i64 0) 1 Try.underlying36 HI.out HZ0.out HZ1.out _ _ _ _ l.length rfl rfl rfl rfl ?c1 ?c2 (Nat.le_refl _) ?_)
  case c1 => rw [HZ2.out]; omega
  case c2 => unfold maxLen; omega
  intro w2 hown hgrow
  rw [← part_zero (fun j : Nat => (j : Int))] at hown
  have HO2 := Lib.hid hown
  have HB2 := Lib.hid (grownBy_below hgrow)
  clear hown hgrow
  go_wp2_with fail
  go_loopw [28] (fun i wr => ∃ n : Nat, n ≤ l.length ∧ i = .int .i64 n ∧ Hid (Below w1.heap.size w1 wr) ∧ Hid (wr.ownsRow w1.heap.size 3 1 (.slice (some ⟨w1.heap.size, 0, none⟩) l.length l.length) l.length ((part (fun j : Nat => (j : Int)) n l.length).map (Value.int .i64)))) (fun i _ => l.length - (intOf i).toNat)
  case atStart => exact ⟨0, Nat.zero_le _, rfl, HB2.out, HO2.out⟩
  case round =>
    obtain ⟨n, hn, rfl, hbw, how⟩ := hrel
    by_cases hlt : n < l.length
    · have cn := part_cell how.out hlt
      have fn := World.ownsRow.frozenAt how.out n
      go_wp2_with fail
      go_roundw
      case rel => exact ⟨n + 1, by omega, by go_num, hbw.out.setCell (Nat.le_refl _) _, part_store how.out rfl⟩
      case measure => simp [intOf]; omega
    · obtain rfl : n = l.length := by omega
      have HOR : Hid (OwnI wr w1.heap.size (.slice (some ⟨w1.heap.size, 0, none⟩) l.length l.length) (rangeI l.length)) := by
        have := how.out
        rw [part_full] at this
        show OwnI _ _ _ _
        unfold OwnI
        rw [rangeI_length]; exact this
      have HBW := Lib.hid (HB1.out.trans (hbw.out.mono HB1.out.size))
      have HXW := Lib.hid (cell_keep hbw.out HX1.out)
      have HKW := Lib.hid (cell_keep hbw.out HK1.out)
      have hwz := hbw.out.size
      clear how hbw HB2 HO2
      go_wp2_with fail
      have hF : FnCmp (.func (.func 38) #[] #[.pointer (some ⟨w.heap.size, 0, none⟩)]) wr w1.heap.size (fun x => 0 ≤ x ∧ x < l.length) (cG l) := by
        refine ⟨_, _, rfl, fun _ _ => rfl, fun x y w' hx hy hg' => ?_⟩
        exact greedy1_any w.heap.size _ l x y w' (by rw [grown_cell hg' (by omega) (by omega)]; exact HXW.out) (H.out.keep (below_of_grownBy HBW.out hg' (by omega))) hx.1 hx.2 hy.1 hy.2
      refine (stable_any _ _ _ _ w1.heap.size w1.heap.size _ _ (rangeI l.length) HOR.out hF (swo_G l _) (fun x hx => ?_) (by rw [rangeI_length]; omega)).mono ?_
      · obtain ⟨j, hj, rfl⟩ := mem_gi hx
        rw [rangeI_length] at hj
        rw [gi_rangeI hj]
        omega
      rintro e w3 ⟨rfl, hg3, ys, hoy, hry, _, hsy⟩
      have hys := ordG_of l (rangeI l.length) ys (fun k hk => gi_rangeI (by rwa [rangeI_length] at hk)) (rangeI_length _) hry (by rw [hry.length]; exact hsy)
      rw [hys] at hoy
      have HOY := Lib.hid hoy
      have HB3 := Lib.hid (below_of_grownBy HBW.out hg3 (by omega))
      have HX3 : Hid (w3.cell? ⟨w.heap.size, 0, none⟩ = some (.slice a l.length cap)) := by show _ = _; rw [grown_cell hg3 (by omega) (by omega)]; exact HXW.out
      have HK3 : Hid (w3.cell? ⟨w.heap.size + 1, 0, none⟩ = some (.int .i64 k)) := by show _ = _; rw [grown_cell hg3 (by omega) (by omega)]; exact HKW.out
      have hw3 : w1.heap.size < w3.heap.size := by
        have h4 := hg3.size
        have h5 : w1.heap.size < wr.heap.size := by
          rcases HOR.out.2 with ⟨e, _⟩ | ⟨g, _, _, e, _, hg, _⟩
          · simp at e
          · simp at e; rw [← e.1] at hg; exact lt_of_block hg
        omega
      clear hoy hry hsy hg3 hF hys HOR HBW HXW HKW hwz
      go_wp2_with fail
      go_loopg [11, 12, 41] l.length (fun g o f i wr => ∃ n : Nat, n ≤ l.length ∧ i = .int .i64 n ∧ g = l.length - n ∧ Hid (Below w3.heap.size w3 wr) ∧ Hid (∃ vs, Two wr w3.heap.size o (planG l s k n).1 vs f (planG l s k n).2))
      case atStart => exact ⟨0, Nat.zero_le _, rfl, by omega, Below.refl _ _, [], Two.nil _ _⟩
      case round =>
        obtain ⟨n, hn, rfl, rfl, hbw, htw⟩ := hrel
        have HBW := Lib.hid (HB3.out.trans (hbw.out.mono HB3.out.size))
        by_cases hlt : n < l.length
        · obtain ⟨vs, htw⟩ := htw.out
          have HT := Lib.hid htw
          have HFT := Lib.hid (fit_plan HG.out n hn)
          have HSU := Lib.hid (planG_succ l s k n)
          have hom := ordG_mem (gi_mem (xs := ordG l) (k := n) (by rw [ordG_length]; omega))
          have HGB := Lib.hid (good_glI HG.out hom.1 hom.2)
          have co := cell_keep hbw.out (HOY.out.cellg (k := n) (by rw [ordG_length]; omega))
          have HFS := Lib.hid (fit_step HG.out HFT.out hom.1 hom.2)
          clear htw
          generalize gi (ordG l) n = i at *
          generalize hpl : planG l s k n = st at *
          obtain ⟨rs, fr⟩ := st
          clear hpl
          dsimp only at HT HFT HSU HFS
          have HOM := Lib.hid hom
          obtain ⟨iN, rfl⟩ : ∃ q : Nat, i = (q : Int) := ⟨i.toNat, by omega⟩
          have hn1 : (n : Int) < (l.length : Int) := by omega
          go_wp2_with fail
          have HBX := Lib.hid ((Below.refl wr.heap.size wr).alloc (Nat.le_refl _) (.cells #[.int .i64 (iN : Int)] 3))
          have HCI : Hid ((wr.alloc (.cells #[.int .i64 (iN : Int)] 3)).cell? ⟨wr.heap.size, 0, none⟩ = some (.int .i64 (iN : Int))) := by show _ = _; simp
          have HTA := Lib.hid (HT.out.alloc (.cells #[.int .i64 (iN : Int)] 3))
          have hsa : wr.heap.size < (wr.alloc (.cells #[.int .i64 (iN : Int)] 3)).heap.size := by simp
          generalize wr.alloc (.cells #[.int .i64 (iN : Int)] 3) = wa at *
          have HBA := Lib.hid (HBW.out.trans (HBX.out.mono HBW.out.size))
          have HBA3 := Lib.hid (hbw.out.trans (HBX.out.mono hbw.out.size))
          have HXA := Lib.hid (cell_keep HBA3.out HX3.out)
          have HKA := Lib.hid (cell_keep HBA3.out HK3.out)
          have hF2 : FnP (.func (.func 41) #[] #[.pointer (some ⟨w.heap.size, 0, none⟩), .pointer (some ⟨wr.heap.size, 0, none⟩), .pointer (some ⟨w.heap.size + 1, 0, none⟩)]) wa (fun _ => True) (fun n => decide (glI l (iN : Int) + k ≤ n)) := by
            refine ⟨_, _, rfl, fun _ _ => rfl, fun x m _ => ?_⟩
            exact (greedy2_any w.heap.size wr.heap.size (w.heap.size + 1) _ l (iN : Int) k x (wa.drewN m) HXA.out HCI.out HKA.out ((H.out.keep HBA.out).drewN m) HOM.out.1 HOM.out.2 ⟨HGB.out.1, HGB.out.2.1⟩ HG.out.kerf).mono fun _ _ ⟨he, q, hq⟩ => ⟨he, m + q, by rw [hq, World.drewN_drewN]⟩
          refine (indexFunc_int _ _ _ _ fr _ HTA.out.own.si hF2 (fun _ _ => trivial)).mono ?_
          rintro e w4 ⟨rfl, m4, rfl⟩
          have HTB := Lib.hid (HTA.out.dn m4)
          have HBB3 := Lib.hid (below_drewN' HBA3.out m4)
          have HBB := Lib.hid (below_drewN' HBA.out m4)
          have HCB : Hid ((wa.drewN m4).cell? ⟨wr.heap.size, 0, none⟩ = some (.int .i64 (iN : Int))) := HCI.out
          have HXB : Hid ((wa.drewN m4).cell? ⟨w.heap.size, 0, none⟩ = some (.slice a l.length cap)) := HXA.out
          have HKB : Hid ((wa.drewN m4).cell? ⟨w.heap.size + 1, 0, none⟩ = some (.int .i64 k)) := HKA.out
          have hsb : wr.heap.size < (wa.drewN m4).heap.size := hsa
          generalize wa.drewN m4 = wb at *
          clear hF2 HTA HBA3 HBA HCI HXA HKA hsa HBX
          have hrl := HFT.out.most
          have hfl := HFT.out.len
          have HFL := Lib.hid hfl
          have hfl256 : fr.length ≤ 256 := by dsimp only at hrl hfl; omega
          have hrl256 : rs.length ≤ 256 := by dsimp only at hrl hfl; omega
          clear hfl hrl
          have hs3 := HBB3.out.size
          have HTW : Hid (TW w3 wb w3.heap.size wr.heap.size (.int .i64 (iN : Int)) u11 rs vs u12 fr) :=
            ⟨HTB.out, HBB3.out, hs3, HCB.out, HT.out.tlt (Nat.le_refl _), HT.out.flt (Nat.le_refl _), fun j hj e => by have := (World.ownsRow.lt (HT.out.tab.row j hj) _ e).2; omega⟩
          have HKK : Hid (∀ wz, Below w3.heap.size w3 wz → wz.cell? ⟨w.heap.size + 1, 0, none⟩ = some (.int .i64 k)) := fun wz hz => cell_keep hz HK3.out
          go_upto_if 49 with fail
          go_cut [11, 12, 14, 15, 41] (fun s11 s12 s14 s15 s41 wx => s14 = .pointer (some ⟨wr.heap.size, 0, none⟩) ∧ s41 = .int .i64 n ∧ ∃ (kk : Nat) (rsQ : List (List Int)) (vsQ : List Value) (frQ : List Int), s15 = .int .i64 kk ∧ kk < rsQ.length ∧ kk < frQ.length ∧ rsQ.length ≤ 257 ∧ frQ.length ≤ 257 ∧ (ri rsQ kk).length ≤ 256 ∧ 0 ≤ gi frQ kk ∧ gi frQ kk ≤ 32868 ∧
            Hid (stepG l s k (rs, fr) (iN : Int) = (rsQ.set kk (ri rsQ kk ++ [(iN : Int)]), frQ.set kk (gi frQ kk - (glI l (iN : Int) + k)))) ∧ TW w3 wx w3.heap.size wr.heap.size (.int .i64 (iN : Int)) s11 rsQ vsQ s12 frQ)
          case first =>
            rcases findI_cases (fun n => decide (glI l (iN : Int) + k ≤ n)) fr with ⟨hx, _⟩ | ⟨t, hx, ht, hp, _⟩
            · have HST := Lib.hid (stepG_new (l := l) (s := s) (k := k) (st := (rs, fr)) (i := (iN : Int)) (by show findI _ fr < 0; rw [hx]; omega))
              rw [hx]
              clear hx
              have ck := HKB.out
              have e1 : IntKind.i64.wrap (s + k) = s + k := IntWalk.i64_in _ (by omega)
              obtain ⟨at_, ct, rfl, hct⟩ := HTB.out.slice_t
              go_wp2_with fail
              have hW := HTW.out
              have HNI : Hid ((Value.slice none 0 0).ownBlock ≠ some wr.heap.size) := by show _ ≠ _; simp [Value.ownBlock]
              go_region_held3 (fun w' => w'.cell? ⟨w.heap.size + 1, 0, none⟩ = some (.int .i64 k))
                (with_reducible repeat (first | exact ck | exact HKK.out _ hB.bel | exact HKK.out _ hA.bel | refine cell_drew' ?_ | refine cell_alloc' ?_ _))
                (first
                  | (refine step_tw_tab (I := wr.heap.size) (w0 := w3) (B := w3.heap.size) (x := .int .i64 (iN : Int)) (t := .slice at_ rs.length ct) (rs := rs) (vs := vs) (fv := u12) (fr := fr) ?_ (.tmp 52) (.tmp 53) rfl _ (.slice none 0 0) [] rfl rfl ?_ ?_ ?_ (OwnI_nil _ _) (sep_nil_left _) (fun _ _ => sep_nil_right _) HNI.out ?_ ?_; rfl; (with_reducible repeat (first | exact hW | exact hA | exact hB | refine TW.drew ?_ | refine TW.alloc ?_ _)); (with_reducible repeat (first | exact Lit1_new0 | exact Lit1_new1 | exact Lit1_new1d | refine Lit1_drew ?_ | refine Lit1.alloc ?_ _ | refine Lit1_gF0 hgB ?_ HTW.out.two | refine Lit1_gF1 hgB ?_ HTW.out.two)); rfl; omega; intro tA wA hA hgA)
                  | (refine step_tw_tab (I := wr.heap.size) (w0 := w3) (B := w3.heap.size) (x := .int .i64 (iN : Int)) (t := .slice at_ rs.length ct) (rs := rs) (vs := vs) (fv := fB) (fr := fr ++ [s + k]) ?_ (.tmp 52) (.tmp 53) rfl _ (.slice none 0 0) [] rfl rfl ?_ ?_ ?_ (OwnI_nil _ _) (sep_nil_left _) (fun _ _ => sep_nil_right _) HNI.out ?_ ?_; rfl; (with_reducible repeat (first | exact hW | exact hA | exact hB | refine TW.drew ?_ | refine TW.alloc ?_ _)); (with_reducible repeat (first | exact Lit1_new0 | exact Lit1_new1 | exact Lit1_new1d | refine Lit1_drew ?_ | refine Lit1.alloc ?_ _ | refine Lit1_gF0 hgB ?_ HTW.out.two | refine Lit1_gF1 hgB ?_ HTW.out.two)); rfl; omega; intro tA wA hA hgA)
                  | (refine step_tw_free (I := wr.heap.size) (w0 := w3) (B := w3.heap.size) (x := .int .i64 (iN : Int)) (t := .slice at_ rs.length ct) (rs := rs) (vs := vs) (fv := u12) (fr := fr) ?_ (.tmp 55) (.tmp 59) rfl _ (s + k) rfl rfl ?_ ?_ ?_ ?_; rfl; (with_reducible repeat (first | exact hW | exact hA | exact hB | refine TW.drew ?_ | refine TW.alloc ?_ _)); (with_reducible repeat (first | exact SI_new0 | exact SI_new1 | exact SI_new1d | refine SI_drew ?_ | refine SI_alloc ?_ _ | refine SI_gA0 hgA ?_ HTW.out.two | refine SI_gA1 hgA ?_ HTW.out.two)); omega; intro fB wB hB hgB)
                  | (refine step_tw_free (I := wr.heap.size) (w0 := w3) (B := w3.heap.size) (x := .int .i64 (iN : Int)) (t := tA) (rs := rs ++ [[]]) (vs := vs ++ [.slice none 0 0]) (fv := u12) (fr := fr) ?_ (.tmp 55) (.tmp 59) rfl _ (s + k) rfl rfl ?_ ?_ ?_ ?_; rfl; (with_reducible repeat (first | exact hW | exact hA | exact hB | refine TW.drew ?_ | refine TW.alloc ?_ _)); (with_reducible repeat (first | exact SI_new0 | exact SI_new1 | exact SI_new1d | refine SI_drew ?_ | refine SI_alloc ?_ _ | refine SI_gA0 hgA ?_ HTW.out.two | refine SI_gA1 hgA ?_ HTW.out.two)); omega; intro fB wB hB hgB))
              all_goals
                go_wp2_with fail
                go_meet
                refine ⟨rfl, rfl, rs.length, rs ++ [[]], vs ++ [.slice none 0 0], fr ++ [s + k], rfl, by simp, by have := HFL.out; simp; omega, by simp; omega, by simp; omega, by rw [ri_append_one]; simp, ?_, ?_, step_new_eq HFL.out HST.out, by with_reducible first | exact hB | exact hA⟩
                · rw [← HFL.out, gi_append_one]; omega
                · rw [← HFL.out, gi_append_one]; omega
            · have HST := Lib.hid (stepG_old (l := l) (s := s) (k := k) (st := (rs, fr)) (i := (iN : Int)) (t := t) hx)
              have hkf : t < fr.length := ht
              have hkk : t < rs.length := by have h1 : fr.length = rs.length := HFL.out; omega
              have hrow : (ri rs t).length ≤ 256 := by have h1 : (ri rs t).length ≤ n := HFT.out.rows t hkk; omega
              have hgf : 0 ≤ gi fr t ∧ gi fr t ≤ 32868 := by have h1 : 0 ≤ gi fr t ∧ gi fr t ≤ s + k := HFT.out.free t hkf; omega
              rw [hx]
              clear hx hp
              go_wp2_with fail
              go_meet
              exact ⟨rfl, rfl, t, rs, vs, fr, rfl, hkk, hkf, by omega, by omega, hrow, hgf.1, hgf.2, HST, HTW.out⟩
          case rest =>
            obtain ⟨rfl, rfl, kk, rsQ, vsQ, frQ, rfl, hkk, hkf, hlq, hfq, hrow, hgf1, hgf2, HRES, hQ⟩ := hcut
            have HQ := Lib.hid hQ
            obtain ⟨gt, capt, et, ct1, _, _, _, cells, _⟩ := hQ.two.tab.form (by omega)
            obtain ⟨gf, capf, ef, cf1, _, _, _, cellf, fzf⟩ := hQ.two.own.form (by omega)
            rw [et, ef]
            have HET := Lib.hid et
            have HEF := Lib.hid ef
            have hct0 := cells kk hkk
            have hci := hQ.box
            have hrow0 := hQ.two.tab.row kk hkk
            have hW := hQ
            have hlw := hQ.le
            clear et ef cells cellf fzf hQ
            have i1 : (kk : Int) < (rsQ.length : Int) := by omega
            have i2 : (kk : Int) < (frQ.length : Int) := by omega
            have i3 : (kk : Int) < (capt : Int) := by omega
            go_wp2_with fail
            go_cut [11, 12, 14, 15, 41] (fun s11 s12 s14 s15 s41 wx => s11 = .slice (some ⟨gt, 0, none⟩) rsQ.length capt ∧ s12 = .slice (some ⟨gf, 0, none⟩) frQ.length capf ∧ s14 = .pointer (some ⟨wr.heap.size, 0, none⟩) ∧ s15 = .int .i64 kk ∧ s41 = .int .i64 n ∧
              ∃ v, TW w3 wx w3.heap.size wr.heap.size (.int .i64 (iN : Int)) (.slice (some ⟨gt, 0, none⟩) rsQ.length capt) (rsQ.set kk (ri rsQ kk ++ [(iN : Int)])) (vsQ.set kk v) (.slice (some ⟨gf, 0, none⟩) frQ.length capf) frQ)
            case first =>
              have hcta := cell_alloc' hct0 (.cells #[.int .i64 (iN : Int)] 3)
              go_region_law
                (first
                  | (refine step_row_app (B := w3.heap.size) (v := vsQ.getD kk undef) (r := ri rsQ kk) ?_ (.tmp 66) (.tmp 68) rfl _ (iN : Int) rfl rfl ?_ ?_ ?_ ?_ ?_; rfl; (with_reducible repeat (first | exact hrow0 | refine OwnI_drew' ?_ | refine OwnI_alloc' ?_ _)); (with_reducible repeat (first | exact SI_new0 | refine SI_drew ?_ | refine SI_alloc ?_ _)); omega; (first | exact (hW.alloc _).le | exact (hW.drew.alloc _).le | exact (hW.alloc _).drew.le); intro vC wC hoC hgC hatC; obtain ⟨cC, fC, cI⟩ := TW.after (by first | exact hW.alloc _ | exact hW.drew.alloc _ | exact (hW.alloc _).drew) HET.out hkk hgC; obtain ⟨gC, cpC, eC, _, _, _, _, _, _⟩ := hoC.form (by simp); subst eC))
              all_goals
                have HP := TW.put (by with_reducible first | exact hW.alloc _ | exact hW.drew.alloc _ | exact (hW.alloc _).drew) HET.out hkk hgC hoC hatC
                clear hoC hgC hatC cC fC cI hcta hct0 hci hrow0 hW
                simp only [List.length_append, List.length_singleton] at HP
                rw [HET.out, HEF.out] at HP
                go_wp2_with fail
                go_meet
                exact ⟨rfl, rfl, rfl, rfl, rfl, _, HP⟩
            case rest =>
              obtain ⟨rfl, rfl, rfl, rfl, rfl, v, hP⟩ := hcut
              have HP := Lib.hid hP
              obtain ⟨bL, oL, haL, cL⟩ := H3.out iN (by have := HOM.out.2; omega)
              have cL := cell_keep hP.bel (cell_keep HB3.out cL)
              try dsimp only at cL
              have cX := cell_keep hP.bel HX3.out
              have cK := HKK.out _ hP.bel
              have cI := hP.box
              have hOF := hP.two.own
              have cF := hOF.cellg hkf
              have fF := hOF.fzg kk
              have hgl := HGB.out
              have hil : (iN : Int) < (l.length : Int) := HOM.out.2
              have hilc : (iN : Int) < (cap : Int) := by omega
              have hkc : (kk : Int) < (capf : Int) := by omega
              rw [haL] at cX
              have HGL : Hid (glI l (iN : Int) = gi l iN) := by show glI l (iN : Int) = gi l iN; simp [glI]
              rw [HGL.out] at hgl
              have HGL2 := HRES.out
              rw [HGL.out] at HGL2
              have HRS2 := Lib.hid HGL2
              clear hOF hct0 hci hrow0 hW hP HGL2
              have hliv : ∃ li, gi l iN = li := ⟨_, rfl⟩
              obtain ⟨li, hli⟩ := hliv
              have hfvv : ∃ fv, gi frQ kk = fv := ⟨_, rfl⟩
              obtain ⟨fv, hfv⟩ := hfvv
              rw [hli] at hgl cL
              rw [hfv] at cF hgf1 hgf2
              have HLN := Lib.hid hli
              have HFV := Lib.hid hfv
              clear hli hfv
              have e1 : IntKind.i64.wrap (li + k) = li + k := IntWalk.i64_in _ (by omega)
              have e2 : IntKind.i64.wrap (fv - (li + k)) = fv - (li + k) := IntWalk.i64_in _ (by omega)
              go_wp2_with fail
              go_region
              all_goals
                have HP3 := Lib.hid ((HP.out.setF rfl kk (fv - (li + k))).drew)
                go_wp2_with fail
                go_roundg (l.length - (n + 1))
                case measure => omega
                case rel =>
                  refine ⟨n + 1, by omega, by go_num, rfl, HP3.out.bel, vsQ.set kk v, ?_⟩
                  rw [HSU.out, HRS2.out, HLN.out, HFV.out]; exact HP3.out.two
        · obtain rfl : n = l.length := by omega
          obtain ⟨vs, ht⟩ := htw.out
          have HSS := Lib.hid ht.tab.ownT.ss
          clear ht htw
          go_wp2_with fail
          go_ret2
          exact retSE rfl HR.out.symm HSS.out HE.out.symm HBW.out
end Go.Proofs.Ytlgepggmgfnneaa
