/- Contract: Best of the reference. -/
import Derived.Test.YtlgepggmgfnneaaBarU
import Derived.Test.YtlgepggmgfnneaaBarS
import Derived.Deep.RegionHeld3
namespace Go.Proofs.Ytlgepggmgfnneaa
open Go.RowKit

theorem TabV.made (w : World) (B : Nat) (t : Value) (r : List Nat) (M : Nat) (h : w.ownsRow B 36 1 t M (madeCells #[Value.slice none 0 0] M).toList) : TabV w B t (rowsN r M 0) (List.replicate M (.slice none 0 0)) := by
  have e : (madeCells #[Value.slice none 0 0] M).toList = List.replicate M (.slice none 0 0) := by rw [toList_madeCells_one]
  have hg : ∀ i, i < M → (List.replicate M (Value.slice none 0 0)).getD i undef = .slice none 0 0 := fun i hi => by simp [hi]
  refine ⟨by rw [rowsN_length, ← e]; exact h, fun i hi => ?_, fun i j hi hj _ => ?_⟩
  · rw [rowsN_length] at hi
    rw [hg i hi, ri_rowsN hi]
    exact OwnI_nil _ _
  · rw [rowsN_length] at hi hj
    rw [hg i hi, hg j hj]
    exact sep_nil_left _
theorem TabV.after {w w' : World} {B gt capt m j : Nat} {t : Value} {rs : List (List Int)} {vs : List Value} (h : TabV w B t rs vs) (ht : t = .slice (some ⟨gt, 0, none⟩) m capt) (hj : j < rs.length) (hg : w.grownBy w' (vs.getD j undef).ownBlock) :
    w'.cell? ⟨gt, j, none⟩ = some (vs.getD j undef) ∧ w'.frozen? ⟨gt, j, none⟩ = false := by
  have ht' : t.ownBlock = some gt := by rw [ht]; rfl
  have hs : Sep t (vs.getD j undef) := sep_of_types h.own (h.row j hj) (by decide)
  have hne : some gt ≠ (vs.getD j undef).ownBlock := fun e => hs gt ht' e.symm
  obtain ⟨gt', capt', e, _, _, _, hlt, hc, hf⟩ := h.form (by omega)
  rw [ht] at e
  simp at e
  obtain ⟨rfl, -, rfl⟩ := e
  refine ⟨hg.cell (hc j hj) hne, ?_⟩
  have := World.frozen?_of_block (a := ⟨gt, j, none⟩) (hg.block gt hlt hne)
  rw [this]; exact hf j
theorem cell_set_far {w : World} {b o : Nat} {x v : Value} {p : Addr} (h : w.cell? p = some v) (hne : p.block ≠ b) : (w.setCell ⟨b, o, none⟩ x).cell? p = some v := (World.cell?_of_block (a := p) (set_far hne)).trans h
theorem TabV.alloc {w : World} {B : Nat} {t : Value} {rs : List (List Int)} {vs : List Value} (h : TabV w B t rs vs) (o : Obj) : TabV (w.alloc o) B t rs vs := h.below ((Below.refl _ _).alloc (Nat.le_refl _) _)
theorem TabV.drew {w : World} {B : Nat} {t : Value} {rs : List (List Int)} {vs : List Value} (h : TabV w B t rs vs) : TabV w.drew B t rs vs := h.below (Below.refl _ _).drew
theorem bestR_lt {l : List Int} {s k : Int} (h : GoodB l s k) {t : Nat} (ht : t < l.length) : (bestR l s k).getD t 0 < leastV l s k := by
  have hs := alls_sound (bestS_mem (s + k) (ndL l k)) (fun b hb => by simp at hb) (fun x hx => ((good_need h).nn x hx).2) (good_need h).cap
  have hl := bestR_length l s k
  rw [List.getD_eq_getElem?_getD, List.getElem?_eq_getElem (by omega)]
  exact hs.1 _ (List.getElem_mem _)
theorem bestS_eq (l : List Int) (s k : Int) : plB (s + k) ((ndL l k).drop ([] : List Nat).length) [] [] ([], l.length + 1) = (bestR l s k, leastV l s k) := by
  show plB (s + k) (ndL l k) [] [] ([], l.length + 1) = bestS (s + k) (ndL l k)
  unfold bestS
  rw [ndL_length]

/-- one number more onto a row, the new slice written out -/
theorem step_row_lit {w : World} {B : Nat} {ops : Array Oper} {o : Oper} {a : Act} {K : Act → World → Prop} {Q : Exit → Act → World → Prop} {E : Prop} (hw : Region.wanted o (yielded ops a.tmps) = true) (s x : Operand)
    (ho : o.op = .call { callee := .builtin .append, args := #[s, x], argTypes := #[36, 36] }) (n : Nat) (y : Int) (v : Value) (r : List Int) (hs : a.eval s = v) (hx : a.eval x = .slice (some ⟨n, 0, none⟩) 1 1)
    (h2 : OwnI w B v r) (hsrc : SI w (.slice (some ⟨n, 0, none⟩) 1 1) [y]) (hlen : r.length ≤ 1000000) (hb : B ≤ w.heap.size)
    (h : ∀ g cap w', OwnI w' B (.slice (some ⟨g, 0, none⟩) (r.length + 1) cap) (r ++ [y]) → w.grownBy w' v.ownBlock → (some g = v.ownBlock ∨ g = w.heap.size) → K (a.put o.dst (.slice (some ⟨g, 0, none⟩) (r.length + 1) cap)) w') : if Region.wanted o (yielded ops a.tmps) = true then Oper.wp Try.prog o a w K Q else E := by
  rw [if_pos hw]
  refine wp_app_int s x ho B v _ r [y] hs hx h2 hsrc (by simp; omega) hb fun v' w' h3 h4 h5 => ?_
  obtain ⟨g, cap, e, _⟩ := h3.form (by simp)
  rw [List.length_append, List.length_singleton] at e
  subst e
  refine h g cap w' h3 h4 ?_
  rcases h5 with e | e
  · exact .inl e
  · simp [Value.ownBlock] at e; exact .inr e

set_option maxRecDepth 100000 in
set_option maxHeartbeats 20000000 in
theorem rBest_any (v : Value) (l : List Int) (s k : Int) (w : World) (h : SI w v l) :
    Calls Try.prog 24 #[v, .int .i64 s, .int .i64 k] w (RetSE w (bestL l s k) (bestE l s k)) := by
  have H := Lib.hid h
  obtain ⟨a, cap, rfl, h1, h2, h3⟩ := h
  clear h3
  have hm : l.length ≤ 9223372036854775807 := by unfold maxLen at h2; omega
  by_cases hL : 12 < l.length
  · have hL' : decide (12 < (l.length : Int)) = true := by rw [decide_eq_true_eq]; omega
    have HE : Hid (bestE l s k = 13) := if_pos hL
    have HLL : Hid (bestL l s k = []) := bestL_bad (by rw [HE.out]; omega)
    go_enter Try.func24, Try.ntmps24
    go_wp2_with fail
    go_ret2
    exact retSE rfl HE.out.symm (SS_nil _) HLL.out.symm (Below.refl _ _)
  have hL' : decide (12 < (l.length : Int)) = false := by rw [decide_eq_false_iff_not]; omega
  have HE : Hid (bestE l s k = rightE l s k) := if_neg hL
  go_enter Try.func24, Try.ntmps24
  go_wp2_with fail
  refine (input_any _ l s k _ H.out).mono ?_
  rintro e w1 ⟨rfl, m, rfl⟩
  by_cases hr : rightE l s k = 0
  rotate_left
  · have hb : (rightE l s k != 0) = true := by simpa using hr
    have HLL : Hid (bestL l s k = []) := bestL_bad (by rw [HE.out]; exact hr)
    clear hr
    go_wp2_with fail
    go_ret2
    exact retSE rfl HE.out.symm (SS_nil _) HLL.out.symm (below_drewN' (Below.refl _ _) _)
  have hb : (rightE l s k != 0) = false := by rw [hr]; rfl
  have HG := Lib.hid (rightE_zero.1 hr)
  have HR := Lib.hid hr
  have HLL : Hid (bestL l s k = bestP l s k) := bestL_good (by rw [HE.out]; exact hr)
  rw [hr]
  clear hr
  have hll := least_len l s k
  by_cases h0 : l.length = 0
  · have hb0 : ((l.length : Int) == 0) = true := by rw [beq_iff_eq]; omega
    have HP0 : Hid (bestP l s k = []) := by
      show _ = _
      unfold bestP
      rw [show leastV l s k = 0 by omega]; rfl
    clear h0
    go_wp2_with fail
    go_ret2
    exact retSE rfl (by rw [HE.out, HR.out]) (SS_nil _) (by rw [HLL.out, HP0.out]) (below_drewN' (Below.refl _ _) _)
  have hb0 : ((l.length : Int) == 0) = false := by rw [beq_eq_false_iff_ne]; omega
  have hl0 : 0 < l.length := by omega
  have hw1 : Hid (Below w.heap.size w (w.drewN m)) := below_drewN' (Below.refl _ _) _
  have hwz : (w.drewN m).heap.size = w.heap.size := rfl
  have HWZ := Lib.hid hwz
  have hwz2 : w.heap.size ≤ (w.drewN m).heap.size := Nat.le_of_eq HWZ.out.symm
  clear h0 hwz
  generalize w.drewN m = ws at *
  have HREP : Hid (RepP (ws.alloc (blkP (.slice a l.length cap) s k (.slice none 0 0) (.slice none 0 0) (.slice none 0 0) ((l.length + 1 : Nat) : Int))) ws.heap.size (.slice a l.length cap) s k (.slice none 0 0) (.slice none 0 0) (.slice none 0 0) [] [] ([], l.length + 1)) :=
    ⟨(by show (ws.heap.push _)[ws.heap.size]? = _; rw [Array.getElem?_push_size]), OwnI_nil _ _, OwnI_nil _ _, OwnI_nil _ _, sep_nil_left _, sep_nil_left _, sep_nil_left _⟩
  have HBA : Hid (Below w.heap.size w (ws.alloc (blkP (.slice a l.length cap) s k (.slice none 0 0) (.slice none 0 0) (.slice none 0 0) ((l.length + 1 : Nat) : Int)))) := hw1.out.alloc hwz2 _
  have HPL := Lib.hid (place_any w ws.heap.size (.slice a l.length cap) l s k H.out hwz2 HG.out (by omega) l.length [] [] ([], l.length + 1) _ _ _ _ (by simp) (fun i hi => by simp at hi) (Nat.le_refl _) (by dsimp only; omega) HBA.out HREP.out)
  go_wp2_with fail
  refine Calls.mono HPL.out ?_
  rintro e w3 ⟨rfl, hb3, bv, uv, ov, hr3⟩
  rw [bestS_eq] at hr3
  have HB3 := Lib.hid (HBA.out.trans (hb3.mono hwz2))
  have c5 := hr3.c5
  have c6 := hr3.c6
  dsimp only at c6
  have HOO := Lib.hid hr3.oo
  have hlt3 := hr3.lt
  have hRl := bestR_length l s k
  obtain ⟨go, co, eo, hco, _, _, hgo3, cello, _⟩ := hr3.oo.form (by rw [natL_length]; show 0 < (bestR l s k).length; omega)
  rw [natL_length] at eo hco cello
  dsimp only at eo hco cello
  rw [hRl] at eo hco cello
  subst eo
  have HCO := Lib.hid cello
  have HRL := Lib.hid hRl
  obtain ⟨iT, hi, hz0, hz1, hz2⟩ := info_parts Try_infoInts
  have HI := Lib.hid hi
  have HZ0 := Lib.hid hz0
  have HZ1 := Lib.hid hz1
  have HZ2 := Lib.hid hz2
  have C5 := Lib.hid c5
  obtain ⟨M, hM⟩ : ∃ M, leastV l s k = M := ⟨_, rfl⟩
  rw [hM] at c6 hll
  have HM := Lib.hid hM
  have hM12 : M ≤ 12 := by omega
  clear hb3 hr3 cello hRl hi hz0 hz1 hz2 HREP HPL hM
  go_wp2_with (at_make; refine wpList_make_full _ rfl _ _ 40 rfl w3.heap.size 36 iT (.slice none 0 0) 1 Try.underlying40 HI.out HZ0.out HZ1.out _ _ _ _ M rfl rfl rfl rfl ?c1 ?c2 (Nat.le_refl _) ?_)
  case c1 => rw [HZ2.out]; omega
  case c2 => unfold maxLen; omega
  intro w4 hown hgrow
  have HT4 := Lib.hid (TabV.made w4 w3.heap.size _ (bestR l s k) M hown)
  have HB4 := Lib.hid (grownBy_below hgrow)
  clear hown hgrow c6 c5
  go_wp2_with fail
  go_loopg [11] l.length (fun g i wr => ∃ t : Nat, t ≤ l.length ∧ i = .int .i64 t ∧ g = l.length - t ∧ Hid (Below w3.heap.size w3 wr) ∧ Hid (∃ vs, TabV wr w3.heap.size (.slice (some ⟨w3.heap.size, 0, none⟩) M M) (rowsN (bestR l s k) M t) vs))
  case atStart => exact ⟨0, Nat.zero_le _, rfl, by omega, HB4.out, _, HT4.out⟩
  case round =>
    obtain ⟨wo, rfl⟩ : ∃ wo : World, wo = wr := ⟨_, rfl⟩
    obtain ⟨t, ht, rfl, rfl, hbw, htab⟩ := hrel
    obtain ⟨vs, htab⟩ := htab.out
    have HTAB := Lib.hid htab
    have hle := hbw.out.size
    have c5 := cell_keep hbw.out C5.out
    by_cases htl : t < l.length
    · have hbM := bestR_lt HG.out htl
      rw [HM.out] at hbM
      have cE := cell_keep hbw.out (HCO.out t htl)
      rw [gi_natL (by rw [HRL.out]; exact htl)] at cE
      have HSET := Lib.hid (rowsN_set (r := bestR l s k) (m := M) (t := t) hbM)
      have hrow0 := htab.row ((bestR l s k).getD t 0) (by rw [rowsN_length]; exact hbM)
      rw [ri_rowsN hbM] at hrow0 HSET
      have hrl : (rowOf (bestR l s k) ((bestR l s k).getD t 0) t).length ≤ 1000000 := Nat.le_trans (rowOf_length _ _ _) (by omega)
      obtain ⟨gt, capt, et, _, _, _, hgtl, cells, fzt⟩ := htab.form (by rw [rowsN_length]; omega)
      simp only [Value.slice.injEq, Option.some.injEq, Addr.mk.injEq] at et
      obtain ⟨⟨rfl, -, -⟩, -, rfl⟩ := et
      have hct0 := cells ((bestR l s k).getD t 0) (by rw [rowsN_length]; exact hbM)
      obtain ⟨b, hb⟩ : ∃ b, (bestR l s k).getD t 0 = b := ⟨_, rfl⟩
      rw [hb] at hbM cE HSET hrow0 hrl hct0
      have HBB := Lib.hid hb
      have hbMI : (b : Int) < (M : Int) := by omega
      have htI : (t : Int) < (l.length : Int) := by omega
      have htc : (t : Int) < (co : Int) := by omega
      have hbj : b < (rowsN (bestR l s k) M t).length := by rw [rowsN_length]; exact hbM
      have hW := htab
      clear htab cells fzt hb
      go_wp2_with fail
      have hcta := cell_alloc' hct0 (.cells #[.int .i64 (t : Int)] 3)
      have hcta2 := cell_alloc' (cell_drew' hct0) (.cells #[.int .i64 (t : Int)] 3)
      have c5a := cell_alloc' c5 (.cells #[.int .i64 (t : Int)] 3)
      have cEa := cell_alloc' cE (.cells #[.int .i64 (t : Int)] 3)
      have HCE : Hid (w3.cell? ⟨go, t, none⟩ = some (.int .i64 (b : Int))) := by
        have h1 := HCO.out t htl
        rw [gi_natL (by rw [HRL.out]; exact htl), HBB.out] at h1
        exact h1
      have hle2 : w3.heap.size ≤ (wo.alloc (.cells #[.int .i64 (t : Int)] 3)).heap.size := by simp; omega
      have hle3 : w3.heap.size ≤ (wo.alloc (.cells #[.int .i64 (t : Int)] 3)).drew.heap.size := hle2
      have hle4 : w3.heap.size ≤ (wo.drew.alloc (.cells #[.int .i64 (t : Int)] 3)).heap.size := hle2
      have hB1 : Below w3.heap.size w3 (wo.alloc (.cells #[.int .i64 (t : Int)] 3)) := hbw.out.alloc hle _
      have hB2 : Below w3.heap.size w3 (wo.drew.alloc (.cells #[.int .i64 (t : Int)] 3)) := hbw.out.drew.alloc hle _
      have hrl' : ∀ q, (vs.getD b undef).ownBlock = some q → w3.heap.size ≤ q := fun q hq => (World.ownsRow.lt hrow0 q hq).1
      have hne1 : ws.heap.size ≠ w3.heap.size := by omega
      have hne2 : go ≠ w3.heap.size := by omega
      go_region_law
        (first
          | (refine step_row_lit (B := w3.heap.size) (v := vs.getD b undef) (r := rowOf (bestR l s k) b t) ?_ (.tmp 66) (.tmp 68) rfl _ (t : Int) rfl rfl ?_ ?_ ?_ ?_ ?_; rfl; (with_reducible repeat (first | exact hrow0 | refine OwnI_drew' ?_ | refine OwnI_alloc' ?_ _)); (with_reducible repeat (first | exact SI_new0 | refine SI_drew ?_ | refine SI_alloc ?_ _)); omega; (simp; omega); intro gC cpC wC hoC hgC hatC; have hbC : Below w3.heap.size w3 wC := (by first | (with_reducible exact hB1.drew.grown hgC hle3 hrl') | (with_reducible exact hB2.grown hgC hle4 hrl') | (with_reducible exact hB1.grown hgC hle2 hrl')); have c5C := cell_keep hbC C5.out; have cEC := cell_keep hbC HCE.out; obtain ⟨cC, fC⟩ := TabV.after (by with_reducible first | exact hW.alloc _ | exact hW.drew.alloc _ | exact (hW.alloc _).drew) rfl hbj hgC))
      all_goals
        have HP := TabV.put (by with_reducible first | exact hW.alloc _ | exact hW.drew.alloc _ | exact (hW.alloc _).drew) rfl hbj hgC hoC (by rcases hatC with e | e; exact .inl e; exact .inr (.inl (by rw [e]; rfl)))
        have HP := Lib.hid HP
        have HBC := Lib.hid hbC
        clear hoC hgC hatC cC fC hcta hcta2 hct0 hrow0 hW hbC hB1 hB2 hrl' hle3 hle4
        go_wp2_with fail
        go_roundg (l.length - (t + 1))
        case measure => omega
        case rel =>
          refine ⟨t + 1, by omega, by go_num, rfl, bset HBC.out (Nat.le_refl _) _ _, vs.set b (.slice (some ⟨gC, 0, none⟩) ((rowOf (bestR l s k) b t).length + 1) cpC), ?_⟩
          rw [HSET.out]
          exact HP.out
    · obtain rfl : t = l.length := by omega
      have HSS := Lib.hid HTAB.out.ownT.ss
      have HPP : Hid (bestP l s k = rowsN (bestR l s k) M l.length) := by show _ = _; rw [← HM.out]; rfl
      go_wp2_with fail
      go_ret2
      exact retSE rfl (by rw [HE.out, HR.out]) HSS.out (by rw [HLL.out, HPP.out]) (HB3.out.trans (hbw.out.mono HB3.out.size))
end Go.Proofs.Ytlgepggmgfnneaa
