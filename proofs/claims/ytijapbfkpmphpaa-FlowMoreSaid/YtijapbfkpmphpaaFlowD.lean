/- Contracts: the reference's times. -/
import Derived.Test.YtijapbfkpmphpaaOwn
import Derived.Test.YtijapbfkpmphpaaFlowC
namespace Go.Proofs.Ytijapbfkpmphpaa
open Go.RowKit

/-- where the time of a job at a station begins -/
def fromV (p : List (List Int)) (l : List Int) (k : Nat) : Nat → Int
  | 0 => prevT p l k 0
  | s + 1 => max (prevT p l k (s + 1)) (tm p l k s)
theorem tm_from (p l k s) : tm p l k s = fromV p l k s + gi (jobRow p l k) s := by
  rw [tm_eq]; cases s with
  | zero => rfl
  | succ s => simp only [rowT, fromV]; rw [tm_eq]

theorem fromV_pos (p l k) {s : Nat} (h : 0 < s) : fromV p l k s = max (prevT p l k s) (tm p l k (s - 1)) := by
  cases s with
  | zero => omega
  | succ s => rfl
theorem fromV_zero (p l k) {s : Nat} (h : s = 0) : fromV p l k s = prevT p l k s := by subst h; rfl

theorem prevT_bounds {p : List (List Int)} {l : List Int} (hg : Good p) (hl : rightB p.length l = true) {k : Nat} (hk : k < l.length) {s : Nat} (hs : s < (jobRow p l k).length) : 0 ≤ prevT p l k s ∧ prevT p l k s ≤ k * 800000 := by
  cases k with
  | zero => simp [prevT]
  | succ k =>
    have hj := rightB_job hl hk
    have hj' := rightB_job hl (show k < l.length by omega)
    have h8 := hg.st _ hj.2.2
    have h8' := hg.st _ hj'.2.2
    have := tm_bounds hg hl k (by omega) s (by unfold jobRow at *; omega)
    simp only [prevT]; omega

theorem timesL_take_succ {p : List (List Int)} {l : List Int} {k : Nat} (hk : k < l.length) : (timesL p l).take (k + 1) = (timesL p l).take k ++ [rowL p l k] := by
  rw [take_succ_ri (by simpa [timesL] using hk), timesL_ri hk]

set_option maxHeartbeats 2000000 in
theorem times_any (v u : Value) (p : List (List Int)) (l : List Int) (w : World) (h : SS w v p) (g : SI w u l) (hg : Good p) (hl : rightB p.length l = true) (hl32 : l.length ≤ 32) :
    Calls Try.prog 32 #[v, u] w (RetS w (timesL p l)) := by
  obtain ⟨vs, ⟨a, cap, rfl, h1, h2, h3⟩, h4⟩ := h
  obtain ⟨a', cap', rfl, g1, g2, g3⟩ := g
  have H3 := Lib.hid h3; clear h3
  have H4 := Lib.hid h4; clear h4
  have G3 := Lib.hid g3; clear g3
  have hm : p.length ≤ 9223372036854775807 := by unfold maxLen at h2; omega
  have hm' : l.length ≤ 9223372036854775807 := by unfold maxLen at g2; omega
  obtain ⟨iI, hi, hz0, hz1, hz2⟩ := info_parts Try_infoInt
  obtain ⟨iS, hiS, hz0S, hz1S, hz2S⟩ := info_parts Try_infoInts
  have HI := Lib.hid hi; have HZ0 := Lib.hid hz0; have HZ1 := Lib.hid hz1; have HZ2 := Lib.hid hz2
  have HIS := Lib.hid hiS; have HZ0S := Lib.hid hz0S; have HZ1S := Lib.hid hz1S; have HZ2S := Lib.hid hz2S
  clear hi hz0 hz1 hz2 hiS hz0S hz1S hz2S
  have HG := Lib.hid hg; clear hg
  have HL := Lib.hid hl; clear hl
  go_enter Try.func32, Try.ntmps32
  go_wp2_with fail
  go_loopw [5, 6] (fun t i wr => ∃ k : Nat, k ≤ l.length ∧ i = .int .i64 k ∧ Below w.heap.size w wr ∧ Hid (OwnT wr w.heap.size t ((timesL p l).take k))) (fun _ i _ => l.length - (intOf i).toNat)
  case atStart => exact ⟨0, Nat.zero_le _, rfl, Below.refl _ _, OwnT_nil _ _⟩
  case round =>
    obtain ⟨k, hk, rfl, hbel, hown⟩ := hrel
    by_cases hlt : k < l.length
    · have hj := rightB_job HL.out hlt
      obtain ⟨b, off, ha, hc⟩ := G3.out k hlt
      have hc := cell_keep hbel hc
      have HJ : Hid (jobRow p l k = ri p (gi l k).toNat) := rfl
      generalize hx : gi l k = x at *
      have HX := Lib.hid hx; clear hx
      obtain ⟨j, rfl⟩ := Int.eq_ofNat_of_zero_le hj.1
      simp only [Int.toNat_natCast] at HJ hj
      obtain ⟨b2, off2, ha2, hc2⟩ := H3.out j hj.2.2
      have hc2 := cell_keep hbel hc2
      obtain ⟨ak, capk, ek, n1, n2, hrow⟩ := H4.out j hj.2.2
      rw [ek] at hc2
      clear ek
      have h8 := HG.out.st _ hj.2.2
      have HN := Lib.hid (HG.out.num _ hj.2.2)
      have HR := Lib.hid hrow; clear hrow
      generalize ri p j = row at *
      have hn8 : row.length ≤ 8 := by omega
      have hn1 : 1 ≤ row.length := by omega
      clear h8
      rw [ha, ha2]
      clear ha ha2
      go_wp2_with (at_make; refine wpList_make_full _ rfl _ _ 23 rfl wr.heap.size 3 iI (.int .i64 0) 1 Try.underlying23 HI.out HZ0.out HZ1.out _ _ _ _ row.length rfl rfl rfl rfl ?c1 ?c2 (Nat.le_refl _) ?_)
      case c1 => rw [HZ2.out]; omega
      case c2 => unfold maxLen; omega
      intro w1 hown1 hgrow1
      rw [← part_zero (tm p l k)] at hown1
      have HO1 := Lib.hid hown1; clear hown1
      have HB1 := Lib.hid (grownBy_below hgrow1); clear hgrow1
      have HBN : Hid (∀ s, s < row.length → 0 ≤ prevT p l k s ∧ prevT p l k s ≤ k * 800000) := fun s hs => prevT_bounds HG.out HL.out hlt (by rw [show jobRow p l k = row from HJ.out]; exact hs)
      have HTB : Hid (∀ s, s < row.length → 0 ≤ tm p l k s ∧ tm p l k s ≤ (k + 1) * 800000) := fun s hs => tm_bounds HG.out HL.out k hlt s (by rw [show jobRow p l k = row from HJ.out]; exact hs)
      have HTF : Hid (∀ s, tm p l k s = fromV p l k s + gi row s) := fun s => by rw [tm_from, show jobRow p l k = row from HJ.out]
      have hkk : k ≤ 31 := by omega
      obtain ⟨wo, rfl⟩ : ∃ wo : World, wo = wr := ⟨_, rfl⟩
      go_wp2_with fail
      go_loopw [8] (fun i w2 => ∃ s : Nat, s ≤ row.length ∧ i = .int .i64 s ∧ Hid (Below wo.heap.size wo w2) ∧ Hid (w2.ownsRow wo.heap.size 3 1 (.slice (some ⟨wo.heap.size, 0, none⟩) row.length row.length) row.length ((part (tm p l k) s row.length).map (Value.int .i64)))) (fun i _ => row.length - (intOf i).toNat)
      case atStart => exact ⟨0, Nat.zero_le _, rfl, HB1, HO1⟩
      case round =>
        obtain ⟨s, hs, rfl, hb2, ho2⟩ := hrel
        by_cases hlt2 : s < row.length
        · by_cases hk0 : 0 < k
          · have hk1 : 1 ≤ k := by omega
            have hkB : decide (0 < (k : Int)) = true := by simp; omega
            have hlk : k - 1 < ((timesL p l).take k).length := by simp [timesL]; omega
            have hrk : ri ((timesL p l).take k) (k - 1) = rowL p l (k - 1) := by
              rw [ri_lt hlk, List.getElem_take, ← ri_lt, timesL_ri (by omega)]
            have hlr : (rowL p l (k - 1)).length = row.length := by
              rw [rowL_length]
              have hj0 := rightB_job HL.out (show k - 1 < l.length by omega)
              have a1 := HG.out.st _ hj0.2.2
              have a2 := HG.out.st _ hj.2.2
              have a3 : (jobRow p l k).length = row.length := by rw [show jobRow p l k = row from HJ.out]
              have a4 : (jobRow p l k).length = (ri p (gi l k).toNat).length := rfl
              have a5 := HX.out
              rw [a5, Int.toNat_natCast] at a4
              unfold jobRow; omega
            obtain ⟨gt, capt, gr, capr, et, tc1, tc2, tcell, tc3, rcell⟩ := hown.out.look hlk (by rw [hrk, hlr]; omega)
            have hlt0 : ((timesL p l).take k).length = k := by simp [timesL]; omega
            rw [hrk] at tcell tc3 rcell
            rw [hlr] at tcell tc3 rcell
            rw [hlt0] at et tc1
            have tcell := cell_keep hb2.out tcell
            have rc := cell_keep hb2.out (rcell s hlt2)
            have HPS : Hid (gi (rowL p l (k - 1)) s = prevT p l k s) := by
              rw [rowL_gi (by rw [← rowL_length, hlr]; exact hlt2)]
              show _ = _
              cases k with
              | zero => omega
              | succ k => rfl
            have hpv := HBN.out s hlt2
            rw [← HPS.out] at hpv
            generalize gi (rowL p l (k - 1)) s = z at *
            clear rcell hlt0 hlr hrk hlk
            rw [et]
            clear et
            have hc := cell_keep hb2.out hc
            have hc2 := cell_keep hb2.out hc2
            obtain ⟨b3, off3, ha3, hc3⟩ := HR.out s hlt2
            have hc3 := cell_keep hb2.out (cell_keep hbel hc3)
            rw [ha3] at hc2
            clear ha3
            have hcs := part_cell ho2.out hlt2
            have hfz := ho2.out.frozenAt s
            have hb := HN.out s hlt2
            have ht := HTB.out s hlt2
            have htf := HTF.out s
            have HTFs := Lib.hid htf
            rw [htf] at ht
            clear htf
            generalize gi row s = y at *
            rw [if_neg (by omega)] at hcs
            by_cases hs0 : 0 < s
            · have hsB : decide (0 < (s : Int)) = true := by simp; omega
              have hcp := part_cell ho2.out (show s - 1 < row.length by omega)
              rw [if_pos (by omega)] at hcp
              have htp := HTB.out (s - 1) (by omega)
              have hs1 : 1 ≤ s := by omega
              go_wp2_with fail
              go_roundw
              case rel => exact ⟨s + 1, by omega, by go_num, hb2.out.setCell (Nat.le_refl _) _, part_store ho2.out (by rw [HTFs.out, fromV_pos _ _ _ hs0, ← HPS.out, gmax])⟩
              case measure => simp [intOf]; omega
            · have hsB : decide (0 < (s : Int)) = false := by simp; omega
              go_wp2_with fail
              go_roundw
              case rel => exact ⟨s + 1, by omega, by go_num, hb2.out.setCell (Nat.le_refl _) _, part_store ho2.out (by rw [HTFs.out, fromV_zero _ _ _ (by omega), ← HPS.out])⟩
              case measure => simp [intOf]; omega
          · have HPV : Hid (∀ s, prevT p l k s = 0) := fun s => by rw [show k = 0 by omega]; rfl
            have hkB : decide (0 < (k : Int)) = false := by simp; omega
            have hc := cell_keep hb2.out hc
            have hc2 := cell_keep hb2.out hc2
            obtain ⟨b3, off3, ha3, hc3⟩ := HR.out s hlt2
            have hc3 := cell_keep hb2.out (cell_keep hbel hc3)
            rw [ha3] at hc2
            clear ha3
            have hcs := part_cell ho2.out hlt2
            have hfz := ho2.out.frozenAt s
            have hb := HN.out s hlt2
            have ht := HTB.out s hlt2
            have htf := HTF.out s
            have HTFs := Lib.hid htf
            rw [htf] at ht
            clear htf
            generalize gi row s = y at *
            rw [if_neg (by omega)] at hcs
            by_cases hs0 : 0 < s
            · have hsB : decide (0 < (s : Int)) = true := by simp; omega
              have hcp := part_cell ho2.out (show s - 1 < row.length by omega)
              rw [if_pos (by omega)] at hcp
              have htp := HTB.out (s - 1) (by omega)
              have hs1 : 1 ≤ s := by omega
              go_wp2_with fail
              go_roundw
              case rel => exact ⟨s + 1, by omega, by go_num, hb2.out.setCell (Nat.le_refl _) _, part_store ho2.out (by rw [HTFs.out, fromV_pos _ _ _ hs0, HPV.out, gmax])⟩
              case measure => simp [intOf]; omega
            · have hsB : decide (0 < (s : Int)) = false := by simp; omega
              go_wp2_with fail
              go_roundw
              case rel => exact ⟨s + 1, by omega, by go_num, hb2.out.setCell (Nat.le_refl _) _, part_store ho2.out (by rw [HTFs.out, fromV_zero _ _ _ (by omega), HPV.out, Int.zero_add])⟩
              case measure => simp [intOf]; omega
        · have hsl : s = row.length := by omega
          have ho3 := ho2.out
          rw [hsl, part_full] at ho3
          have HRL : rowL p l k = (List.range row.length).map (tm p l k) := by rw [rowL, show jobRow p l k = row from HJ.out]
          have hlr : (rowL p l k).length = row.length := by rw [HRL]; simp
          have HOI : OwnI wr w.heap.size (.slice (some ⟨wo.heap.size, 0, none⟩) row.length row.length) (rowL p l k) := by
            unfold OwnI
            rw [hlr, HRL]
            exact owns_mono ho3 hbel.size
          have HOI := Lib.hid HOI
          clear ho3 HRL hlr hsl
          obtain ⟨tvs, ht1, ht2⟩ := hown.out.below hb2.out
          have HT1 := Lib.hid ht1
          have HT2 := Lib.hid ht2
          clear ht2
          rename_i HOI' _ _
          have hsz := hb2.out.size
          have hsz2 := hbel.size
          have hln : ((timesL p l).take k).length ≤ 32 := by simp [timesL]; omega
          go_wp2_with (at_builtin; refine wpList_append_own _ rfl _ _ 22 rfl w.heap.size 23 iS (.slice none 0 0) 1 24 Try.underlying22 HIS.out HZ0S.out HZ1S.out HZ2S.out rfl (by decide) _ _ _ rfl (ht1.alloc _) ⟨wr.heap.size, 0, none⟩ 1 1 [.slice (some ⟨wo.heap.size, 0, none⟩) row.length row.length] rfl rfl ?c1 ?c2 ?c3 ?c4 ?c5 ?_)
          case c1 => exact one_new _ _ _
          case c2 => exact one_ok _ rfl
          case c3 => unfold maxLen; omega
          case c4 => omega
          case c5 => simp; omega
          intro v' w3 hown' hgrow _
          rw [← List.length_take] at hown'
          have HP := OwnT.push (w1 := wr.alloc (.cells #[.slice (some ⟨wo.heap.size, 0, none⟩) row.length row.length] 23)) ht1 HT2.out HOI.out ((Below.refl _ _).alloc (Nat.le_refl _) _) hgrow hown'
          rw [← timesL_take_succ hlt] at HP
          have HP := Lib.hid HP
          have hbl : Below w.heap.size w w3 := by
            refine (hbel.trans ((hb2.out.mono hsz2).alloc (by omega) _)).grown hgrow (by simp; omega) ?_
            intro k hk
            exact (ht1.lt k hk).1
          clear hown' hgrow ht1
          go_wp2_with fail
          go_roundw
          case rel => exact ⟨k + 1, by omega, by go_num, hbl, HP.out⟩
          case measure => simp [intOf]; omega
    · have hkl : k = l.length := by omega
      have hfin := hown.out.ss
      rw [hkl, List.take_of_length_le (by simp [timesL])] at hfin
      have HF := Lib.hid hfin
      clear hfin hkl
      go_wp2_with fail
      go_ret
      exact ⟨_, rfl, HF.out, hbel⟩
end Go.Proofs.Ytijapbfkpmphpaa
