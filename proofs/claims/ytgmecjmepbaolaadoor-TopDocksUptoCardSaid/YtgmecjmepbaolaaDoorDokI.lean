/- Contracts: find, floors, stay, Check of bay's reference. -/
import Derived.Test.YtgmecjmepbaolaaDoorDokH
set_option linter.unusedSimpArgs false
set_option linter.unusedVariables false
namespace Go.Proofs.YtgmecjmepbaolaaDoor
open Go.RowKit

theorem rfind_any (v : Value) (l : List DBay) (name : List UInt8) (w : World) (h : SD w v l) : Calls Tryd.prog 47 #[v, .string (bs name)] w (Ret w (.int .i64 (findG (fun b => b.name == name) l))) := by
  obtain ⟨a, cap, rfl, h1, h2, h3⟩ := h
  have H3 := Lib.hid h3; clear h3
  have hm : l.length ≤ 9223372036854775807 := by unfold maxLen at h2; omega
  go_enter Tryd.func47, Tryd.ntmps47
  go_wp2_with fail
  go_loopw [5] (fun i wr => ∃ k : Nat, k ≤ l.length ∧ i = .int .i64 k ∧ Hid (Below w.heap.size w wr) ∧ Hid (∀ j, j < k → ((fun b : DBay => b.name == name) (byi l j)) = false)) (fun i _ => l.length - (intOf i).toNat)
  case atStart => exact ⟨0, Nat.zero_le _, rfl, Lib.hid (Below.refl _ _), Lib.hid fun j hj => by omega⟩
  case round =>
    obtain ⟨k, hk, rfl, hb, hj⟩ := hrel
    by_cases hlt : k < l.length
    · obtain ⟨b, off, rfl, hc⟩ := H3.out k hlt
      obtain ⟨c0, c1, c2⟩ := hc.keep hb.out
      have HE := Lib.hid (bs_eq (byi l k).name name)
      clear hc c1 c2
      obtain ⟨ex, hex⟩ : ∃ ex, ((bs (byi l k).name).toList == (bs name).toList) = ex := ⟨_, rfl⟩
      have HX := Lib.hid hex
      cases ex
      · have HJ := Lib.hid (upto (q := fun j => ((fun b : DBay => b.name == name) (byi l j)) = false) hj.out (HE.out.symm.trans hex))
        go_wp2_with fail
        go_roundw
        case rel => exact ⟨k + 1, by omega, by go_num, hb, HJ⟩
        case measure => simp [intOf]; omega
      · have HV := Lib.hid (findG_hit (fun b : DBay => b.name == name) l k hlt hj.out (HE.out.symm.trans hex))
        go_wp2_with fail
        go_ret
        exact ⟨ret_int HV.out.symm, hb.out⟩
    · have HV := Lib.hid (findG_miss (fun b : DBay => b.name == name) l (fun j h => hj.out j (by omega)))
      go_wp2_with fail
      go_ret
      exact ⟨ret_int HV.out.symm, hb.out⟩
theorem baysE_at {bays : List DBay} {k : Nat} (hk : firstE (bayE bays) k = 0) (hl : k < bays.length) (hb : bayE bays k ≠ 0) : baysE bays = bayE bays k := by
  unfold baysE
  rw [firstE_stop (k := k + 1) (by rw [firstE_zero hk]; exact hb) (by omega), firstE_zero hk]
set_option maxRecDepth 100000 in
set_option maxHeartbeats 1000000 in
theorem floors_any (bv : Value) (bays : List DBay) (w : World) (hb : SD w bv bays) (hsd : StrD bays maxLen) : Calls Tryd.prog 30 #[bv] w (Ret w (.int .i64 (baysE bays))) := by
  have HB := Lib.hid hb; have HSD := Lib.hid hsd
  obtain ⟨ba, bc, rfl, b1, b2, b3⟩ := hb
  have H3 := Lib.hid b3
  clear hsd b3
  unfold maxLen at b2
  go_enter Tryd.func30, Tryd.ntmps30
  go_wp2_with fail
  go_loopw [3] (fun i wr => ∃ k : Nat, k ≤ bays.length ∧ i = .int .i64 k ∧ Hid (Below w.heap.size w wr) ∧ Hid (firstE (bayE bays) k = 0)) (fun i _ => bays.length - (intOf i).toNat)
  case atStart => exact ⟨0, Nat.zero_le _, rfl, Lib.hid (Below.refl _ _), Lib.hid rfl⟩
  case round =>
    obtain ⟨k, hk, rfl, hbl, hf⟩ := hrel
    by_cases hlt : k < bays.length
    · obtain ⟨b, off, rfl, hc⟩ := H3.out k hlt
      obtain ⟨c0, c1, c2⟩ := hc.keep hbl.out
      obtain ⟨W1, hW1⟩ : ∃ W1, W1 = wr.alloc (.cells (dyA (byi bays k)) 53) := ⟨_, rfl⟩
      have HO1 : Hid (ObjAt W1 wr.heap.size (dyA (byi bays k)) 53) := by rw [hW1]; exact ObjAt.new _ _ _
      have HB1 : Hid (Below w.heap.size w W1) := by rw [hW1]; exact hbl.out.alloc hbl.out.size _
      have HW : Hid (wr.alloc (.cells #[.string (bs (byi bays k).name), .int .i64 (byi bays k).len, .int .i64 (byi bays k).wid] 53) = W1) := by rw [hW1]; rfl
      clear hW1 hc
      go_wp2_with fail
      rw [HW.out]
      clear c0 c1 c2 HW
      refine (rIsName_any _ _ (by rw [bs_size]; exact HSD.out.h _ (byi_mem hlt))).mono ?_
      rintro e W2 ⟨rfl, m2, rfl⟩
      rw [bs_list]
      have HO2 := Lib.hid (HO1.out.drewN m2)
      have HB2 := Lib.hid (below_drewN' HB1.out m2)
      obtain ⟨W2, hW2⟩ : ∃ W2, W1.drewN m2 = W2 := ⟨_, rfl⟩
      rw [hW2] at HO2 HB2
      rw [hW2]
      clear hW2
      cases hnm : nameB (byi bays k).name
      · have HE : Hid (bayE bays k = 6) := by show _ = _; unfold bayE; rw [if_pos hnm]
        have HV := Lib.hid (baysE_at hf.out hlt (by rw [HE.out]; decide))
        clear hnm
        go_wp2_with fail
        go_ret
        exact ⟨ret_int (by rw [HV.out, HE.out]), HB2.out⟩
      have HNM := Lib.hid hnm; clear hnm
      go_upto_region 7 with fail
      refine wp_region_et dkT dkT_ok [bayO wr.heap.size 0 (byi bays k)] (fun w' => w' = W2) [(4, 0)] [(21, .ret (.bool (decide (1 ≤ (byi bays k).len) && decide ((byi bays k).len ≤ 524288)))), (26, .ret (.bool (decide (1 ≤ (byi bays k).wid) && decide ((byi bays k).wid ≤ 524288))))] [(28, .bool (!(sideB (byi bays k).len && sideB (byi bays k).wid)))] (by kernel_rfl) rfl (obs1 fun w' hw' => by subst hw'; exact range_new HO2.out) ⟨rfl, trivial⟩ ?_
      conv => whnf
      refine And.intro (under_of fun w' hw' => by subst hw'; exact in41_any _ _ _ _) ?_
      conv => whnf
      refine And.intro (under_of fun w' hw' => by subst hw'; exact in41_any _ _ _ _) ?_
      conv => whnf
      intro f
      conv => whnf
      refine And.intro ?_ ?_
      · congr 1
        unfold sideB
        cases (decide (1 ≤ (byi bays k).len) && decide ((byi bays k).len ≤ 524288)) <;> cases (decide (1 ≤ (byi bays k).wid) && decide ((byi bays k).wid ≤ 524288)) <;> rfl
      conv => whnf
      intro w' hw'
      subst hw'
      cases hsd : (sideB (byi bays k).len && sideB (byi bays k).wid)
      · have HE : Hid (bayE bays k = 9) := by show _ = _; unfold bayE; rw [if_neg (by rw [HNM.out]; decide), if_pos hsd]
        have HV := Lib.hid (baysE_at hf.out hlt (by rw [HE.out]; decide))
        clear hsd
        go_wp2_with fail
        go_ret
        exact ⟨ret_int (by rw [HV.out, HE.out]), HB2.out⟩
      have HSI := Lib.hid hsd; clear hsd
      go_upto_region 9 with fail
      have HT := Lib.hid ((HB.out.keep HB2.out).take k (by omega))
      refine wp_region_ev dkT dkT_ok [bayO wr.heap.size 0 (byi bays k)] (Below w'.heap.size w') [(4, 0)] [(31, .nat k), (34, .ret (.int .i64 (findG (fun b => b.name == (byi bays k).name) (bays.take k))))] [(35, .bool ((bays.take k).any (fun c => c.name == (byi bays k).name)))] (by kernel_rfl) mixed (by kernel_rfl) ((Below.refl _ _).drew) (obs1 fun v hv => rangeKeep (range_new HO2.out) hv) ⟨rfl, trivial⟩ ?_
      conv => whnf
      refine And.intro (under_of ⟨rfl, by omega⟩) ?_
      conv => whnf
      refine And.intro (under_of fun v hv => (rfind_any _ _ _ v (HT.out.keep hv)).mono fun e v' he => ⟨he.1, ext_trans hv he.2⟩) ?_
      conv => whnf
      intro f1
      conv => whnf
      refine And.intro (congrArg Value.bool (findG_any _ _)) ?_
      conv => whnf
      intro w3 h3
      have HB3 := Lib.hid (ext_trans HB2.out h3)
      clear h3
      obtain ⟨ex, hex⟩ : ∃ ex, (bays.take k).any (fun c => c.name == (byi bays k).name) = ex := ⟨_, rfl⟩
      rw [hex]
      have HE : Hid (bayE bays k = if ex then 7 else 0) := by
        show _ = _; unfold bayE; rw [if_neg (by rw [HNM.out]; decide), if_neg (by rw [HSI.out]; decide), hex]
      clear hex
      cases ex
      · have HF := Lib.hid ((firstE_zero hf.out).trans HE.out)
        go_wp2_with fail
        go_roundw
        case rel => exact ⟨k + 1, by omega, by go_num, HB3, HF⟩
        case measure => simp [intOf]; omega
      · have HV := Lib.hid (baysE_at hf.out hlt (by rw [HE.out]; decide))
        go_wp2_with fail
        go_ret
        exact ⟨ret_int (by rw [HV.out, HE.out]; rfl), HB3.out⟩
    · obtain rfl : k = bays.length := by omega
      go_wp2_with fail
      go_ret
      exact ⟨ret_int hf.out.symm, hbl.out⟩
end Go.Proofs.YtgmecjmepbaolaaDoor
