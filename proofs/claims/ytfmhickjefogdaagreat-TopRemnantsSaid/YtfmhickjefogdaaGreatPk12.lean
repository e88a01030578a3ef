/- region's Within at margin 0 (printed by wip/gen_rgg.py). -/
import Derived.Test.YtfmhickjefogdaaGreatPk11
set_option linter.unusedSimpArgs false
set_option linter.unusedVariables false

/- region's within, apart, contours, place, Check, Area2 (printed by wip/gen_rgb.py). -/
namespace Go.Proofs.YtfmhickjefogdaaGreat
open Go.RowKit

set_option maxRecDepth 100000 in
set_option maxHeartbeats 400000 in
theorem gcontours_any (ov hv : Value) (outer : List Pnt) (holes : List (List Pnt)) (hvs : List Value) (w : World) (h : ShpOK w ov hv outer holes hvs) (hl : hvs.length ≤ 1000) : Calls Tryz.prog 29 #[.agg #[ov, hv]] w (RetC w ov hvs) := by
  have H1 := Lib.hid h.one
  have HS := Lib.hid h.hs
  have HLN := Lib.hid hl
  obtain ⟨oa, oc, rfl, o1, o2, _⟩ := h.o
  obtain ⟨ha, hc, rfl, s1, s2, _⟩ := h.hs
  clear h o1 o2 s1 s2 hl
  obtain ⟨W1, HS1, HB1, HW1⟩ := boxS w oa outer.length oc ha hvs.length hc
  obtain ⟨W2, hW2⟩ : ∃ W2, W1.alloc (.cells #[.slice oa outer.length oc] 44) = W2 := ⟨_, rfl⟩
  have HB2 : Hid (Below w.heap.size w W2) := by show Below ..; rw [← hW2]; exact HB1.out.alloc HB1.out.size _
  have HO2 : Hid (W2.ownsRow w.heap.size 44 1 (.slice (some ⟨W1.heap.size, 0, none⟩) 1 1) [(.slice oa outer.length oc : Value)].length [.slice oa outer.length oc]) := by
    show World.ownsRow ..
    rw [← hW2]
    exact World.ownsRow_lit W1 #[.slice oa outer.length oc] 1 HB1.out.size (by unfold maxLen; omega) rfl
  have HS2 := Lib.hid (Sl.keep HS.out HB2.out)
  have HS1' : Hid (ObjAt W2 w.heap.size #[.slice oa outer.length oc, .slice ha hvs.length hc] 47) := by show ObjAt ..; rw [← hW2]; exact HS1.out.alloc _
  have HW2 := Lib.hid hW2
  clear hW2
  go_enter Tryz.func29, Tryz.ntmps29
  go_upto_region 1 with fail
  rw [HW1.out]
  have c0 := HS1.out.cell 0
  have c1 := HS1'.out.cell 1
  dsimp at c0 c1
  rw [← HW2.out] at c1
  go_wp2_with (at_builtin; rw [HW2.out]; refine wpList_app_pp rfl (.tmp 5) (.tmp 7) rfl w.heap.size _ _ [.slice oa outer.length oc] hvs rfl rfl HO2.out HS2.out H1.out (by have := HLN.out; simp; omega) HB2.out.size ?_)
  intro va wa hoa hga
  have HOA := Lib.hid (Sl_of_owns hoa)
  have HBA := Lib.hid (HB2.out.grown hga HB2.out.size (fun q hq => by
    have e : W1.heap.size = q := Option.some.inj hq
    have := HB1.out.size
    omega))
  clear hoa hga c0 c1
  go_wp2_with fail
  go_ret
  exact ⟨_, rfl, HOA.out, HBA.out⟩
theorem boxOne (w : World) (a : Option Addr) (n c : Nat) : ∃ W1, Hid (ObjAt W1 w.heap.size #[.slice a n c] 44) ∧ Hid (Below w.heap.size w W1) ∧ Hid (w.alloc (.cells #[.slice a n c] 44) = W1) := newObj _ _ _
set_option maxRecDepth 100000 in
theorem within1_any (b : Nat) (a : Option Addr) (n c : Nat) (o : List Pnt) (q : Pnt) (w : World) (hc : w.cell? ⟨b, 0, none⟩ = some (.slice a n c)) (hs : SPt w (.slice a n c) o) (hp : Pol o) (hq : Nr q) : Calls Tryz.prog 87 #[ptV q, .pointer (some ⟨b, 0, none⟩)] w (Ret w (.bool (!decide (whereL o q = 1)))) := by
  have HC := Lib.hid hc
  have HS := Lib.hid hs
  have HP := Lib.hid hp
  have HQ := Lib.hid hq
  clear hc hs hp hq
  obtain ⟨W1, HO1, HB1, HW1, _⟩ := copyPt w q
  unfold ptV
  go_enter Tryz.func87, Tryz.ntmps87
  go_upto_region 1 with fail
  rw [HW1.out]
  have c1 := cell_keep HB1.out HC.out
  have q0 := HO1.out.cell 0
  have q1 := HO1.out.cell 1
  simp only [ptA] at q0 q1
  dsimp at q0 q1
  go_wp2_with fail
  refine (pWhere_any _ o q W1 (HS.out.keep HB1.out) HP.out HQ.out).mono ?_
  rintro e w2 ⟨rfl, hb2⟩
  have HB2 := Lib.hid (ext_trans HB1.out hb2)
  clear hb2 c1 q0 q1
  go_wp2_with fail
  go_ret
  exact ⟨ret_bool (by first | rfl | simp), HB2.out⟩
set_option maxRecDepth 100000 in
/-- a hole lies within the outer contour -/
theorem gWithin_any (v u : Value) (h o : List Pnt) (w : World) (hv : SPt w v h) (hu : SPt w u o) (ph : Pol h) (po : Pol o) (hx : crossB h o = false) (hw : ∀ i, i < h.length → whereL o (pti h i) = 1) : Calls Tryz.prog 54 #[v, u] w (Ret w (.bool true)) := by
  have HV := Lib.hid hv
  have HU := Lib.hid hu
  have PH := Lib.hid ph
  have PO := Lib.hid po
  have HX := Lib.hid hx
  have HW := Lib.hid hw
  obtain ⟨qa, qc, rfl, _⟩ := hu
  obtain ⟨pa, pc, rfl, _⟩ := hv
  clear ph po hx hw
  obtain ⟨W1, HO1, HB1, HW1⟩ := boxOne w qa o.length qc
  go_enter Tryz.func54, Tryz.ntmps54
  go_upto_region 1 with fail
  rw [HW1.out]
  have c0 := HO1.out.cell 0
  dsimp at c0
  go_wp2_with fail
  refine (gEdges_touch _ _ h o W1 (HV.out.keep HB1.out) (HU.out.keep HB1.out) (fun i hi => PH.out.c.nr hi) (fun i hi => PO.out.c.nr hi) (Nat.le_trans PH.out.c.n (by decide)) (Nat.le_trans PO.out.c.n (by decide))).mono ?_
  rintro e w2 ⟨rfl, hb2⟩
  have HB2 := Lib.hid (ext_trans HB1.out hb2)
  have HO2 := Lib.hid (HO1.out.keep hb2)
  clear hb2 c0
  rw [HX.out]
  go_wp2_with fail
  refine (contains_Pt (.func (.func 87) #[] #[.pointer (some ⟨w.heap.size, 0, none⟩)]) _ (fun q => ∃ i, i < h.length ∧ q = pti h i) (fun q => !decide (whereL o q = 1)) h w2 (HV.out.keep HB2.out) (fun x hx => by obtain ⟨j, hj, e⟩ := mem_pti hx; exact ⟨j, hj, e.symm⟩)
    ⟨_, _, rfl, fun args w => enters_of Tryz.func87 (by kernel_rfl) rfl args w, fun x u ⟨i, hi, e⟩ hb => within1_any w.heap.size qa o.length qc o x u (cell_keep hb (HO2.out.cell 0)) (HU.out.keep (ext_trans HB2.out hb)) PO.out (by rw [e]; exact PH.out.c.nr hi)⟩).mono ?_
  rintro e w3 ⟨rfl, hb3⟩
  have HB3 := Lib.hid (ext_trans HB2.out hb3)
  clear hb3
  have HA : Hid ((h.any fun q => !decide (whereL o q = 1)) = false) := by
    show _ = _
    rw [List.any_eq_false]
    intro x hx
    obtain ⟨j, hj, e⟩ := mem_pti hx
    rw [← e, HW.out j hj]; decide
  rw [HA.out]
  go_wp2_with fail
  go_ret
  exact ⟨rfl, HB3.out⟩
set_option maxRecDepth 100000 in
/-- two holes are apart -/
theorem gApart_any (v u : Value) (h o : List Pnt) (w : World) (hv : SPt w v h) (hu : SPt w u o) (ph : Pol h) (po : Pol o) (hx : crossB h o = false) (hw : whereL h (pti o 0) = -1) (hw' : whereL o (pti h 0) = -1) : Calls Tryz.prog 55 #[v, u] w (Ret w (.bool true)) := by
  have HV := Lib.hid hv
  have HU := Lib.hid hu
  have PH := Lib.hid ph
  have PO := Lib.hid po
  have HX := Lib.hid hx
  have HW := Lib.hid hw
  have HW' := Lib.hid hw'
  have l1 : (0 : Int) < h.length := by have := ph.c.len0; omega
  have l2 : (0 : Int) < o.length := by have := po.c.len0; omega
  obtain ⟨qa, qc, rfl, _, _, q3⟩ := hu
  obtain ⟨pa, pc, rfl, _, _, p3⟩ := hv
  obtain ⟨qb, qo, rfl, hq⟩ := q3 0 po.c.len0
  obtain ⟨pb, po', rfl, hp⟩ := p3 0 ph.c.len0
  have HQ := Lib.hid hq
  have HP := Lib.hid hp
  clear ph po hx hw hw' hq hp q3 p3
  go_enter Tryz.func55, Tryz.ntmps55
  go_wp2_with fail
  refine (gEdges_touch _ _ h o w HV.out HU.out (fun i hi => PH.out.c.nr hi) (fun i hi => PO.out.c.nr hi) (Nat.le_trans PH.out.c.n (by decide)) (Nat.le_trans PO.out.c.n (by decide))).mono ?_
  rintro e w2 ⟨rfl, hb2⟩
  have HB2 := Lib.hid hb2
  clear hb2
  rw [HX.out]
  have a0 := (HQ.out.keep HB2.out).c0
  have a1 := (HQ.out.keep HB2.out).c1
  simp only [Nat.zero_mul, Nat.add_zero] at a0 a1
  go_wp2_with fail
  refine (pWhere_any _ h (pti o 0) w2 (HV.out.keep HB2.out) PH.out (PO.out.c.nr PO.out.c.len0)).mono ?_
  rintro e w3 ⟨rfl, hb3⟩
  have HB3 := Lib.hid (ext_trans HB2.out hb3)
  clear hb3 a0 a1
  rw [HW.out]
  have a0 := (HP.out.keep HB3.out).c0
  have a1 := (HP.out.keep HB3.out).c1
  simp only [Nat.zero_mul, Nat.add_zero] at a0 a1
  go_wp2_with fail
  refine (pWhere_any _ o (pti h 0) w3 (HU.out.keep HB3.out) PO.out (PH.out.c.nr PH.out.c.len0)).mono ?_
  rintro e w4 ⟨rfl, hb4⟩
  have HB4 := Lib.hid (ext_trans HB3.out hb4)
  clear hb4 a0 a1
  rw [HW'.out]
  go_wp2_with fail
  go_ret
  exact ⟨rfl, HB4.out⟩
end Go.Proofs.YtfmhickjefogdaaGreat

/- region's place, Check, Area2 at shapes that are right. -/
namespace Go.Proofs.YtfmhickjefogdaaGreat
open Go.RowKit

set_option maxRecDepth 100000 in
set_option maxHeartbeats 1000000 in
/-- a point outside of a shape -/
theorem gPlace_neg (ov hv : Value) (o : List Pnt) (hl : List (List Pnt)) (hvs : List Value) (q : Pnt) (w : World) (h : ShpOK w ov hv o hl hvs) (hr : Rgn o hl) (hq : Nr q) (h0 : ∀ c ∈ o :: hl, whereL c q ≠ 0) (hn : whereL o q = -1 ∨ ∃ h ∈ hl, whereL h q = 1) : Calls Tryz.prog 25 #[.agg #[ov, hv], ptV q] w (Ret w (.int .i64 (-1))) := by
  have HP := Lib.hid h
  have HNL := Lib.hid h.n
  have HR := Lib.hid hr
  have HQ := Lib.hid hq
  have HN0 := Lib.hid h0
  have HNG := Lib.hid hn
  have h8 : hvs.length ≤ 8 := by rw [h.n]; exact hr.n
  obtain ⟨oa, oc, rfl, _⟩ := h.o
  obtain ⟨ha, hc, rfl, _, _, s3⟩ := h.hs
  have S3 := Lib.hid s3
  clear h s3 hr hq h0 hn
  obtain ⟨W1, HS1, HQ1, HB1, HW1⟩ := boxSP w oa o.length oc ha hvs.length hc q
  unfold ptV
  go_enter Tryz.func25, Tryz.ntmps25
  go_upto_region 1 with fail
  rw [HW1.out]
  have c0 := HS1.out.cell 0
  have q0 := HQ1.out.cell 0
  have q1 := HQ1.out.cell 1
  simp only [ptA] at q0 q1
  dsimp at c0 q0 q1
  go_wp2_with fail
  refine (pWhere_any _ o q W1 (HP.out.o.keep HB1.out) HR.out.pol HQ.out).mono ?_
  rintro e w2 ⟨rfl, hb2⟩
  have HB2 := Lib.hid (ext_trans HB1.out hb2)
  have HS2 := Lib.hid (HS1.out.keep hb2)
  have HQ2 := Lib.hid (HQ1.out.keep hb2)
  clear hb2 c0 q0 q1
  obtain ⟨n, hn⟩ : ∃ n, whereL o q = n := ⟨_, rfl⟩
  have HN := Lib.hid hn
  rw [hn]
  have nz : n ≠ 0 := by rw [← hn]; exact HN0.out o (by simp)
  have ns := whereL_small o q
  rw [hn] at ns
  clear hn
  by_cases hn1 : n = -1
  · subst hn1
    clear nz ns
    go_wp2_with fail
    go_ret
    exact ⟨rfl, HB2.out⟩
  have hn2 : n = 1 := by omega
  subst hn2
  have HHL : Hid (∃ h ∈ hl, whereL h q = 1) := by
    rcases HNG.out with e | e
    · rw [HN.out] at e; omega
    · exact e
  have c1 := HS2.out.cell 1
  dsimp at c1
  clear nz ns hn1
  go_wp2_with fail
  go_loopw [19] (fun i wr => ∃ k : Nat, k ≤ hvs.length ∧ i = .int .i64 k ∧ Hid (Below w2.heap.size w2 wr) ∧ Hid (∀ j, j < k → whereL (hl.getD j []) q ≠ 1)) (fun i _ => hvs.length - (intOf i).toNat)
  case atStart => exact ⟨0, Nat.zero_le _, rfl, Below.refl _ _, fun j h => by omega⟩
  case round =>
    obtain ⟨k, hk, rfl, hb, hA⟩ := hrel
    by_cases hlt : k < hvs.length
    · have i1 : (k : Int) < hvs.length := by omega
      have hkl : k < hl.length := by rw [← HNL.out]; exact hlt
      obtain ⟨xb, xo, rfl, hcx⟩ := S3.out k hlt
      have HBW := Lib.hid (ext_trans HB2.out hb.out)
      obtain ⟨pa, pc, ep, k1, k2, k3⟩ := HP.out.h k hkl
      rw [ep] at hcx
      have HX : Hid (SPt wr (.slice pa (hl.getD k []).length pc) (hl.getD k [])) := SPt.keep ⟨pa, pc, rfl, k1, k2, k3⟩ HBW.out
      have cx := cell_keep HBW.out hcx
      have q0 := (HQ2.out.keep hb.out).cell 0
      have q1 := (HQ2.out.keep hb.out).cell 1
      simp only [ptA] at q0 q1
      dsimp at q0 q1
      have HPH := Lib.hid (HR.out.polH hkl)
      have HNZ := Lib.hid (HN0.out (hl.getD k []) (List.mem_cons_of_mem _ (getD_mem hkl)))
      clear hcx ep k1 k2 k3 c1
      obtain ⟨C, hC⟩ : ∃ C, hl.getD k [] = C := ⟨_, rfl⟩
      rw [hC] at HX HPH HNZ cx
      have HC := Lib.hid hC
      clear hC
      go_wp2_with fail
      refine (pWhere_any _ C q wr HX.out HPH.out HQ.out).mono ?_
      rintro e w3 ⟨rfl, hb3⟩
      have HB3 := Lib.hid (ext_trans hb.out hb3)
      have HBE := Lib.hid (ext_trans HB2.out HB3.out)
      clear hb3 cx q0 q1
      obtain ⟨z, hz⟩ : ∃ z, whereL C q = z := ⟨_, rfl⟩
      have HZ := Lib.hid hz
      rw [hz]
      have nz : z ≠ 0 := by rw [← hz]; exact HNZ.out
      have ns := whereL_small C q
      rw [hz] at ns
      clear hz
      by_cases hz1 : z = 1
      · subst hz1
        have e1 : IntKind.i64.wrap (-1) = -1 := by decide
        clear nz ns
        go_wp2_with fail
        go_ret
        exact ⟨ret_int (by first | rfl | decide), HBE.out⟩
      · have hz2 : z = -1 := by omega
        subst hz2
        have HA2 : Hid (∀ j, j < k + 1 → whereL (hl.getD j []) q ≠ 1) := fun j hj => by
          by_cases e : j = k
          · subst e; rw [HC.out, HZ.out]; decide
          · exact hA.out j (by omega)
        clear nz ns hz1
        go_wp2_with fail
        go_roundw
        case rel => exact ⟨k + 1, by omega, by go_num, HB3, HA2⟩
        case measure => simp [intOf]; omega
    · exfalso
      obtain ⟨h, hh, e⟩ := HHL.out
      obtain ⟨j, hj, rfl⟩ := List.mem_iff_getElem.1 hh
      exact hA.out j (by have := HNL.out; omega) (by simpa [hj] using e)
set_option maxRecDepth 100000 in
set_option maxHeartbeats 2000000 in
theorem gCheck_any (ov hv : Value) (o : List Pnt) (hl : List (List Pnt)) (hvs : List Value) (w : World) (h : ShpOK w ov hv o hl hvs) (hr : Rgn o hl) : Calls Tryz.prog 24 #[.agg #[ov, hv]] w (Ret w (.int .i64 0)) := by
  have HP := Lib.hid h
  have HNL := Lib.hid h.n
  have HR := Lib.hid hr
  have h8 : hvs.length ≤ 8 := by rw [h.n]; exact hr.n
  have h8' : ¬ (8 : Int) < hvs.length := by omega
  obtain ⟨oa, oc, rfl, _⟩ := h.o
  obtain ⟨ha, hc, rfl, hcap, _, s3⟩ := h.hs
  have S3 := Lib.hid s3
  clear h s3 hr
  obtain ⟨W1, HS1, HB1, HW1⟩ := boxS w oa o.length oc ha hvs.length hc
  go_enter Tryz.func24, Tryz.ntmps24
  go_upto_region 1 with fail
  rw [HW1.out]
  have c0 := HS1.out.cell 0
  have c1 := HS1.out.cell 1
  dsimp at c0 c1
  go_wp2_with fail
  refine (pCheck_any _ o W1 (HP.out.o.keep HB1.out) HR.out.pol).mono ?_
  rintro e w2 ⟨rfl, hb2⟩
  have HB2 := Lib.hid (ext_trans HB1.out hb2)
  have HS2 := Lib.hid (HS1.out.keep hb2)
  clear hb2 c0 c1
  have c0 := HS2.out.cell 0
  dsimp at c0
  go_wp2_with fail
  refine (pArea2_any _ o w2 (HP.out.o.keep HB2.out) HR.out.pol).mono ?_
  rintro e w3 ⟨rfl, hb3⟩
  have HB3 := Lib.hid (ext_trans HB2.out hb3)
  have HS3 := Lib.hid (HS2.out.keep hb3)
  clear hb3 c0
  have hoa := HR.out.oa
  have HOA := Lib.hid hoa
  obtain ⟨A, hA⟩ : ∃ A, area2L o = A := ⟨_, rfl⟩
  rw [hA] at hoa ⊢
  clear hA
  have hoa' : ¬ A ≤ 0 := by omega
  have c1 := HS3.out.cell 1
  dsimp at c1
  go_wp2_with fail
  clear c1
  go_loopw [26] (fun i wr => ∃ k : Nat, k ≤ hvs.length ∧ i = .int .i64 k ∧ Hid (Below w3.heap.size w3 wr)) (fun i _ => hvs.length - (intOf i).toNat)
  case atStart => exact ⟨0, Nat.zero_le _, rfl, Below.refl _ _⟩
  case round =>
    obtain ⟨k, hk, rfl, hb⟩ := hrel
    by_cases hlt : k < hvs.length
    · have i1 : (k : Int) < hvs.length := by omega
      have hkl : k < hl.length := by rw [← HNL.out]; exact hlt
      obtain ⟨xb, xo, rfl, hcx⟩ := S3.out k hlt
      have HBW := Lib.hid (ext_trans HB3.out hb.out)
      obtain ⟨pa, pc, ep, k1, k2, k3⟩ := HP.out.h k hkl
      rw [ep] at hcx
      have HX : Hid (SPt w (.slice pa (hl.getD k []).length pc) (hl.getD k [])) := ⟨pa, pc, rfl, k1, k2, k3⟩
      have cx := cell_keep HBW.out hcx
      have HPH := Lib.hid (HR.out.polH hkl)
      have HHR := Lib.hid (HR.out.h k hkl)
      have HPR := Lib.hid (fun j (hj : j < k) => HR.out.p k j hj hkl)
      clear hcx ep k1 k2 k3
      obtain ⟨C, hC⟩ : ∃ C, hl.getD k [] = C := ⟨_, rfl⟩
      rw [hC] at HX HPH HHR HPR cx
      clear hC
      go_wp2_with fail
      refine (pCheck_any _ C wr (HX.out.keep HBW.out) HPH.out).mono ?_
      rintro e w4 ⟨rfl, hb4⟩
      have HB4 := Lib.hid (ext_trans HBW.out hb4)
      have HBL4 := Lib.hid (ext_trans hb.out hb4)
      clear hb4 cx
      go_wp2_with fail
      refine (pArea2_any _ C w4 (HX.out.keep HB4.out) HPH.out).mono ?_
      rintro e w5 ⟨rfl, hb5⟩
      have HB5 := Lib.hid (ext_trans HB4.out hb5)
      have HBL5 := Lib.hid (ext_trans HBL4.out hb5)
      clear hb5
      have hca := HHR.out.2.1
      obtain ⟨B, hB⟩ : ∃ B, area2L C = B := ⟨_, rfl⟩
      rw [hB] at hca ⊢
      clear hB
      have hcb : ¬ 0 ≤ B := by omega
      have c0 := (HS3.out.keep HBL5.out).cell 0
      dsimp at c0
      go_wp2_with fail
      refine (gWithin_any _ _ C o w5 (HX.out.keep HB5.out) (HP.out.o.keep HB5.out) HPH.out HR.out.pol (cross_sym HR.out.pol.c HPH.out.c HHR.out.2.2.1) (fun i hi => hole_all HR.out.pol.c HPH.out.c HHR.out.2.2.1 HHR.out.2.2.2 hi)).mono ?_
      rintro e w6 ⟨rfl, hb6⟩
      have HB6 := Lib.hid (ext_trans HB5.out hb6)
      have HBL6 := Lib.hid (ext_trans HBL5.out hb6)
      clear hb6 c0
      have c1 := (HS3.out.keep HBL6.out).cell 1
      dsimp at c1
      have i3 : (k : Int) ≤ hc := by omega
      go_wp2_with fail
      clear c1
      go_loopw [51] (fun i wr2 => ∃ j : Nat, j ≤ k ∧ i = .int .i64 j ∧ Hid (Below w6.heap.size w6 wr2)) (fun i _ => k - (intOf i).toNat)
      case atStart => exact ⟨0, Nat.zero_le _, rfl, Below.refl _ _⟩
      case round =>
        obtain ⟨j, hj, rfl, hb7⟩ := hrel
        by_cases hlt2 : j < k
        · have i2 : (j : Int) < k := by omega
          have hjl : j < hl.length := by omega
          obtain ⟨yb, yo, ey, hcy⟩ := S3.out j (by omega)
          cases ey
          have HBX := Lib.hid (ext_trans HB6.out hb7.out)
          obtain ⟨qa, qc, ep, k1, k2, k3⟩ := HP.out.h j hjl
          rw [ep] at hcy
          have HY : Hid (SPt w (.slice qa (hl.getD j []).length qc) (hl.getD j [])) := ⟨qa, qc, rfl, k1, k2, k3⟩
          have cy := cell_keep HBX.out hcy
          have HPJ := Lib.hid (HR.out.polH hjl)
          have HPP := Lib.hid (HPR.out j hlt2)
          clear hcy ep k1 k2 k3
          obtain ⟨D, hD⟩ : ∃ D, hl.getD j [] = D := ⟨_, rfl⟩
          rw [hD] at HY HPJ HPP cy
          clear hD
          go_wp2_with fail
          refine (gApart_any _ _ C D wr (HX.out.keep HBX.out) (HY.out.keep HBX.out) HPH.out HPJ.out HPP.out.1 HPP.out.2.1 HPP.out.2.2).mono ?_
          rintro e w8 ⟨rfl, hb8⟩
          have HB8 := Lib.hid (ext_trans hb7.out hb8)
          clear hb8 cy
          go_wp2_with fail
          go_roundw
          case rel => exact ⟨j + 1, by omega, by go_num, HB8⟩
          case measure => simp [intOf]; omega
        · have i2 : ¬ (j : Int) < k := by omega
          have HBE := Lib.hid (ext_trans HBL6.out hb7.out)
          go_wp2_with fail
          go_roundw
          case rel => exact ⟨k + 1, by omega, by go_num, HBE⟩
          case measure => simp [intOf]; omega
    · have i1 : ¬ (k : Int) < hvs.length := by omega
      have HBE := Lib.hid (ext_trans HB3.out hb.out)
      go_wp2_with fail
      go_ret
      exact ⟨rfl, HBE.out⟩
end Go.Proofs.YtfmhickjefogdaaGreat

/- region's Area2, root and near at gap 0, Clear at gap 0, Within. -/
namespace Go.Proofs.YtfmhickjefogdaaGreat
open Go.RowKit

theorem sumA_app (a b : List (List Pnt)) : sumA (a ++ b) = sumA a + sumA b := by
  induction a with
  | nil => show sumA b = 0 + sumA b; omega
  | cons c a ih => show area2 c + sumA (a ++ b) = area2 c + sumA a + sumA b; rw [ih]; omega
def asum (l : List (List Pnt)) : Nat → Int
  | 0 => 0
  | k + 1 => asum l k + area2 (l.getD k [])
theorem asum_take (l : List (List Pnt)) : ∀ k, k ≤ l.length → asum l k = sumA (l.take k)
  | 0, _ => rfl
  | k + 1, h => by
    unfold asum
    rw [asum_take l k (by omega), List.take_add_one, sumA_app]
    have h2 : k < l.length := by omega
    simp [h2, sumA]
theorem asum_all (l : List (List Pnt)) : asum l l.length = sumA l := by rw [asum_take l _ (Nat.le_refl _), List.take_length]
theorem area2_small {l : List Pnt} (h : Ctr l) : area2L l = area2 l ∧ -274877906944 ≤ area2 l ∧ area2 l ≤ 274877906944 := by
  have e := area2_eq h
  have k : area2L l = areaTo l l.length := by unfold area2L; rw [if_pos ((pchk_ctr l).2 h)]
  have := area_to h l.length (Nat.le_refl _)
  have hn := h.n
  have : (l.length : Int) ≤ 32 := by omega
  refine ⟨e, ?_, ?_⟩ <;> omega
theorem asum_small {l : List (List Pnt)} (h : ∀ c ∈ l, Ctr c) : ∀ k, k ≤ l.length → -(274877906944 * k) ≤ asum l k ∧ asum l k ≤ 274877906944 * k
  | 0, _ => by unfold asum; omega
  | k + 1, hk => by
    have ih := asum_small h k (by omega)
    have := area2_small (h _ (getD_mem (show k < l.length by omega)))
    unfold asum
    omega
set_option maxRecDepth 100000 in
set_option maxHeartbeats 2000000 in
theorem gArea2_any (ov hv : Value) (o : List Pnt) (hl : List (List Pnt)) (hvs : List Value) (w : World) (h : ShpOK w ov hv o hl hvs) (hr : Rgn o hl) : Calls Tryz.prog 11 #[.agg #[ov, hv]] w (Ret w (.int .i64 (sumA (o :: hl)))) := by
  have HP := Lib.hid h
  have HNL := Lib.hid h.n
  have HR := Lib.hid hr
  have h8 : hvs.length ≤ 8 := by rw [h.n]; exact hr.n
  obtain ⟨oa, oc, rfl, _⟩ := h.o
  obtain ⟨ha, hc, rfl, hcap, _, _⟩ := h.hs
  clear h hr
  obtain ⟨W1, HS1, HB1, HW1⟩ := boxS w oa o.length oc ha hvs.length hc
  go_enter Tryz.func11, Tryz.ntmps11
  go_upto_region 1 with fail
  rw [HW1.out]
  have c0 := HS1.out.cell 0
  have c1 := HS1.out.cell 1
  dsimp at c0 c1
  go_wp2_with fail
  refine (gCheck_any _ _ o hl hvs W1 (HP.out.keep HB1.out) HR.out).mono ?_
  rintro e w2 ⟨rfl, hb2⟩
  have HB2 := Lib.hid (ext_trans HB1.out hb2)
  have HS2 := Lib.hid (HS1.out.keep hb2)
  clear hb2 c0 c1
  have c0 := HS2.out.cell 0
  have c1 := HS2.out.cell 1
  dsimp at c0 c1
  go_wp2_with fail
  refine (gcontours_any _ _ o hl hvs w2 (HP.out.keep HB2.out) (cLim HP.out HR.out)).mono ?_
  rintro e w3 ⟨lv, rfl, hlv, hb3⟩
  obtain ⟨la, lc, rfl, _, _, l3⟩ := hlv
  have L3 := Lib.hid l3
  have HB3 := Lib.hid (ext_trans HB2.out hb3)
  have HCN := Lib.hid (ShpOK.con (HP.out.keep HB3.out))
  clear l3 hb3 c0 c1
  go_wp2_with fail
  go_loopw [3, 12] (fun n i wr => ∃ k : Nat, k ≤ hvs.length + 1 ∧ i = .int .i64 k ∧ n = .int .i64 (asum (o :: hl) k) ∧ Hid (Below w3.heap.size w3 wr)) (fun _ i _ => hvs.length + 1 - (intOf i).toNat)
  case atStart => exact ⟨0, Nat.zero_le _, rfl, rfl, Below.refl _ _⟩
  case round =>
    obtain ⟨k, hk, rfl, rfl, hb⟩ := hrel
    have HBW := Lib.hid (ext_trans HB3.out hb.out)
    by_cases hlt : k < hvs.length + 1
    · have i1 : (k : Int) < hvs.length + 1 := by omega
      have hkl : k < (o :: hl).length := by have := HNL.out; simp; omega
      obtain ⟨lb, lo, rfl, hcl⟩ := L3.out k hlt
      obtain ⟨pa, pc, ep, k1, k2, k3⟩ := HCN.out k hlt
      rw [ep] at hcl
      have HX : Hid (SPt wr (.slice pa ((o :: hl).getD k []).length pc) ((o :: hl).getD k [])) := SPt.keep ⟨pa, pc, rfl, k1, k2, k3⟩ hb.out
      have cl := cell_keep hb.out hcl
      have HPK := Lib.hid (HR.out.polA hkl)
      have hs := asum_small HR.out.ctr k (by omega)
      have ha2 := area2_small (HR.out.ctr _ (getD_mem hkl))
      have HAS : Hid (asum (o :: hl) (k + 1) = asum (o :: hl) k + area2L ((o :: hl).getD k [])) := by show _ = _; rw [ha2.1]; rfl
      have hk9 : k ≤ 9 := by omega
      rw [← ha2.1] at ha2
      clear hcl ep k1 k2 k3
      obtain ⟨C, hC⟩ : ∃ C, (o :: hl).getD k [] = C := ⟨_, rfl⟩
      rw [hC] at HX HPK HAS cl ha2
      clear hC
      obtain ⟨S, hS⟩ : ∃ S, asum (o :: hl) k = S := ⟨_, rfl⟩
      rw [hS] at HAS hs ⊢
      clear hS
      go_wp2_with fail
      refine (pArea2_any _ C wr HX.out HPK.out).mono ?_
      rintro e w4 ⟨rfl, hb4⟩
      have HB4 := Lib.hid (ext_trans hb.out hb4)
      clear hb4 cl
      obtain ⟨A, hA⟩ : ∃ A, area2L C = A := ⟨_, rfl⟩
      rw [hA] at HAS ha2 ⊢
      clear hA
      have hw : IntKind.i64.wrap (S + A) = S + A := IntWalk.i64_in _ (by omega)
      go_wp2_with fail
      go_roundw
      case rel => exact ⟨k + 1, by omega, by go_num, by rw [HAS.out], HB4⟩
      case measure => simp [intOf]; omega
    · have i1 : ¬ (k : Int) < hvs.length + 1 := by omega
      have e : k = (o :: hl).length := by have := HNL.out; simp; omega
      have HV : Hid (asum (o :: hl) k = sumA (o :: hl)) := by show _ = _; rw [e, asum_all]
      clear e
      go_wp2_with fail
      go_ret
      exact ⟨ret_int HV.out, HBW.out⟩
set_option maxRecDepth 100000 in
theorem root_zero (w : World) : Calls Tryz.prog 90 #[.int .i64 0] w (Ret w (.int .i64 0)) := by
  go_enter Tryz.func90, Tryz.ntmps90
  go_wp2_with fail
  go_loopw [3, 8] (fun r i wr => ∃ k : Nat, k ≤ 32 ∧ i = .int .i64 k ∧ r = .int .i64 0 ∧ Hid (Below w.heap.size w wr)) (fun _ i _ => 32 - (intOf i).toNat)
  case atStart => exact ⟨0, Nat.zero_le _, rfl, rfl, Below.refl _ _⟩
  case round =>
    obtain ⟨k, hk, rfl, rfl, hb⟩ := hrel
    by_cases hlt : k < 32
    · have hc : k = 0 ∨ k = 1 ∨ k = 2 ∨ k = 3 ∨ k = 4 ∨ k = 5 ∨ k = 6 ∨ k = 7 ∨ k = 8 ∨ k = 9 ∨ k = 10 ∨ k = 11 ∨ k = 12 ∨ k = 13 ∨ k = 14 ∨ k = 15 ∨ k = 16 ∨ k = 17 ∨ k = 18 ∨ k = 19 ∨ k = 20 ∨ k = 21 ∨ k = 22 ∨ k = 23 ∨ k = 24 ∨ k = 25 ∨ k = 26 ∨ k = 27 ∨ k = 28 ∨ k = 29 ∨ k = 30 ∨ k = 31 := by omega
      rcases hc with rfl | rfl | rfl | rfl | rfl | rfl | rfl | rfl | rfl | rfl | rfl | rfl | rfl | rfl | rfl | rfl | rfl | rfl | rfl | rfl | rfl | rfl | rfl | rfl | rfl | rfl | rfl | rfl | rfl | rfl | rfl | rfl
      · go_wp2_with fail
        go_roundw
        case rel => exact ⟨1, by omega, by go_num, rfl, hb⟩
        case measure => simp [intOf]
      · go_wp2_with fail
        go_roundw
        case rel => exact ⟨2, by omega, by go_num, rfl, hb⟩
        case measure => simp [intOf]
      · go_wp2_with fail
        go_roundw
        case rel => exact ⟨3, by omega, by go_num, rfl, hb⟩
        case measure => simp [intOf]
      · go_wp2_with fail
        go_roundw
        case rel => exact ⟨4, by omega, by go_num, rfl, hb⟩
        case measure => simp [intOf]
      · go_wp2_with fail
        go_roundw
        case rel => exact ⟨5, by omega, by go_num, rfl, hb⟩
        case measure => simp [intOf]
      · go_wp2_with fail
        go_roundw
        case rel => exact ⟨6, by omega, by go_num, rfl, hb⟩
        case measure => simp [intOf]
      · go_wp2_with fail
        go_roundw
        case rel => exact ⟨7, by omega, by go_num, rfl, hb⟩
        case measure => simp [intOf]
      · go_wp2_with fail
        go_roundw
        case rel => exact ⟨8, by omega, by go_num, rfl, hb⟩
        case measure => simp [intOf]
      · go_wp2_with fail
        go_roundw
        case rel => exact ⟨9, by omega, by go_num, rfl, hb⟩
        case measure => simp [intOf]
      · go_wp2_with fail
        go_roundw
        case rel => exact ⟨10, by omega, by go_num, rfl, hb⟩
        case measure => simp [intOf]
      · go_wp2_with fail
        go_roundw
        case rel => exact ⟨11, by omega, by go_num, rfl, hb⟩
        case measure => simp [intOf]
      · go_wp2_with fail
        go_roundw
        case rel => exact ⟨12, by omega, by go_num, rfl, hb⟩
        case measure => simp [intOf]
      · go_wp2_with fail
        go_roundw
        case rel => exact ⟨13, by omega, by go_num, rfl, hb⟩
        case measure => simp [intOf]
      · go_wp2_with fail
        go_roundw
        case rel => exact ⟨14, by omega, by go_num, rfl, hb⟩
        case measure => simp [intOf]
      · go_wp2_with fail
        go_roundw
        case rel => exact ⟨15, by omega, by go_num, rfl, hb⟩
        case measure => simp [intOf]
      · go_wp2_with fail
        go_roundw
        case rel => exact ⟨16, by omega, by go_num, rfl, hb⟩
        case measure => simp [intOf]
      · go_wp2_with fail
        go_roundw
        case rel => exact ⟨17, by omega, by go_num, rfl, hb⟩
        case measure => simp [intOf]
      · go_wp2_with fail
        go_roundw
        case rel => exact ⟨18, by omega, by go_num, rfl, hb⟩
        case measure => simp [intOf]
      · go_wp2_with fail
        go_roundw
        case rel => exact ⟨19, by omega, by go_num, rfl, hb⟩
        case measure => simp [intOf]
      · go_wp2_with fail
        go_roundw
        case rel => exact ⟨20, by omega, by go_num, rfl, hb⟩
        case measure => simp [intOf]
      · go_wp2_with fail
        go_roundw
        case rel => exact ⟨21, by omega, by go_num, rfl, hb⟩
        case measure => simp [intOf]
      · go_wp2_with fail
        go_roundw
        case rel => exact ⟨22, by omega, by go_num, rfl, hb⟩
        case measure => simp [intOf]
      · go_wp2_with fail
        go_roundw
        case rel => exact ⟨23, by omega, by go_num, rfl, hb⟩
        case measure => simp [intOf]
      · go_wp2_with fail
        go_roundw
        case rel => exact ⟨24, by omega, by go_num, rfl, hb⟩
        case measure => simp [intOf]
      · go_wp2_with fail
        go_roundw
        case rel => exact ⟨25, by omega, by go_num, rfl, hb⟩
        case measure => simp [intOf]
      · go_wp2_with fail
        go_roundw
        case rel => exact ⟨26, by omega, by go_num, rfl, hb⟩
        case measure => simp [intOf]
      · go_wp2_with fail
        go_roundw
        case rel => exact ⟨27, by omega, by go_num, rfl, hb⟩
        case measure => simp [intOf]
      · go_wp2_with fail
        go_roundw
        case rel => exact ⟨28, by omega, by go_num, rfl, hb⟩
        case measure => simp [intOf]
      · go_wp2_with fail
        go_roundw
        case rel => exact ⟨29, by omega, by go_num, rfl, hb⟩
        case measure => simp [intOf]
      · go_wp2_with fail
        go_roundw
        case rel => exact ⟨30, by omega, by go_num, rfl, hb⟩
        case measure => simp [intOf]
      · go_wp2_with fail
        go_roundw
        case rel => exact ⟨31, by omega, by go_num, rfl, hb⟩
        case measure => simp [intOf]
      · go_wp2_with fail
        go_roundw
        case rel => exact ⟨32, by omega, by go_num, rfl, hb⟩
        case measure => simp [intOf]
    · have i1 : ¬ (k : Int) < 32 := by omega
      go_wp2_with fail
      go_ret
      exact ⟨rfl, hb.out⟩
end Go.Proofs.YtfmhickjefogdaaGreat

/- region's near, Clear at gap 0; Within (printed by wip/gen_rge.py). -/
namespace Go.Proofs.YtfmhickjefogdaaGreat
open Go.RowKit

theorem groot_zero (w : World) : Calls Tryz.prog 60 #[.int .i64 0] w (Ret w (.int .i64 0)) := by
  go_enter Tryz.func60, Tryz.ntmps60
  go_wp2_with fail
  refine (root_zero w).mono ?_
  rintro e w1 ⟨rfl, hb⟩
  have HB := Lib.hid hb
  clear hb
  go_wp2_with fail
  go_ret
  exact ⟨rfl, HB.out⟩
theorem turn_small {a b c : Pnt} (ha : Nr a) (hb : Nr b) (hc : Nr c) : -17179869184 ≤ turnP a b c ∧ turnP a b c ≤ 17179869184 := by
  rw [turn_trn ha hb hc]
  unfold trn
  obtain ⟨a1, a2, a3, a4⟩ := ha
  obtain ⟨b1, b2, b3, b4⟩ := hb
  obtain ⟨c1, c2, c3, c4⟩ := hc
  have e1 := mul_small (x := b.x - a.x) (y := c.y - a.y) (by omega) (by omega) (by omega) (by omega)
  have e2 := mul_small (x := b.y - a.y) (y := c.x - a.x) (by omega) (by omega) (by omega) (by omega)
  omega
def sqW (a b : Pnt) : Int := IntKind.i64.wrap (IntKind.i64.wrap (IntKind.i64.wrap (b.x - a.x) * IntKind.i64.wrap (b.x - a.x)) + IntKind.i64.wrap (IntKind.i64.wrap (b.y - a.y) * IntKind.i64.wrap (b.y - a.y)))
def alW (p a b : Pnt) : Int := IntKind.i64.wrap (IntKind.i64.wrap (IntKind.i64.wrap (p.x - a.x) * IntKind.i64.wrap (b.x - a.x)) + IntKind.i64.wrap (IntKind.i64.wrap (p.y - a.y) * IntKind.i64.wrap (b.y - a.y)))
theorem zero_sq (S : Int) : IntKind.i64.wrap (IntKind.i64.wrap (0 * 0) * S) = 0 := by
  rw [Int.zero_mul, show IntKind.i64.wrap 0 = 0 from by decide, Int.zero_mul]; decide
theorem groot_zero2 (S : Int) (w : World) : Calls Tryz.prog 60 #[.int .i64 (IntKind.i64.wrap (IntKind.i64.wrap (0 * 0) * S))] w (Ret w (.int .i64 0)) := by
  rw [zero_sq]
  exact groot_zero w
theorem abs_not (n : Int) (h1 : -17179869184 ≤ n) (h2 : n ≤ 17179869184) : decide (max n (IntKind.i64.wrap (-n)) < 0) = false := by
  rw [IntWalk.i64_in (-n) (by omega)]
  exact decide_eq_false (by omega)
theorem sq_not {x y : Int} (h1 : -65536 ≤ x) (h2 : x ≤ 65536) (h3 : -65536 ≤ y) (h4 : y ≤ 65536) : decide (IntKind.i64.wrap (IntKind.i64.wrap (x * x) + IntKind.i64.wrap (y * y)) < IntKind.i64.wrap (0 * 0)) = false := by
  have e1 := mul_small h1 h2 h1 h2
  have e2 := mul_small h3 h4 h3 h4
  have n1 : 0 ≤ x * x := by
    rcases Int.le_total 0 x with h | h
    · exact Int.mul_nonneg h h
    · exact Int.mul_nonneg_of_nonpos_of_nonpos h h
  have n2 : 0 ≤ y * y := by
    rcases Int.le_total 0 y with h | h
    · exact Int.mul_nonneg h h
    · exact Int.mul_nonneg_of_nonpos_of_nonpos h h
  rw [IntWalk.i64_in (x * x) (by omega), IntWalk.i64_in (y * y) (by omega), IntWalk.i64_in (x * x + y * y) (by omega), show IntKind.i64.wrap (0 * 0) = 0 from by decide]
  exact decide_eq_false (by omega)
set_option maxRecDepth 100000 in
set_option maxHeartbeats 2000000 in
/-- nothing is nearer than 0 -/
theorem gNear_zero (p a b : Pnt) (w : World) (hp : Nr p) (ha : Nr a) (hb : Nr b) : Calls Tryz.prog 28 #[ptV p, ptV a, ptV b, .int .i64 0] w (Ret w (.bool false)) := by
  have HP := Lib.hid hp
  have HA := Lib.hid ha
  have HB' := Lib.hid hb
  clear hp ha hb
  obtain ⟨W1, HOp, HOa, HOb, HB, HW⟩ := boxP3 w p a b
  unfold ptV
  go_enter Tryz.func28, Tryz.ntmps28
  go_upto_region 1 with fail
  rw [HW.out]
  refine wp_region_en 11 gmT gmT_ok [⟨w.heap.size + 1, 0, (ptA a).toList⟩, ⟨w.heap.size + 1 + 1, 0, (ptA b).toList⟩] (fun v => v = W1) [(5, 0), (6, 1)] [(26, .ret (.agg (ptA (⟨IntKind.i64.wrap (b.x - a.x), IntKind.i64.wrap (b.y - a.y)⟩ : Pnt))))] [(26, .agg (ptA (⟨IntKind.i64.wrap (b.x - a.x), IntKind.i64.wrap (b.y - a.y)⟩ : Pnt)))] 9 26 37 (#[.int .i64 0, .int .i64 0]) (ptA (⟨IntKind.i64.wrap (b.x - a.x), IntKind.i64.wrap (b.y - a.y)⟩ : Pnt)) (by kernel_rfl) rfl ⟨_, _, rfl, ⟨rfl, rfl, rfl⟩, rfl, rfl, rfl⟩ (by decide) alloc_point (by kernel_rfl) rfl (pt_one _)
    (obsC (fun u hu => by cases hu; exact (range_new HOa.out)) (obsC (fun u hu => by cases hu; exact (range_new HOb.out)) obsN)) ⟨rfl, rfl, trivial⟩ ?_
  conv => whnf
  refine And.intro (under_of fun w => build_Point _ _ w) ?_
  conv => whnf
  intro f1
  conv => whnf
  refine And.intro (rfl) ?_
  conv => whnf
  refine And.intro ⟨rfl, rfl⟩ ?_
  intro w2 h2
  conv => whnf
  cases h2
  obtain ⟨W2, HOd2, hB2, HW2⟩ := newObj W1 (ptA (⟨IntKind.i64.wrap (b.x - a.x), IntKind.i64.wrap (b.y - a.y)⟩ : Pnt)) 37
  obtain ⟨bd, hbd⟩ : ∃ b, W1.heap.size = b := ⟨_, rfl⟩
  rw [hbd] at HOd2
  rw [HW2.out, hbd]
  clear hbd
  have h2 := hB2.out
  clear hB2
  have HB2 := Lib.hid (ext_trans HB.out h2)
  have HOp2 := Lib.hid (HOp.out.keep h2)
  have HOa2 := Lib.hid (HOa.out.keep h2)
  have HOb2 := Lib.hid (HOb.out.keep h2)
  clear h2
  go_upto_region 2 with fail
  refine wp_region_et gmT gmT_ok [⟨bd, 0, (ptA (⟨IntKind.i64.wrap (b.x - a.x), IntKind.i64.wrap (b.y - a.y)⟩ : Pnt)).toList⟩] (Below W2.heap.size W2) [(9, 0)] [] [(10, .int .i64 (sqW a b))] (by kernel_rfl) (Below.refl _ _)
    (obsC (fun u hu => rangeKeep (range_new HOd2.out) hu) obsN) ⟨rfl, trivial⟩ ?_
  conv => whnf
  intro f3
  conv => whnf
  refine And.intro (rfl) ?_
  conv => whnf
  intro w3 h3
  have HB3 := Lib.hid (ext_trans HB2.out h3)
  have HOp3 := Lib.hid (HOp2.out.keep h3)
  have HOa3 := Lib.hid (HOa2.out.keep h3)
  have HOb3 := Lib.hid (HOb2.out.keep h3)
  have HOd3 := Lib.hid (HOd2.out.keep h3)
  clear h3
  go_upto_region 3 with fail
  refine wp_region_et gmT gmT_ok [⟨w.heap.size, 0, (ptA p).toList⟩, ⟨w.heap.size + 1, 0, (ptA a).toList⟩, ⟨bd, 0, (ptA (⟨IntKind.i64.wrap (b.x - a.x), IntKind.i64.wrap (b.y - a.y)⟩ : Pnt)).toList⟩] (Below w3.heap.size w3) [(4, 0), (5, 1), (9, 2)] [] [(11, .int .i64 (alW p a b))] (by kernel_rfl) (Below.refl _ _)
    (obsC (fun u hu => rangeKeep (range_new HOp3.out) hu) (obsC (fun u hu => rangeKeep (range_new HOa3.out) hu) (obsC (fun u hu => rangeKeep (range_new HOd3.out) hu) obsN))) ⟨rfl, rfl, rfl, trivial⟩ ?_
  conv => whnf
  intro f4
  conv => whnf
  refine And.intro (rfl) ?_
  conv => whnf
  intro w4 h4
  have HB4 := Lib.hid (ext_trans HB3.out h4)
  have HOp4 := Lib.hid (HOp3.out.keep h4)
  have HOa4 := Lib.hid (HOa3.out.keep h4)
  have HOb4 := Lib.hid (HOb3.out.keep h4)
  clear h4
  obtain ⟨S, hS⟩ : ∃ S, sqW a b = S := ⟨_, rfl⟩
  obtain ⟨A, hA⟩ : ∃ A, alW p a b = A := ⟨_, rfl⟩
  rw [hS, hA]
  clear hS hA
  go_upto_region 4 with fail
  refine wp_region_et gmT gmT_ok [] (Below w4.heap.size w4) [] [] [(61, .bool (decide (0 < A) && decide (A < S)))] (by kernel_rfl) (Below.refl _ _)
    obsN trivial ?_
  conv => whnf
  intro f5
  conv => whnf
  refine And.intro (rfl) ?_
  conv => whnf
  intro w5 h5
  have HB5 := Lib.hid (ext_trans HB4.out h5)
  have HOp5 := Lib.hid (HOp4.out.keep h5)
  have HOa5 := Lib.hid (HOa4.out.keep h5)
  have HOb5 := Lib.hid (HOb4.out.keep h5)
  clear h5
  obtain ⟨z, hz⟩ : ∃ z, (decide (0 < A) && decide (A < S)) = z := ⟨_, rfl⟩
  rw [hz]
  clear hz
  cases z
  case true =>
    go_upto_region 5 with fail
    refine wp_region_et gmT gmT_ok [⟨w.heap.size + 1, 0, (ptA a).toList⟩, ⟨w.heap.size + 1 + 1, 0, (ptA b).toList⟩, ⟨w.heap.size, 0, (ptA p).toList⟩] (Below w5.heap.size w5) [(5, 0), (6, 1), (4, 2)] [(65, .ret (.int .i64 (turnP a b p)))] [(12, .int .i64 (turnP a b p))] (by kernel_rfl) (Below.refl _ _)
      (obsC (fun u hu => rangeKeep (range_new HOa5.out) hu) (obsC (fun u hu => rangeKeep (range_new HOb5.out) hu) (obsC (fun u hu => rangeKeep (range_new HOp5.out) hu) obsN))) ⟨rfl, rfl, rfl, trivial⟩ ?_
    conv => whnf
    refine And.intro (Nat.le_of_ble_eq_true rfl) ?_
    conv => whnf
    refine And.intro (Nat.le_of_ble_eq_true rfl) ?_
    conv => whnf
    refine And.intro (Nat.le_of_ble_eq_true rfl) ?_
    conv => whnf
    refine And.intro (under_of fun u hu => ret_in (gCross_any _ _ _ u) hu) ?_
    conv => whnf
    intro f6
    conv => whnf
    refine And.intro (rfl) ?_
    conv => whnf
    intro w6 h6
    have HB6 := Lib.hid (ext_trans HB5.out h6)
    clear h6
    obtain ⟨n, hn⟩ : ∃ n, turnP a b p = n := ⟨_, rfl⟩
    have hs := turn_small HA.out HB'.out HP.out
    rw [hn] at hs ⊢
    clear hn
    go_upto_region 6 with fail
    refine wp_region_et gmT gmT_ok [] (Below w6.heap.size w6) [] [(75, .ret (.int .i64 0))] [(8, .bool false)] (by kernel_rfl) (Below.refl _ _)
      obsN trivial ?_
    conv => whnf
    refine And.intro (under_of fun u hu => ret_in (groot_zero2 S u) hu) ?_
    conv => whnf
    intro f7
    conv => whnf
    refine And.intro (congrArg Value.bool (abs_not n hs.1 hs.2)) ?_
    conv => whnf
    intro w7 h7
    have HB7 := Lib.hid (ext_trans HB6.out h7)
    clear h7
    go_wp2_with fail
    go_ret
    exact ⟨rfl, HB7.out⟩
  go_upto_region 7 with fail
  refine wp_region_en 1 gmT gmT_ok [⟨w.heap.size + 1, 0, (ptA a).toList⟩] (fun v => v = w5) [(5, 0)] [] [(77, .agg (ptA a))] 13 77 37 (#[.int .i64 0, .int .i64 0]) (ptA a) (by kernel_rfl) rfl ⟨_, _, rfl, ⟨rfl, rfl, rfl⟩, rfl, rfl, rfl⟩ (by decide) alloc_point (by kernel_rfl) rfl (pt_one _)
    (obsC (fun u hu => by cases hu; exact (range_new HOa5.out)) obsN) ⟨rfl, trivial⟩ ?_
  conv => whnf
  refine And.intro (Nat.le_of_ble_eq_true rfl) ?_
  conv => whnf
  intro f7
  conv => whnf
  refine And.intro (rfl) ?_
  conv => whnf
  refine And.intro ⟨rfl, rfl⟩ ?_
  intro w2 h2
  conv => whnf
  cases h2
  obtain ⟨W6, HOe6, hB6, HW6⟩ := newObj w5 (ptA a) 37
  obtain ⟨be, hbe⟩ : ∃ b, w5.heap.size = b := ⟨_, rfl⟩
  have HBE : Hid (w.heap.size + 1 + 1 < be) := by show _ < _; rw [← hbe]; exact HOb5.out.lt
  rw [hbe] at HOe6
  rw [HW6.out, hbe]
  clear hbe
  have h6 := hB6.out
  clear hB6
  have HB6 := Lib.hid (ext_trans HB5.out h6)
  have HOp6 := Lib.hid (HOp5.out.keep h6)
  have HOa6 := Lib.hid (HOa5.out.keep h6)
  have HOb6 := Lib.hid (HOb5.out.keep h6)
  clear h6
  by_cases hap : 0 < A
  · have b0 := HOb6.out.cell 0
    have b1 := HOb6.out.cell 1
    simp only [ptA] at b0 b1
    dsimp at b0 b1
    obtain ⟨W7, HW7⟩ : ∃ W7, Hid (W6.setRow be (ptA b) = W7) := ⟨_, rfl⟩
    have HOe7 : Hid (ObjAt W7 be (ptA b) 37) := by show ObjAt ..; rw [← HW7.out]; exact setRow_heap _ _ _ _ _ _ HOe6.out
    have HOp7 : Hid (ObjAt W7 w.heap.size (ptA p) 37) := by show ObjAt ..; rw [← HW7.out]; exact HOp6.out.row (by have := HBE.out; omega) _
    have HB7 : Hid (Below w.heap.size w W7) := by show Below ..; rw [← HW7.out]; exact below_setRow HB6.out (by have := HBE.out; omega) _
    go_upto_region 10 with (refine wpList_store_row (o := ⟨none, .store _ _ _, _, _, _, _⟩) rfl 37 (.tmp 13) (.tmp 80) rfl be (ptA b) rfl rfl 37 _ HOe6.out info_Point rfl (pt_one _) ?_)
    rw [HW7.out]
    clear b0 b1
    refine wp_region_ev gmT gmT_ok [⟨w.heap.size, 0, (ptA p).toList⟩, ⟨be, 0, (ptA b).toList⟩] (Below W7.heap.size W7) [(4, 0), (13, 1)] [] [(14, .int .i64 (IntKind.i64.wrap (p.x - b.x))), (15, .int .i64 (IntKind.i64.wrap (p.y - b.y)))] (by kernel_rfl) mixed (by kernel_rfl) ((Below.refl _ _).drew)
      (obsC (fun u hu => rangeKeep (range_new HOp7.out) hu) (obsC (fun u hu => rangeKeep (range_new HOe7.out) hu) obsN)) ⟨rfl, rfl, trivial⟩ ?_
    conv => whnf
    intro f8
    conv => whnf
    refine And.intro (rfl) ?_
    conv => whnf
    refine And.intro (rfl) ?_
    conv => whnf
    intro w8 h8
    have HB8 := Lib.hid (ext_trans HB7.out h8)
    clear h8
    have hx : -65536 ≤ IntKind.i64.wrap (p.x - b.x) ∧ IntKind.i64.wrap (p.x - b.x) ≤ 65536 := by
      have h1 := HP.out.a; have h2 := HP.out.b; have h3 := HB'.out.a; have h4 := HB'.out.b
      rw [IntWalk.i64_in _ (by omega)]; omega
    have hy : -65536 ≤ IntKind.i64.wrap (p.y - b.y) ∧ IntKind.i64.wrap (p.y - b.y) ≤ 65536 := by
      have h1 := HP.out.c; have h2 := HP.out.d; have h3 := HB'.out.c; have h4 := HB'.out.d
      rw [IntWalk.i64_in _ (by omega)]; omega
    obtain ⟨X, hX⟩ : ∃ X, IntKind.i64.wrap (p.x - b.x) = X := ⟨_, rfl⟩
    obtain ⟨Y, hY⟩ : ∃ Y, IntKind.i64.wrap (p.y - b.y) = Y := ⟨_, rfl⟩
    rw [hX] at hx ⊢
    rw [hY] at hy ⊢
    clear hX hY
    go_upto_region 11 with fail
    refine wp_region_et gmT gmT_ok [] (Below w8.heap.size w8) [] [] [(8, .bool false)] (by kernel_rfl) (Below.refl _ _)
      obsN trivial ?_
    conv => whnf
    intro f9
    conv => whnf
    refine And.intro (congrArg Value.bool (sq_not hx.1 hx.2 hy.1 hy.2)) ?_
    conv => whnf
    intro w9 h9
    have HB9 := Lib.hid (ext_trans HB8.out h9)
    clear h9
    go_wp2_with fail
    go_ret
    exact ⟨rfl, HB9.out⟩
  · go_upto_region 10 with fail
    refine wp_region_ev gmT gmT_ok [⟨w.heap.size, 0, (ptA p).toList⟩, ⟨be, 0, (ptA a).toList⟩] (Below W6.heap.size W6) [(4, 0), (13, 1)] [] [(14, .int .i64 (IntKind.i64.wrap (p.x - a.x))), (15, .int .i64 (IntKind.i64.wrap (p.y - a.y)))] (by kernel_rfl) mixed (by kernel_rfl) ((Below.refl _ _).drew)
      (obsC (fun u hu => rangeKeep (range_new HOp6.out) hu) (obsC (fun u hu => rangeKeep (range_new HOe6.out) hu) obsN)) ⟨rfl, rfl, trivial⟩ ?_
    conv => whnf
    intro f8
    conv => whnf
    refine And.intro (rfl) ?_
    conv => whnf
    refine And.intro (rfl) ?_
    conv => whnf
    intro w8 h8
    have HB8 := Lib.hid (ext_trans HB6.out h8)
    clear h8
    have hx : -65536 ≤ IntKind.i64.wrap (p.x - a.x) ∧ IntKind.i64.wrap (p.x - a.x) ≤ 65536 := by
      have h1 := HP.out.a; have h2 := HP.out.b; have h3 := HA.out.a; have h4 := HA.out.b
      rw [IntWalk.i64_in _ (by omega)]; omega
    have hy : -65536 ≤ IntKind.i64.wrap (p.y - a.y) ∧ IntKind.i64.wrap (p.y - a.y) ≤ 65536 := by
      have h1 := HP.out.c; have h2 := HP.out.d; have h3 := HA.out.c; have h4 := HA.out.d
      rw [IntWalk.i64_in _ (by omega)]; omega
    obtain ⟨X, hX⟩ : ∃ X, IntKind.i64.wrap (p.x - a.x) = X := ⟨_, rfl⟩
    obtain ⟨Y, hY⟩ : ∃ Y, IntKind.i64.wrap (p.y - a.y) = Y := ⟨_, rfl⟩
    rw [hX] at hx ⊢
    rw [hY] at hy ⊢
    clear hX hY
    go_upto_region 11 with fail
    refine wp_region_et gmT gmT_ok [] (Below w8.heap.size w8) [] [] [(8, .bool false)] (by kernel_rfl) (Below.refl _ _)
      obsN trivial ?_
    conv => whnf
    intro f9
    conv => whnf
    refine And.intro (congrArg Value.bool (sq_not hx.1 hx.2 hy.1 hy.2)) ?_
    conv => whnf
    intro w9 h9
    have HB9 := Lib.hid (ext_trans HB8.out h9)
    clear h9
    go_wp2_with fail
    go_ret
    exact ⟨rfl, HB9.out⟩
end Go.Proofs.YtfmhickjefogdaaGreat

/- region's Clear at gap 0; Within (printed by wip/gen_rgf.py). -/
namespace Go.Proofs.YtfmhickjefogdaaGreat
open Go.RowKit

set_option maxRecDepth 100000 in
set_option maxHeartbeats 2000000 in
theorem close_zero (gb : Nat) (a b c d : Pnt) (w : World) (ha : Nr a) (hb : Nr b) (hc : Nr c) (hd : Nr d) (hg : w.cell? ⟨gb, 0, none⟩ = some (.int .i64 0)) : Calls Tryz.prog 26 #[ptV a, ptV b, ptV c, ptV d, .pointer (some ⟨gb, 0, none⟩)] w (Ret w (.bool (meetQ a b c d))) := by
  have HA := Lib.hid ha
  have HB0 := Lib.hid hb
  have HC := Lib.hid hc
  have HD := Lib.hid hd
  have HG := Lib.hid hg
  clear ha hb hc hd hg
  obtain ⟨W1, HOa, HOb, HOc, HOd, HB, HW⟩ := boxP4 w a b c d
  unfold ptV
  go_enter Tryz.func26, Tryz.ntmps26
  go_upto_region 1 with fail
  rw [HW.out]
  refine wp_region_et gmT gmT_ok [⟨w.heap.size, 0, (ptA a).toList⟩, ⟨w.heap.size + 1, 0, (ptA b).toList⟩, ⟨w.heap.size + 1 + 1, 0, (ptA c).toList⟩, ⟨w.heap.size + 1 + 1 + 1, 0, (ptA d).toList⟩, ⟨gb, 0, [.int .i64 0]⟩] (Below W1.heap.size W1) [(5, 0), (6, 1), (7, 2), (8, 3), (4, 4)] [(14, .ret (.bool (meetQ a b c d))), (20, .ret (.bool false)), (27, .ret (.bool false)), (34, .ret (.bool false)), (41, .ret (.bool false))] [(9, .bool (meetQ a b c d))] (by kernel_rfl) (Below.refl _ _)
    (obsC (fun u hu => rangeKeep (range_new HOa.out) hu) (obsC (fun u hu => rangeKeep (range_new HOb.out) hu) (obsC (fun u hu => rangeKeep (range_new HOc.out) hu) (obsC (fun u hu => rangeKeep (range_new HOd.out) hu) (obsC (fun u hu => rangeKeep (intR (cell_keep HB.out HG.out)) hu) obsN))))) ⟨rfl, rfl, rfl, rfl, rfl, trivial⟩ ?_
  conv => whnf
  refine And.intro (Nat.le_of_ble_eq_true rfl) ?_
  conv => whnf
  refine And.intro (Nat.le_of_ble_eq_true rfl) ?_
  conv => whnf
  refine And.intro (Nat.le_of_ble_eq_true rfl) ?_
  conv => whnf
  refine And.intro (Nat.le_of_ble_eq_true rfl) ?_
  conv => whnf
  refine And.intro (under_of fun u hu => ret_in (gTouch_any _ _ _ _ u) hu) ?_
  conv => whnf
  refine And.intro (Nat.le_of_ble_eq_true rfl) ?_
  conv => whnf
  refine And.intro (Nat.le_of_ble_eq_true rfl) ?_
  conv => whnf
  refine And.intro (Nat.le_of_ble_eq_true rfl) ?_
  conv => whnf
  refine And.intro (under_of fun u hu => ret_in (gNear_zero _ _ _ u HA.out HC.out HD.out) hu) ?_
  conv => whnf
  refine And.intro (Nat.le_of_ble_eq_true rfl) ?_
  conv => whnf
  refine And.intro (Nat.le_of_ble_eq_true rfl) ?_
  conv => whnf
  refine And.intro (Nat.le_of_ble_eq_true rfl) ?_
  conv => whnf
  refine And.intro (under_of fun u hu => ret_in (gNear_zero _ _ _ u HB0.out HC.out HD.out) hu) ?_
  conv => whnf
  refine And.intro (Nat.le_of_ble_eq_true rfl) ?_
  conv => whnf
  refine And.intro (Nat.le_of_ble_eq_true rfl) ?_
  conv => whnf
  refine And.intro (Nat.le_of_ble_eq_true rfl) ?_
  conv => whnf
  refine And.intro (under_of fun u hu => ret_in (gNear_zero _ _ _ u HC.out HA.out HB0.out) hu) ?_
  conv => whnf
  refine And.intro (Nat.le_of_ble_eq_true rfl) ?_
  conv => whnf
  refine And.intro (Nat.le_of_ble_eq_true rfl) ?_
  conv => whnf
  refine And.intro (Nat.le_of_ble_eq_true rfl) ?_
  conv => whnf
  refine And.intro (under_of fun u hu => ret_in (gNear_zero _ _ _ u HD.out HA.out HB0.out) hu) ?_
  conv => whnf
  intro f1
  conv => whnf
  refine And.intro (by simp only [Bool.or_false]) ?_
  conv => whnf
  intro w2 h2
  have HB2 := Lib.hid (ext_trans HB.out h2)
  clear h2
  go_wp2_with fail
  go_ret
  exact ⟨rfl, HB2.out⟩
theorem boxS2g (w : World) (oa : Option Addr) (on oc : Nat) (ha : Option Addr) (hn hc : Nat) (pa : Option Addr) (pn pc : Nat) (qa : Option Addr) (qn qc : Nat) : ∃ W1, Hid (ObjAt W1 w.heap.size #[.slice oa on oc, .slice ha hn hc] 47) ∧ Hid (ObjAt W1 (w.heap.size + 1) #[.slice pa pn pc, .slice qa qn qc] 47) ∧ Hid (ObjAt W1 (w.heap.size + 1 + 1) #[.int .i64 0] 3) ∧ Hid (Below w.heap.size w W1) ∧ Hid (((w.alloc (.cells #[.slice oa on oc, .slice ha hn hc] 47)).alloc (.cells #[.slice pa pn pc, .slice qa qn qc] 47)).alloc (.cells #[.int .i64 0] 3) = W1) :=
  ⟨_, ((ObjAt.new w #[.slice oa on oc, .slice ha hn hc] 47).alloc _).alloc _, (by have h := ObjAt.new (w.alloc (.cells #[.slice oa on oc, .slice ha hn hc] 47)) #[.slice pa pn pc, .slice qa qn qc] 47; rw [size_alloc] at h; exact h.alloc _), (by have h := ObjAt.new ((w.alloc (.cells #[.slice oa on oc, .slice ha hn hc] 47)).alloc (.cells #[.slice pa pn pc, .slice qa qn qc] 47)) #[.int .i64 0] 3; rw [size_alloc, size_alloc] at h; exact h), (((Below.refl _ _).alloc (Nat.le_refl _) _).alloc (by simp) _).alloc (by simp; omega) _, rfl⟩
theorem sep_nz {ao bo : List Pnt} {ah : List (List Pnt)} (ca : ∀ c ∈ ao :: ah, Ctr c) (cb : Ctr bo) (hx : ∀ c ∈ ao :: ah, crossB c bo = false) : ∀ c ∈ ao :: ah, whereL c (pti bo 0) ≠ 0 := fun c hc => by
  have a := (cross_apart (ca c hc) cb).1 (hx c hc)
  have h := where_off (ca c hc) (cb.nr cb.len0) (apart_off a cb.len0)
  have : wnd c (pti bo 0) % 2 = 0 ∨ wnd c (pti bo 0) % 2 = 1 := by omega
  rcases this with e | e
  · rw [h.2 e]; decide
  · rw [h.1 e]; decide
set_option maxRecDepth 100000 in
set_option maxHeartbeats 4000000 in
theorem gClear_zero (ov hv pv qv : Value) (ao bo : List Pnt) (ah bh : List (List Pnt)) (avs bvs : List Value) (w : World) (ha : ShpOK w ov hv ao ah avs) (hb : ShpOK w pv qv bo bh bvs) (ra : Rgn ao ah) (rb : Rgn bo bh) (hs : SepR ao ah bo bh) : Calls Tryz.prog 10 #[.agg #[ov, hv], .agg #[pv, qv], .int .i64 0] w (Ret w (.bool true)) := by
  have HA := Lib.hid ha
  have HB := Lib.hid hb
  have RA := Lib.hid ra
  have RB := Lib.hid rb
  have HS := Lib.hid hs
  have HNA := Lib.hid (sep_nz ra.ctr rb.pol.c (fun c hc => hs.x c hc bo (by simp)))
  have HNB := Lib.hid (sep_nz rb.ctr ra.pol.c (fun d hd => cross_sym ra.pol.c (rb.ctr d hd) (hs.x ao (by simp) d hd)))
  obtain ⟨oa, oc, rfl, _, _, a3⟩ := ha.o
  obtain ⟨xa, xc, rfl, _⟩ := ha.hs
  obtain ⟨pa, pc, rfl, _, _, b3⟩ := hb.o
  obtain ⟨qa, qc, rfl, _⟩ := hb.hs
  obtain ⟨ab, ao', rfl, ac⟩ := a3 0 ra.pos
  obtain ⟨bb, bo', rfl, bc⟩ := b3 0 rb.pos
  have AC := Lib.hid ac
  have BC := Lib.hid bc
  have PA := Lib.hid ra.pos
  have PB := Lib.hid rb.pos
  have n1 : avs.length ≤ 8 := by rw [ha.n]; exact ra.n
  have n2 : bvs.length ≤ 8 := by rw [hb.n]; exact rb.n
  clear ha hb ra rb a3 b3 ac bc hs
  obtain ⟨W1, HS1, HT1, HG1, HB1, HW1⟩ := boxS2g w (some ⟨ab, ao', none⟩) ao.length oc xa avs.length xc (some ⟨bb, bo', none⟩) bo.length pc qa bvs.length qc
  go_enter Tryz.func10, Tryz.ntmps10
  go_upto_region 1 with fail
  rw [HW1.out]
  refine wp_region_et gmT gmT_ok [⟨w.heap.size, 0, [.slice (some ⟨ab, ao', none⟩) ao.length oc, .slice xa avs.length xc]⟩, ⟨w.heap.size + 1, 0, [.slice (some ⟨bb, bo', none⟩) bo.length pc, .slice qa bvs.length qc]⟩, ⟨w.heap.size + 1 + 1, 0, [.int .i64 0]⟩] (Below W1.heap.size W1) [(3, 0), (4, 1), (5, 2)] [(20, .ret (.int .i64 0)), (25, .ret (.int .i64 0))] [(27, .bool false)] (by kernel_rfl) (Below.refl _ _)
    (obsC (fun u hu => rangeKeep (range_new HS1.out) hu) (obsC (fun u hu => rangeKeep (range_new HT1.out) hu) (obsC (fun u hu => rangeKeep (range_new HG1.out) hu) obsN))) ⟨rfl, rfl, rfl, trivial⟩ ?_
  conv => whnf
  refine And.intro (Nat.le_of_ble_eq_true rfl) ?_
  conv => whnf
  refine And.intro (under_of fun u hu => ret_in (gCheck_any _ _ ao ah avs u (HA.out.keep (ext_trans HB1.out hu)) RA.out) hu) ?_
  conv => whnf
  refine And.intro (Nat.le_of_ble_eq_true rfl) ?_
  conv => whnf
  refine And.intro (under_of fun u hu => ret_in (gCheck_any _ _ bo bh bvs u (HB.out.keep (ext_trans HB1.out hu)) RB.out) hu) ?_
  conv => whnf
  intro f1
  conv => whnf
  refine And.intro (rfl) ?_
  conv => whnf
  intro w2 h2
  have HB2 := Lib.hid (ext_trans HB1.out h2)
  have HS2 := Lib.hid (HS1.out.keep h2)
  have HT2 := Lib.hid (HT1.out.keep h2)
  have HG2 := Lib.hid (HG1.out.keep h2)
  clear h2
  go_upto_region 3 with fail
  refine wp_region_ev gmT gmT_ok [⟨w.heap.size, 0, [.slice (some ⟨ab, ao', none⟩) ao.length oc, .slice xa avs.length xc]⟩, ⟨w.heap.size + 1, 0, [.slice (some ⟨bb, bo', none⟩) bo.length pc, .slice qa bvs.length qc]⟩, ⟨ab, ao' + 0 * 2, ptCells (pti ao 0)⟩, ⟨bb, bo' + 0 * 2, ptCells (pti bo 0)⟩] (Below w2.heap.size w2) [(3, 0), (4, 1)] [(31, .ix 0 3), (33, .ret (.int .i64 (-1))), (39, .ix 0 2), (41, .ret (.int .i64 (-1)))] [(43, .bool false)] (by kernel_rfl) mixed (by kernel_rfl) ((Below.refl _ _).drew)
    (obsC (fun u hu => rangeKeep (range_new HS2.out) hu) (obsC (fun u hu => rangeKeep (range_new HT2.out) hu) (obsC (fun u hu => rangeKeep ((pt_range (AC.out.keep HB2.out))) hu) (obsC (fun u hu => rangeKeep ((pt_range (BC.out.keep HB2.out))) hu) obsN)))) ⟨rfl, rfl, trivial⟩ ?_
  conv => whnf
  refine And.intro (Nat.le_of_ble_eq_true rfl) ?_
  conv => whnf
  refine And.intro (under_of ⟨rfl, PB.out, rfl, rfl⟩) ?_
  conv => whnf
  refine And.intro (Nat.le_of_ble_eq_true rfl) ?_
  conv => whnf
  refine And.intro (under_of fun u hu => ret_in (gPlace_neg _ _ ao ah avs _ u (HA.out.keep (ext_trans HB2.out hu)) RA.out (RB.out.pol.c.nr PB.out) HNA.out HS.out.a) hu) ?_
  conv => whnf
  refine And.intro (Nat.le_of_ble_eq_true rfl) ?_
  conv => whnf
  refine And.intro (under_of ⟨rfl, PA.out, rfl, rfl⟩) ?_
  conv => whnf
  refine And.intro (Nat.le_of_ble_eq_true rfl) ?_
  conv => whnf
  refine And.intro (under_of fun u hu => ret_in (gPlace_neg _ _ bo bh bvs _ u (HB.out.keep (ext_trans HB2.out hu)) RB.out (RA.out.pol.c.nr PA.out) HNB.out HS.out.b) hu) ?_
  conv => whnf
  intro f3
  conv => whnf
  refine And.intro (rfl) ?_
  conv => whnf
  intro w3 h3
  have HB3 := Lib.hid (ext_trans HB2.out h3)
  have HS3 := Lib.hid (HS2.out.keep h3)
  have HT3 := Lib.hid (HT2.out.keep h3)
  have HG3 := Lib.hid (HG2.out.keep h3)
  clear h3
  have c0 := HS3.out.cell 0
  have c1 := HS3.out.cell 1
  dsimp at c0 c1
  go_wp2_with fail
  refine (gcontours_any _ _ ao ah avs w3 (HA.out.keep HB3.out) (cLim HA.out RA.out)).mono ?_
  rintro e w4 ⟨lv, rfl, hlv, hb4⟩
  obtain ⟨la, lc, rfl, _, _, l3⟩ := hlv
  have L3 := Lib.hid l3
  have HB4 := Lib.hid (ext_trans HB3.out hb4)
  have HT4 := Lib.hid (HT3.out.keep hb4)
  have HG4 := Lib.hid (HG3.out.keep hb4)
  have CA := Lib.hid (ShpOK.con (HA.out.keep HB4.out))
  clear l3 hb4 c0 c1
  have NA := Lib.hid HA.out.n
  have NB := Lib.hid HB.out.n
  go_wp2_with fail
  go_loopw [48] (fun i wr => ∃ k : Nat, k ≤ avs.length + 1 ∧ i = .int .i64 k ∧ Hid (Below w4.heap.size w4 wr)) (fun i _ => avs.length + 1 - (intOf i).toNat)
  case atStart => exact ⟨0, Nat.zero_le _, rfl, Below.refl _ _⟩
  case round =>
    obtain ⟨i, hi, rfl, hb⟩ := hrel
    by_cases hlt : i < avs.length + 1
    · have i1 : (i : Int) < avs.length + 1 := by omega
      have hil : i < (ao :: ah).length := by have := NA.out; simp; omega
      obtain ⟨lb, lo, rfl, hcl⟩ := L3.out i hlt
      obtain ⟨ua, uc, ep, u1, u2, u3⟩ := CA.out i hlt
      rw [ep] at hcl
      have HBW := Lib.hid (ext_trans HB4.out hb.out)
      have SC : Hid (SPt w4 (.slice ua ((ao :: ah).getD i []).length uc) ((ao :: ah).getD i [])) := ⟨ua, uc, rfl, u1, u2, u3⟩
      have cl := cell_keep hb.out hcl
      have HXC := Lib.hid (fun d (hd : d ∈ bo :: bh) => HS.out.x _ (getD_mem hil) d hd)
      have HCC := Lib.hid (RA.out.ctr _ (getD_mem hil))
      clear ep hcl u1 u2 u3
      obtain ⟨C, hC⟩ : ∃ C, (ao :: ah).getD i [] = C := ⟨_, rfl⟩
      rw [hC] at SC HXC HCC cl
      clear hC
      have t0 := (HT4.out.keep hb.out).cell 0
      have t1 := (HT4.out.keep hb.out).cell 1
      dsimp at t0 t1
      go_wp2_with fail
      refine (gcontours_any _ _ bo bh bvs wr (HB.out.keep HBW.out) (cLim HB.out RB.out)).mono ?_
      rintro e w5 ⟨mv, rfl, hmv, hb5⟩
      obtain ⟨ma, mc, rfl, _, _, m3⟩ := hmv
      have M3 := Lib.hid m3
      have HB5 := Lib.hid (ext_trans hb.out hb5)
      have HBW5 := Lib.hid (ext_trans HBW.out hb5)
      have CB := Lib.hid (ShpOK.con (HB.out.keep HBW5.out))
      have HG5 := Lib.hid (HG4.out.keep HB5.out)
      clear m3 hb5 cl t0 t1
      go_wp2_with fail
      go_loopw [55] (fun i2 wr2 => ∃ k : Nat, k ≤ bvs.length + 1 ∧ i2 = .int .i64 k ∧ Hid (Below w5.heap.size w5 wr2)) (fun i2 _ => bvs.length + 1 - (intOf i2).toNat)
      case atStart => exact ⟨0, Nat.zero_le _, rfl, Below.refl _ _⟩
      case round =>
        obtain ⟨k, hk, rfl, hb2⟩ := hrel
        by_cases hlt2 : k < bvs.length + 1
        · have i2 : (k : Int) < bvs.length + 1 := by omega
          have hkl : k < (bo :: bh).length := by have := NB.out; simp; omega
          obtain ⟨mb, mo, rfl, hcm⟩ := M3.out k hlt2
          obtain ⟨va, vc, eq, v1, v2, v3⟩ := CB.out k hlt2
          rw [eq] at hcm
          have SD : Hid (SPt w5 (.slice va ((bo :: bh).getD k []).length vc) ((bo :: bh).getD k [])) := ⟨va, vc, rfl, v1, v2, v3⟩
          have cm := cell_keep hb2.out hcm
          have HX := Lib.hid (HXC.out _ (getD_mem hkl))
          have HDC := Lib.hid (RB.out.ctr _ (getD_mem hkl))
          clear eq hcm v1 v2 v3
          obtain ⟨D, hD⟩ : ∃ D, (bo :: bh).getD k [] = D := ⟨_, rfl⟩
          rw [hD] at SD HX HDC cm
          clear hD
          have HG6 := Lib.hid (HG5.out.keep hb2.out)
          go_wp2_with fail
          refine (gEdges_close _ _ C D wr (SC.out.keep (ext_trans HB5.out hb2.out)) (SD.out.keep hb2.out) (fun j hj => HCC.out.nr hj) (fun j hj => HDC.out.nr hj) (Nat.le_trans HCC.out.n (by decide)) (Nat.le_trans HDC.out.n (by decide)) (w.heap.size + 1 + 1) (fun a b c d u na nb nc nd hu => close_zero _ a b c d u na nb nc nd (cell_keep hu (HG6.out.cell 0)))).mono ?_
          rintro e w7 ⟨rfl, hb7⟩
          have HB7 := Lib.hid (ext_trans hb2.out hb7)
          clear hb7 cm
          rw [HX.out]
          go_wp2_with fail
          go_roundw
          case rel => exact ⟨k + 1, by omega, by go_num, HB7⟩
          case measure => simp [intOf]; omega
        · have i2 : ¬ (k : Int) < bvs.length + 1 := by omega
          have HBE := Lib.hid (ext_trans HB5.out hb2.out)
          go_wp2_with fail
          go_roundw
          case rel => exact ⟨i + 1, by omega, by go_num, HBE⟩
          case measure => simp [intOf]; omega
    · have i1 : ¬ (i : Int) < avs.length + 1 := by omega
      have HBE := Lib.hid (ext_trans HB4.out hb.out)
      go_wp2_with fail
      go_ret
      exact ⟨rfl, HBE.out⟩
end Go.Proofs.YtfmhickjefogdaaGreat

/- region's Within at margin 0 (printed by wip/gen_rgg.py). -/
namespace Go.Proofs.YtfmhickjefogdaaGreat
open Go.RowKit

set_option maxRecDepth 100000 in
theorem from_true (n lo hi : Int) (w : World) (h1 : lo ≤ n) (h2 : n ≤ hi) : Calls Tryz.prog 23 #[.int .i64 n, .int .i64 lo, .int .i64 hi] w (Ret w (.bool true)) := by
  go_enter Tryz.func23, Tryz.ntmps23
  go_upto_region 1 with fail
  refine wp_region_et gmT gmT_ok [] (Below w.heap.size w) [] [] [(6, .bool true)] (by kernel_rfl) (Below.refl _ _)
    obsN trivial ?_
  conv => whnf
  intro f1
  conv => whnf
  refine And.intro (by rw [decide_eq_true h1, decide_eq_true h2]; rfl) ?_
  conv => whnf
  intro w2 h3
  go_wp2_with fail
  go_ret
  exact ⟨rfl, h3⟩
theorem wrap_sub0 {L : Int} (h0 : 0 ≤ L) (h1 : L ≤ 32768) : IntKind.i64.wrap (L - 0) = L := by rw [Int.sub_zero]; exact IntWalk.i64_in _ (by omega)
set_option maxRecDepth 100000 in
set_option maxHeartbeats 2000000 in
theorem gWithin0_any (ov hv : Value) (o : List Pnt) (L W : Int) (w : World) (h : SPt w ov o) (hl : o.length ≤ 1000) (hp : 0 < o.length) (hs : ∃ a n c, hv = .slice a n c) (l0 : 0 ≤ L) (l1 : L ≤ 32768) (w0 : 0 ≤ W) (w1 : W ≤ 32768) (hi : Inn 0 0 L W o) : Calls Tryz.prog 9 #[.agg #[ov, hv], .int .i64 L, .int .i64 W, .int .i64 0] w (Ret w (.bool true)) := by
  have HI := Lib.hid hi
  obtain ⟨oa, oc, rfl, _, _, p3⟩ := h
  have P3 := Lib.hid p3
  obtain ⟨ha, hn, hc, rfl⟩ := hs
  have hp' : ¬ (o.length : Int) = 0 := by omega
  clear hi p3
  obtain ⟨W1, HS1, HB1, HW1⟩ := boxS w oa o.length oc ha hn hc
  go_enter Tryz.func9, Tryz.ntmps9
  go_upto_region 2 with fail
  rw [HW1.out]
  refine wp_region_et gmT2 gmT2_ok [⟨w.heap.size, 0, [.slice oa o.length oc, .slice ha hn hc]⟩] (Below W1.heap.size W1) [(4, 0)] [(19, .ret (.bool true)), (25, .ret (.bool true)), (31, .ret (.bool true))] [(33, .bool false)] (by kernel_rfl) (Below.refl _ _)
    (obsC (fun u hu => rangeKeep (range_new HS1.out) hu) obsN) ⟨rfl, trivial⟩ ?_
  conv => whnf
  refine And.intro (under_of fun u hu => ret_in (from_true _ _ _ u l0 l1) hu) ?_
  conv => whnf
  refine And.intro (under_of fun u hu => ret_in (from_true _ _ _ u w0 w1) hu) ?_
  conv => whnf
  refine And.intro (under_of fun u hu => ret_in (from_true _ _ _ u (by omega) (by omega)) hu) ?_
  conv => whnf
  intro f1
  conv => whnf
  refine And.intro (by rw [beq_eq_false_iff_ne.2 hp']; rfl) ?_
  conv => whnf
  intro w2 h2
  have HB2 := Lib.hid (ext_trans HB1.out h2)
  have HS2 := Lib.hid (HS1.out.keep h2)
  clear h2
  have c0 := HS2.out.cell 0
  dsimp at c0
  go_wp2_with fail
  clear c0
  go_loopw [37] (fun i wr => ∃ k : Nat, k ≤ o.length ∧ i = .int .i64 k ∧ Hid (Below w2.heap.size w2 wr)) (fun i _ => o.length - (intOf i).toNat)
  case atStart => exact ⟨0, Nat.zero_le _, rfl, Below.refl _ _⟩
  case round =>
    obtain ⟨k, hk, rfl, hb⟩ := hrel
    by_cases hlt : k < o.length
    · have i1 : (k : Int) < o.length := by omega
      obtain ⟨pb, po, rfl, hcp⟩ := P3.out k hlt
      have HC := Lib.hid (hcp.keep (ext_trans HB2.out hb.out))
      have hx := HI.out.x k hlt
      have hy := HI.out.y k hlt
      clear hcp
      go_upto_region 6 with fail
      refine wp_region_en 2 gmT gmT_ok [⟨pb, po + k * 2, ptCells (pti o k)⟩] (fun v => v = wr) [] [(39, .ix k 0)] [(40, .agg (ptA (pti o k)))] 11 40 37 (#[.int .i64 0, .int .i64 0]) (ptA (pti o k)) (by kernel_rfl) rfl ⟨_, _, rfl, ⟨rfl, rfl, rfl⟩, rfl, rfl, rfl⟩ (by decide) alloc_point (by kernel_rfl) rfl (pt_one _)
        (obsC (fun u hu => by cases hu; exact (pt_range HC.out)) obsN) trivial ?_
      conv => whnf
      refine And.intro (under_of ⟨rfl, hlt, rfl, rfl⟩) ?_
      conv => whnf
      refine And.intro (Nat.le_of_ble_eq_true rfl) ?_
      conv => whnf
      intro f3
      conv => whnf
      refine And.intro (rfl) ?_
      conv => whnf
      refine And.intro ⟨rfl, rfl⟩ ?_
      intro w2 h2
      conv => whnf
      cases h2
      obtain ⟨W3, HQ3, HB3', HW3⟩ := newObj wr (ptA (pti o k)) 37
      obtain ⟨bq, hbq⟩ : ∃ b, wr.heap.size = b := ⟨_, rfl⟩
      rw [hbq] at HQ3
      rw [HW3.out, hbq]
      have HB3 := Lib.hid (ext_trans hb.out HB3'.out)
      clear hbq
      go_upto_region 7 with fail
      refine wp_region_et gmT2 gmT2_ok [⟨bq, 0, (ptA (pti o k)).toList⟩] (Below W3.heap.size W3) [(11, 0)] [(48, .ret (.bool true)), (58, .ret (.bool true))] [(60, .bool false)] (by kernel_rfl) (Below.refl _ _)
        (obsC (fun u hu => rangeKeep (range_new HQ3.out) hu) obsN) ⟨rfl, trivial⟩ ?_
      conv => whnf
      refine And.intro (under_of fun u hu => ret_in (from_true _ _ _ u hx.1 (by rw [wrap_sub0 l0 l1]; exact hx.2)) hu) ?_
      conv => whnf
      refine And.intro (under_of fun u hu => ret_in (from_true _ _ _ u hy.1 (by rw [wrap_sub0 w0 w1]; exact hy.2)) hu) ?_
      conv => whnf
      intro f4
      conv => whnf
      refine And.intro (rfl) ?_
      conv => whnf
      intro w4 h4
      have HB4 := Lib.hid (ext_trans HB3.out h4)
      clear h4
      go_wp2_with fail
      go_roundw
      case rel => exact ⟨k + 1, by omega, by go_num, HB4⟩
      case measure => simp [intOf]; omega
    · have i1 : ¬ (k : Int) < o.length := by omega
      have HBE := Lib.hid (ext_trans HB2.out hb.out)
      go_wp2_with fail
      go_ret
      exact ⟨rfl, HBE.out⟩
end Go.Proofs.YtfmhickjefogdaaGreat
