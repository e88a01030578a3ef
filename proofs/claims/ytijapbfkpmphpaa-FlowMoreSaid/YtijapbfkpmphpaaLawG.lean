/- The law FlowMore. -/
import Derived.Test.YtijapbfkpmphpaaMorSpec2
namespace Go.Proofs.Ytijapbfkpmphpaa
open Go.RowKit

theorem finishE_good {p : List (List Int)} {l : List Int} (h : finishE p l = 0) : Good p := by
  apply checkE_zero
  unfold finishE at h
  by_cases hc0 : checkE p = 0
  · exact hc0
  · rw [if_pos hc0] at h; exact h

theorem span_bounds {p : List (List Int)} {l : List Int} (hg : Good p) (hw : Whole p l) : 0 ≤ spanV p l ∧ spanV p l ≤ 25600000 := by
  rw [spanV_whole (good_check hg) hw]
  unfold lenV
  by_cases h : p.length = 0
  · unfold lastV; rw [if_pos (by rw [hw.2, h])]; omega
  · have := hg.st 0 (by omega)
    exact lastV_bounds hg hw.1 (by omega)

set_option maxRecDepth 100000 in
set_option maxHeartbeats 4000000 in
theorem more_law (v u : Value) (p : List (List Int)) (l : List Int) (c : Int) (w : World) (h : SS w v p) (g : SI w u l) (hc : 0 ≤ c ∧ c < 65536) : Calls Try.prog 11 #[v, u, .int .u16 c] w (Law w) := by
  have H := Lib.hid h
  have G := Lib.hid g
  obtain ⟨vs, ⟨a, cap, rfl, h1, h2, h3⟩, h4⟩ := h
  have H3 := Lib.hid h3
  have H4 := Lib.hid h4
  clear h3 h4
  obtain ⟨a', cap', rfl, g1, g2, g3⟩ := g
  clear g3
  obtain ⟨c, rfl⟩ : ∃ k : Nat, c = (k : Int) := ⟨c.toNat, by omega⟩
  go_enter Try.func11, Try.ntmps11
  go_wp2_with fail
  refine (light_any _ p 32 _ H.out).mono ?_
  rintro e w1 ⟨rfl, m1, rfl⟩
  cases hl : lightB p 32
  · go_wp2_with fail
    refine (awake_any _).mono ?_
    rintro e w2 ⟨rfl, hb⟩
    go_wp2_with fail
    go_ret
    exact law_of rfl (below_drewN' (Below.refl _ _) _) hb
  have h32 := light_len hl
  have HR12 : Hid (∀ j, j < p.length → (ri p j).length ≤ 12) := by
    simp only [lightB, Bool.and_eq_true, decide_eq_true_eq] at hl; exact hl.1
  clear hl
  go_wp2_with fail
  refine (permutation_any _ l p.length _ (G.out.drewN _)).mono ?_
  rintro e w2 ⟨rfl, hb⟩
  have HB2 := Lib.hid (ext_trans (below_drewN' (Below.refl w.heap.size w) m1) hb)
  clear hb
  cases hp : permB l p.length
  · go_wp2_with fail
    refine (awake_any _).mono ?_
    rintro e w2 ⟨rfl, hb⟩
    go_wp2_with fail
    go_ret
    exact law_of rfl HB2.out hb
  have HW := Lib.hid (perm_whole hp)
  clear hp
  by_cases h0 : p.length = 0
  · have hb0 : ((p.length : Int) == 0) = true := by rw [beq_iff_eq]; omega
    clear h0
    go_wp2_with fail
    refine (awake_any _).mono ?_
    rintro e w2 ⟨rfl, hb⟩
    go_wp2_with fail
    go_ret
    exact law_of rfl HB2.out hb
  have hb0 : ((p.length : Int) == 0) = false := by rw [beq_eq_false_iff_ne]; omega
  have hp0 : 0 < p.length := by omega
  clear h0
  obtain ⟨b0, o0, ha, k0⟩ := H3.out 0 hp0
  obtain ⟨ak, ck, ek, n1, n2, _⟩ := H4.out 0 hp0
  rw [ek, Nat.add_zero] at k0
  subst ha
  have K0 := Lib.hid (cell_keep HB2.out k0)
  have k0 := K0.out
  have hr12 := HR12.out 0 hp0
  clear ek
  by_cases hr0 : (ri p 0).length = 0
  · have hb1 : (((ri p 0).length : Int) == 0) = true := by rw [beq_iff_eq]; omega
    clear hr0
    go_wp2_with fail
    refine (awake_any _).mono ?_
    rintro e w2 ⟨rfl, hb⟩
    go_wp2_with fail
    go_ret
    exact law_of rfl HB2.out hb
  have hb1 : (((ri p 0).length : Int) == 0) = false := by rw [beq_eq_false_iff_ne]; omega
  have hs0 : 0 < (ri p 0).length := by omega
  clear hr0
  go_wp2_with fail
  refine (Makespan_any _ _ p l _ (H.out.keep HB2.out) (G.out.keep HB2.out)).mono ?_
  rintro e w3 ⟨rfl, hb⟩
  have HB3 := Lib.hid (ext_trans HB2.out hb)
  have k0 := cell_keep hb K0.out
  clear hb
  obtain ⟨j, hj, hjp⟩ : ∃ k : Nat, (c : Int) % (p.length : Int) = (k : Int) ∧ k < p.length := ⟨c % p.length, by rw [Int.natCast_emod], Nat.mod_lt c hp0⟩
  obtain ⟨s, hs, hsp⟩ : ∃ k : Nat, (c : Int) / 32 % ((ri p 0).length : Int) = (k : Int) ∧ k < (ri p 0).length := ⟨c / 32 % (ri p 0).length, by rw [Int.natCast_emod]; rfl, Nat.mod_lt _ hs0⟩
  obtain ⟨d, hd, hdp⟩ : ∃ k : Nat, (c : Int) % 7 = (k : Int) ∧ k < 7 := ⟨c % 7, by rw [Int.natCast_emod]; rfl, Nat.mod_lt _ (by omega)⟩
  have tj : (c : Int).tmod (p.length : Int) = (j : Int) := by rw [Int.tmod_eq_emod_of_nonneg (by omega)]; exact hj
  have t1 : (c : Int).tdiv 32 = (c : Int) / 32 := Int.tdiv_eq_ediv_of_nonneg (by omega)
  have t2 : ((c : Int) / 32).tmod ((ri p 0).length : Int) = (s : Int) := by rw [Int.tmod_eq_emod_of_nonneg (by omega)]; exact hs
  have t3 : (c : Int).tmod 7 = (d : Int) := by rw [Int.tmod_eq_emod_of_nonneg (by omega)]; exact hd
  have TJ := Lib.hid tj
  have T1 := Lib.hid t1
  have T2 := Lib.hid t2
  have T3 := Lib.hid t3
  clear hj hs hd tj t1 t2 t3
  go_wp2_with fail
  have tj := TJ.out
  have t1 := T1.out
  have t2 := T2.out
  have t3 := T3.out
  go_quiet (fail)
  clear tj t1 t2 t3
  go_wp2_with fail
  have HB3 := Lib.hid (below_drewN' HB3.out nq)
  generalize w3.drewN nq = w3 at *
  go_loopw [12, 13] (fun t i wr => ∃ k : Nat, k ≤ p.length ∧ i = .int .i64 k ∧ Hid (Below w3.heap.size w3 wr) ∧ Hid (∃ vs, TabV wr w3.heap.size t (p.take k) vs)) (fun _ i _ => p.length - (intOf i).toNat)
  case atStart => exact ⟨0, Nat.zero_le _, rfl, Below.refl _ _, [], TabV.nil _ _⟩
  case round =>
    obtain ⟨wo, rfl⟩ : ∃ wo : World, wo = wr := ⟨_, rfl⟩
    obtain ⟨k, hk, rfl, hbw, how⟩ := hrel
    by_cases hlt : k < p.length
    · obtain ⟨vt, hown⟩ := how.out
      have HOWN := Lib.hid hown
      clear how hown
      obtain ⟨b, o, ha, hc⟩ := H3.out k hlt
      have hr12 := HR12.out k hlt
      have HTS := Lib.hid (take_succ_ri hlt)
      have HRK := Lib.hid ((H4.out k hlt).keep (HB3.out.trans (hbw.out.mono HB3.out.size)))
      obtain ⟨ak, ck, ek, n1, n2, _⟩ := H4.out k hlt
      rw [ek] at hc HRK
      have hc := cell_keep hbw.out (cell_keep HB3.out hc)
      have hca := cell_keep ((Below.refl _ _).alloc (Nat.le_refl _) (.cells #[] 3)) hc
      clear ek
      generalize ri p k = row at *
      simp at ha
      obtain ⟨rfl, rfl⟩ := ha
      have htk : (p.take k).length ≤ 32 := by simp; omega
      have hsw := hbw.out.size
      go_wp2_with (at_builtin; refine wpList_app_int rfl (.tmp 68) (.tmp 72) rfl wo.heap.size _ _ [] row rfl rfl (OwnI_empty _ _ (Nat.le_refl _)) (HRK.out.alloc _) (by simp; omega) (by simp) ?_)
      intro va wa hoa hga _
      have hba : Below wo.heap.size wo wa := ((Below.refl _ _).alloc (Nat.le_refl _) _).grown hga (by simp) (by simp [Value.ownBlock])
      have HOA := Lib.hid (show OwnI wa wo.heap.size va row by simpa using hoa)
      have HBA := Lib.hid hba
      clear hoa hba hga
      obtain ⟨ar, cr, er⟩ := SI_form HOA.out.si
      rw [er] at HOA ⊢
      clear er
      go_wp2_with (at_builtin; refine wpList_app_tab rfl (.tmp 67) (.tmp 74) rfl w3.heap.size _ _ _ row _ 23 rfl rfl HOWN.out hsw HBA.out HOA.out rfl (by omega) ?_)
      intro tq wq hot hgr hlb
      have hbt : Below w3.heap.size w3 wq := (hbw.out.trans (((HBA.out.mono hsw).alloc (by have := HBA.out.size; omega) _))).grown hgr (by have := HBA.out.size; simp; omega) hlb
      rw [← HTS.out] at hot
      have HOT := Lib.hid hot
      have HBT := Lib.hid hbt
      clear hot hbt hgr hlb
      go_wp2_with fail
      go_roundw
      case rel => exact ⟨k + 1, by omega, by go_num, HBT, _, HOT.out⟩
      case measure => simp [intOf]; omega
    · have hkp : k = p.length := by omega
      subst hkp
      obtain ⟨vt, hown⟩ := how.out
      rw [List.take_length] at hown
      have HT := Lib.hid hown
      have HB4 := Lib.hid (ext_trans HB3.out hbw.out)
      have HBW := Lib.hid hbw.out
      clear how hown k0 hbw hk
      by_cases hf : finishE p l = 0
      rotate_left
      · have hb2 : (finishE p l != 0) = true := by simpa using hf
        clear hf
        go_wp2_with fail
        refine (awake_any _).mono ?_
        rintro e w5 ⟨rfl, hb⟩
        go_wp2_with fail
        go_ret
        exact law_of rfl HB4.out hb
      have hgood := finishE_good hf
      have hst := hgood.st j hjp
      have hsj : s < (ri p j).length := by omega
      have hnm := hgood.num j hjp s hsj
      have HSB := Lib.hid (span_bounds hgood HW.out)
      have HM : Hid (gi (ri p j) s + (d : Int) ≤ 100000 → finishE (moreP p j s (gi (ri p j) s + d)) l = 0 ∧ spanV p l ≤ spanV (moreP p j s (gi (ri p j) s + d)) l ∧ spanV (moreP p j s (gi (ri p j) s + d)) l ≤ spanV p l + d) :=
        fun h => more_span hgood HW.out hjp hsj (by omega) h
      obtain ⟨gt, capt, gr, capr, rfl, t1, c1, t2, t3, t4, ev, c2, f2⟩ := HT.out.look hjp (by omega)
      have EV := Lib.hid ev
      have c2 := c2 s hsj
      have f2 := f2 s
      have hb2 : (finishE p l != 0) = false := by rw [hf]; rfl
      rw [hf]
      clear hgood hst hf ev
      have i1 : (j : Int) < (p.length : Int) := by omega
      have i2 : (s : Int) < ((ri p j).length : Int) := by omega
      have i3 : ¬ ((ri p j).length : Int) ≤ (s : Int) := by omega
      have i5 : decide ((ri p j).length ≤ s) = false := by rw [decide_eq_false_iff_not]; omega
      have HR12J := HR12.out j hjp
      generalize hx : gi (ri p j) s = x at *
      by_cases hle : 100000 < x + (d : Int)
      · have hb3 : decide (100000 < x + (d : Int)) = true := by rw [decide_eq_true_eq]; exact hle
        go_wp2_with fail
        refine (awake_any _).mono ?_
        rintro e w5 ⟨rfl, hb⟩
        go_wp2_with fail
        go_ret
        exact law_of rfl HB4.out hb
      · have hb3 : decide (100000 < x + (d : Int)) = false := by rw [decide_eq_false_iff_not]; exact hle
        have HMM := Lib.hid (HM.out (by omega))
        go_wp2_with fail
        go_region
        have HTN := Lib.hid (HT.out.store hjp EV.out s (x + (d : Int)))
        have HQ : Hid (SS ((wo.setCell ⟨gr, s, none⟩ (.int .i64 (x + (d : Int)))).drew) (.slice (some ⟨gt, 0, none⟩) p.length capt) (moreP p j s (x + (d : Int)))) := HTN.out.ownT.ss
        have HB5 : Hid (Below w.heap.size w (wo.setCell ⟨gr, s, none⟩ (.int .i64 (x + (d : Int)))).drew) := (HB4.out.setCell (by have := HB3.out.size; show _ ≤ gr; omega) _).drew
        clear HTN c1 c2 f2 k0
        go_wp2_with fail
        refine (Makespan_any _ _ (moreP p j s (x + (d : Int))) l _ HQ.out (G.out.keep HB5.out)).mono ?_
        rintro e w6 ⟨rfl, hb⟩
        have HB6 := Lib.hid (ext_trans HB5.out hb)
        clear hb
        have hbd := HSB.out
        rw [HMM.out.1]
        have g1 := HMM.out.2.1
        have g2 := HMM.out.2.2
        clear HMM HM hle hb3
        generalize spanV p l = n at *
        generalize spanV (moreP p j s (x + (d : Int))) l = m at *
        have g3 : decide (n ≤ m) = true := by rw [decide_eq_true_eq]; exact g1
        have g4 : decide (m ≤ n + (d : Int)) = true := by rw [decide_eq_true_eq]; exact g2
        go_wp2_with fail
        refine (awake_any _).mono ?_
        rintro e w7 ⟨rfl, hb⟩
        go_wp2_with fail
        go_ret
        exact law_of rfl HB6.out hb

theorem u16_range {c : Int} (h : (Lit.int .u16 c).wf = true) : 0 ≤ c ∧ c < 65536 := by
  simp [Lit.wf, IntKind.min, IntKind.max, IntKind.signed, IntKind.bits] at h; omega
theorem more_law' (v u : Value) (p : List (List Int)) (l : List Int) (c : Int) (w : World) (h : SS w v p) (g : SI w u l) (hc : (Lit.int .u16 c).wf = true) : Calls Try.prog 11 #[v, u, .int .u16 c] w (Law w) :=
  more_law v u p l c w h g (u16_range hc)
end Go.Proofs.Ytijapbfkpmphpaa
