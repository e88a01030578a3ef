/- Contract: the reference's Hours of transport. -/
import Derived.Test.YtpbmmdoodmbneaaGreatDoorTrnX

/- Contracts: the reference's CheckYard and Hours of transport. -/
namespace Go.Proofs.YtpbmmdoodmbneaaGreatDoor
open Go.RowKit Go.Sort

set_option maxHeartbeats 4000000 in
set_option maxRecDepth 100000 in
theorem rCheckYard_any (v dv : Value) (tr : List Trk) (d : List (List Int)) (w : World) (h : SK w v tr) (hd : SS w dv d) (hz : ∀ t ∈ tr, t.name.length ≤ maxLen) :
    Calls Tryz.prog 23 #[v, dv] w (Ret w (.int .i64 (yardE tr d))) := by
  obtain ⟨a, cap, rfl, h1, h2, h3⟩ := h
  have HD := Lib.hid hd
  obtain ⟨da, dc, rfl, _⟩ := hd.open
  have H3 := Lib.hid h3
  have HZ := Lib.hid hz
  clear h3 hd hz
  by_cases g1 : 8 < tr.length ∨ 32 < d.length
  · have HR : Hid (yardE tr d = 4) := by show _ = _; unfold yardE; rw [if_pos g1]
    by_cases g : 8 < tr.length
    · clear g1
      go_enter Tryz.func23, Tryz.ntmps23
      go_wp2_with fail
      go_ret
      exact ⟨ret_int HR.out.symm, Below.refl _ _⟩
    · have g' : 32 < d.length := by omega
      clear g1
      go_enter Tryz.func23, Tryz.ntmps23
      go_wp2_with fail
      go_ret
      exact ⟨ret_int HR.out.symm, Below.refl _ _⟩
  by_cases g2 : tr.length = 0 ∨ d.length = 0
  · have HR : Hid (yardE tr d = 3) := by show _ = _; unfold yardE; rw [if_neg g1, if_pos g2]
    have b1 : tr.length ≤ 8 := by omega
    have b2 : d.length ≤ 32 := by omega
    clear g1
    by_cases g : tr.length = 0
    · have b3 : ((tr.length : Int) == 0) = true := by rw [beq_iff_eq]; omega
      clear g2 g
      go_enter Tryz.func23, Tryz.ntmps23
      go_wp2_with fail
      go_ret
      exact ⟨ret_int HR.out.symm, Below.refl _ _⟩
    · have b3 : ((tr.length : Int) == 0) = false := by rw [beq_eq_false_iff_ne]; omega
      have b4 : ((d.length : Int) == 0) = true := by rw [beq_iff_eq]; omega
      clear g2 g
      go_enter Tryz.func23, Tryz.ntmps23
      go_wp2_with fail
      go_ret
      exact ⟨ret_int HR.out.symm, Below.refl _ _⟩
  have HY : Hid (yardE tr d = if trkE none tr ≠ 0 then trkE none tr else distE d) := by show _ = _; unfold yardE; rw [if_neg g1, if_neg g2]
  have b1 : decide (8 < tr.length) = false := by rw [decide_eq_false_iff_not]; omega
  have b2 : decide (32 < d.length) = false := by rw [decide_eq_false_iff_not]; omega
  have b3 : ((tr.length : Int) == 0) = false := by rw [beq_eq_false_iff_ne]; omega
  have b4 : ((d.length : Int) == 0) = false := by rw [beq_eq_false_iff_ne]; omega
  have n1 : 0 < tr.length := by omega
  have n2 : tr.length ≤ 8 := by omega
  have n3 : d.length ≤ 32 := by omega
  clear g1 g2
  go_enter Tryz.func23, Tryz.ntmps23
  go_wp2_with fail
  go_loopw [5] (fun i wr => ∃ k : Nat, k ≤ tr.length ∧ i = .int .i64 k ∧ Hid (Below w.heap.size w wr) ∧ Hid (trkE none tr = trkE (pvN tr k) (tr.drop k))) (fun i _ => tr.length - (intOf i).toNat)
  case atStart => exact ⟨0, Nat.zero_le _, rfl, Lib.hid (Below.refl _ _), rfl⟩
  case round =>
    obtain ⟨k, hk, rfl, hb, hE⟩ := hrel
    by_cases hlt : k < tr.length
    · obtain ⟨b, off, ha, hc⟩ := H3.out k hlt
      subst ha
      have hc' := hc.keep hb.out
      have hnz := HZ.out _ (tki_mem hlt)
      have HT := Lib.hid (trkE_at hlt)
      generalize tki tr k = t at *
      obtain ⟨c0, c1, c2⟩ := hc'
      clear hc
      go_wp2_with fail
      refine (rIsName_any (bs t.name) _ (by rw [bs_size]; exact hnz)).mono ?_
      rintro e w1 ⟨rfl, hq⟩
      have hb1 := below_quiet hq
      rw [bs_list]
      have g0 := cell_keep hb1 (p := ⟨wr.heap.size, 0, none⟩) (v := .string (bs t.name)) (by go_simp)
      have g1 := cell_keep hb1 (p := ⟨wr.heap.size, 1, none⟩) (v := .int .i64 t.load) (by go_simp)
      have g2 := cell_keep hb1 (p := ⟨wr.heap.size, 2, none⟩) (v := .int .i64 t.hours) (by go_simp)
      have HB1 := Lib.hid (ext_trans (below_alloc hb.out _) hb1)
      clear hb1 hnz hq
      cases hn : nameB t.name
      · rw [if_pos hn] at HT
        go_wp2_with fail
        go_ret
        exact ⟨ret_int (by rw [HY.out, hE.out, HT.out]; rfl), HB1.out⟩
      · rw [if_neg (by rw [hn]; decide)] at HT
        clear hn
        by_cases hr : t.load < 1 ∨ 1099511627776 < t.load ∨ t.hours < 1 ∨ 100 < t.hours
        · rw [if_pos hr] at HT
          have HR : Hid (yardE tr d = 9) := by show _ = _; rw [HY.out, hE.out, HT.out]; rfl
          clear HT HY hE
          cases z1 : decide (t.load < 1)
          · cases z2 : decide (1099511627776 < t.load)
            · cases z3 : decide (t.hours < 1)
              · have z4 : decide (100 < t.hours) = true := by simp only [decide_eq_true_eq, decide_eq_false_iff_not] at *; omega
                clear hr
                go_wp2_with fail
                go_ret
                exact ⟨ret_int HR.out.symm, HB1.out⟩
              · clear hr
                go_wp2_with fail
                go_ret
                exact ⟨ret_int HR.out.symm, HB1.out⟩
            · clear hr
              go_wp2_with fail
              go_ret
              exact ⟨ret_int HR.out.symm, HB1.out⟩
          · clear hr
            go_wp2_with fail
            go_ret
            exact ⟨ret_int HR.out.symm, HB1.out⟩
        · rw [if_neg hr] at HT
          have z1 : decide (t.load < 1) = false := by rw [decide_eq_false_iff_not]; omega
          have z2 : decide (1099511627776 < t.load) = false := by rw [decide_eq_false_iff_not]; omega
          have z3 : decide (t.hours < 1) = false := by rw [decide_eq_false_iff_not]; omega
          have z4 : decide (100 < t.hours) = false := by rw [decide_eq_false_iff_not]; omega
          clear hr
          have HNB : Hid (trkE none tr = if notB (pvN tr k) t.name = true then 11 else trkE (pvN tr (k + 1)) (tr.drop (k + 1))) := by show _ = _; rw [hE.out, HT.out]
          clear HT hE
          by_cases hk0 : k = 0
          · subst hk0
            have HN : Hid (trkE none tr = trkE (pvN tr (0 + 1)) (tr.drop (0 + 1))) := by show _ = _; rw [HNB.out]; unfold pvN notB; rfl
            clear HNB
            go_wp2_with fail
            go_quiet (fail)
            go_wp2_with fail
            go_roundw
            case rel => exact ⟨0 + 1, by omega, by go_num, below_drewN' HB1.out _, HN.out⟩
            case measure => simp [intOf]; omega
          · obtain ⟨p, rfl⟩ : ∃ p, k = p + 1 := ⟨k - 1, by omega⟩
            have hkb : decide ((0 : Int) < ((p + 1 : Nat) : Int)) = true := by rw [decide_eq_true_eq]; omega
            have hw : IntKind.i64.wrap (((p + 1 : Nat) : Int) - 1) = (p : Int) := by rw [IntWalk.i64_in _ (by omega)]; omega
            obtain ⟨b', off', ha', hcp⟩ := H3.out p (by omega)
            have ha' := Option.some.inj ha'
            simp only [Addr.mk.injEq] at ha'
            obtain ⟨rfl, rfl, _⟩ := ha'
            have e0 := (hcp.keep HB1.out).c0
            clear hcp
            have HP : Hid (notB (pvN tr (p + 1)) t.name = decide (bytesC t.name (tki tr p).name ≤ 0)) := by
              show _ = _; unfold pvN; rw [if_neg (Nat.succ_ne_zero p), Nat.add_sub_cancel]; rfl
            have hle := le_str t.name (tki tr p).name
            generalize (tki tr p).name = pn at *
            have i1 : (0 : Int) ≤ p := by omega
            have i2 : (p : Int) < tr.length := by omega
            have i3 : (p : Int) < cap := by omega
            cases hq : decide (bytesC t.name pn ≤ 0)
            · rw [hq] at hle
              have HN : Hid (trkE none tr = trkE (pvN tr (p + 1 + 1)) (tr.drop (p + 1 + 1))) := by show _ = _; rw [HNB.out, HP.out, hq]; rfl
              clear HNB HP hq
              go_wp2_with fail
              go_quiet (fail)
              go_wp2_with fail
              go_roundw
              case rel => exact ⟨p + 1 + 1, by omega, by go_num, below_drewN' HB1.out _, HN.out⟩
              case measure => simp [intOf]; omega
            · rw [hq] at hle
              have HR : Hid (yardE tr d = 11) := by show _ = _; rw [HY.out, HNB.out, HP.out, hq]; rfl
              clear HNB HP hq
              go_wp2_with fail
              go_quiet (fail)
              go_wp2_with fail
              go_ret
              exact ⟨ret_int HR.out.symm, below_drewN' HB1.out _⟩
    · have HR : Hid (yardE tr d = distE d) := by show _ = _; rw [HY.out, hE.out, trkE_end _ _ (by omega)]; rfl
      clear HY hE
      obtain ⟨W, rfl⟩ : ∃ W : World, W = wr := ⟨_, rfl⟩
      obtain ⟨xa, xc, ex, n5, n6, d3⟩ := (HD.out.keep hb.out).open
      simp only [Value.slice.injEq] at ex
      obtain ⟨rfl, _, rfl⟩ := ex
      have D3 := Lib.hid d3
      clear d3
      have HDE : Hid (yardE tr d = if (d.any fun r => decide (r.length ≠ d.length)) = true then 17 else if (d.any fun r => r.any wideB) = true then 9 else if allU d d.length = true then 0 else 17) := HR.out
      clear HR H3 HZ n1 n2 h1 h2 b1 b2 b3 b4
      go_wp2_with fail
      clear hlt
      go_loopw [7] (fun i wr => ∃ k : Nat, k ≤ d.length ∧ i = .int .i64 k ∧ (∃ m, wr = W.drewN m) ∧ Hid (∀ j, j < k → (ri d j).length = d.length)) (fun i _ => d.length - (intOf i).toNat)
      case atStart => exact ⟨0, Nat.zero_le _, rfl, ⟨0, rfl⟩, fun j hj => by omega⟩
      case round =>
        obtain ⟨k, hk, rfl, ⟨m, rfl⟩, hj⟩ := hrel
        by_cases hlt : k < d.length
        · obtain ⟨b, off, ra, rc, rfl, hc, e1, e2, _⟩ := D3.out k hlt
          by_cases hy : (ri d k).length = d.length
          · have HJ : Hid (∀ j, j < k + 1 → (ri d j).length = d.length) := upto (q := fun j => (ri d j).length = d.length) hj.out hy
            have hbx : (((ri d k).length : Int) != (d.length : Int)) = false := by simp [hy]
            have hb2 : ((ri d k).length != d.length) = false := by simp [hy]
            generalize (ri d k).length = L at *
            clear hy
            go_wp2_with fail
            go_roundw
            case rel => exact ⟨k + 1, by omega, by go_num, (by first | exact ⟨_, rfl⟩ | exact dn2 _ _ _), HJ.out⟩
            case measure => simp [intOf]; omega
          · have HR : Hid (yardE tr d = 17) := by
              have : (d.any fun r => decide (r.length ≠ d.length)) = true := List.any_eq_true.2 ⟨ri d k, ri_mem hlt, by rw [decide_eq_true_eq]; exact hy⟩
              show _ = _; rw [HDE.out, this]; rfl
            have hbx : (((ri d k).length : Int) != (d.length : Int)) = true := by rw [bne_iff_ne]; omega
            have hb2 : ((ri d k).length != d.length) = true := by rw [bne_iff_ne]; exact hy
            generalize (ri d k).length = L at *
            clear hy
            go_wp2_with fail
            go_ret
            exact ⟨ret_int HR.out.symm, below_drewN' hb.out _⟩
        · have HL : Hid (∀ i, i < d.length → (ri d i).length = d.length) := fun i hi => hj.out i (by omega)
          have HDE2 : Hid (yardE tr d = if (d.any fun r => r.any wideB) = true then 9 else if allU d d.length = true then 0 else 17) := by
            have : (d.any fun r => decide (r.length ≠ d.length)) = false := by
              rw [List.any_eq_false]
              intro r hr
              obtain ⟨i, hi, rfl⟩ := mem_ri hr
              simp [HL.out i hi]
            show _ = _; rw [HDE.out, this]; rfl
          clear hj HDE
          go_wp2_with fail
          clear hlt
          go_loopw [8] (fun i wr => ∃ k : Nat, k ≤ d.length ∧ i = .int .i64 k ∧ (∃ m, wr = W.drewN m) ∧ Hid (∀ j, j < k → (ri d j).any wideB = false)) (fun i _ => d.length - (intOf i).toNat)
          case atStart => exact ⟨0, Nat.zero_le _, rfl, by first | exact ⟨_, rfl⟩ | exact dn2 _ _ _, fun j hj => by omega⟩
          case round =>
            obtain ⟨k, hk, rfl, ⟨m3, rfl⟩, hj⟩ := hrel
            by_cases hlt : k < d.length
            · obtain ⟨b, off, ra, rc, rfl, hc, e1, e2, e3⟩ := D3.out k hlt
              rw [HL.out k hlt] at hc e1 e2 e3
              have E3 := Lib.hid e3
              clear e3
              go_wp2_with fail
              go_loopw [9] (fun i wr => ∃ j : Nat, j ≤ d.length ∧ i = .int .i64 j ∧ (∃ m, wr = W.drewN m) ∧ Hid (∀ q, q < j → wideB (gi (ri d k) q) = false)) (fun i _ => d.length - (intOf i).toNat)
              case atStart => exact ⟨0, Nat.zero_le _, rfl, by first | exact ⟨_, rfl⟩ | exact dn2 _ _ _, fun j hj => by omega⟩
              case round =>
                obtain ⟨j, hj2, rfl, ⟨m2, rfl⟩, hs⟩ := hrel
                by_cases hlt2 : j < d.length
                · obtain ⟨b2, off2, rfl, hc2⟩ := E3.out j hlt2
                  cases hy : wideB (gi (ri d k) j)
                  · have HJ : Hid (∀ q, q < j + 1 → wideB (gi (ri d k) q) = false) := upto (q := fun q => wideB (gi (ri d k) q) = false) hs.out hy
                    generalize gi (ri d k) j = x at *
                    have z1 : decide (x < 0) = false := by unfold wideB at hy; simp at hy; rw [decide_eq_false_iff_not]; omega
                    have z2 : decide (10000 < x) = false := by unfold wideB at hy; simp at hy; rw [decide_eq_false_iff_not]; omega
                    clear hy hs
                    go_wp2_with fail
                    go_roundw
                    case rel => exact ⟨j + 1, by omega, by go_num, (by first | exact ⟨_, rfl⟩ | exact dn2 _ _ _), HJ.out⟩
                    case measure => simp [intOf]; omega
                  · have HR : Hid (yardE tr d = 9) := by
                      have : (ri d k).any wideB = true := List.any_eq_true.2 ⟨gi (ri d k) j, by
                        have hjl : j < (ri d k).length := by rw [HL.out k hlt]; exact hlt2
                        unfold gi; rw [List.getD_eq_getElem?_getD, List.getElem?_eq_getElem hjl]; exact List.getElem_mem hjl, hy⟩
                      show _ = _; rw [HDE2.out, any_wide_at hlt this]; rfl
                    generalize gi (ri d k) j = x at *
                    clear hs HDE2
                    cases z1 : decide (x < 0)
                    · have z2 : decide (10000 < x) = true := by unfold wideB at hy; rw [z1] at hy; simpa using hy
                      clear hy
                      go_wp2_with fail
                      go_ret
                      exact ⟨ret_int HR.out.symm, below_drewN' hb.out _⟩
                    · clear hy
                      go_wp2_with fail
                      go_ret
                      exact ⟨ret_int HR.out.symm, below_drewN' hb.out _⟩
                · have HJ : Hid (∀ q, q < k + 1 → (ri d q).any wideB = false) := upto (q := fun q => (ri d q).any wideB = false) hj.out (by
                    rw [List.any_eq_false]
                    intro x hx
                    obtain ⟨q, hq, rfl⟩ := List.mem_iff_getElem.1 hx
                    have := hs.out q (by rw [HL.out k hlt] at hq; omega)
                    unfold gi at this
                    rw [List.getD_eq_getElem?_getD, List.getElem?_eq_getElem hq] at this
                    simp only [Option.getD_some] at this
                    rw [this]; decide)
                  clear hs hj
                  go_wp2_with fail
                  go_roundw
                  case rel => exact ⟨k + 1, by omega, by go_num, (by first | exact ⟨_, rfl⟩ | exact dn2 _ _ _), HJ.out⟩
                  case measure => simp [intOf]; omega
            · have HW : Hid (yardE tr d = if allU d d.length = true then 0 else 17) := by
                have : (d.any fun r => r.any wideB) = false := by
                  rw [List.any_eq_false]
                  intro r hr
                  obtain ⟨i, hi, rfl⟩ := mem_ri hr
                  rw [hj.out i (by omega)]; decide
                show _ = _; rw [HDE2.out, this]; rfl
              clear HDE2 hj
              go_wp2_with fail
              clear hlt
              go_loopw [10] (fun i wr => ∃ k : Nat, k ≤ d.length ∧ i = .int .i64 k ∧ (∃ m, wr = W.drewN m) ∧ Hid (allU d k = true)) (fun i _ => d.length - (intOf i).toNat)
              case atStart => exact ⟨0, Nat.zero_le _, rfl, by first | exact ⟨_, rfl⟩ | exact dn2 _ _ _, rfl⟩
              case round =>
                obtain ⟨k, hk, rfl, ⟨m4, rfl⟩, hj⟩ := hrel
                by_cases hlt : k < d.length
                · obtain ⟨b, off, ra, rc, ha, hc, e1, e2, e3⟩ := D3.out k hlt
                  rw [HL.out k hlt] at hc e1 e2 e3
                  have E3 := Lib.hid e3
                  rw [ha]
                  clear e3
                  go_wp2_with fail
                  go_loopw [11] (fun i wr => ∃ j : Nat, j ≤ d.length ∧ i = .int .i64 j ∧ (∃ m, wr = W.drewN m) ∧ Hid (symU d k j = true)) (fun i _ => d.length - (intOf i).toNat)
                  case atStart => exact ⟨0, Nat.zero_le _, rfl, by first | exact ⟨_, rfl⟩ | exact dn2 _ _ _, rfl⟩
                  case round =>
                    obtain ⟨j, hj2, rfl, ⟨m5, rfl⟩, hs⟩ := hrel
                    by_cases hlt2 : j < d.length
                    · obtain ⟨b2, off2, ha2, hc2⟩ := E3.out j hlt2
                      obtain ⟨b5, off5, ha5, hc5⟩ := E3.out k hlt
                      have ha6 := ha5.symm.trans ha2
                      simp only [Option.some.injEq, Addr.mk.injEq] at ha6
                      obtain ⟨rfl, rfl, _⟩ := ha6
                      obtain ⟨b', off', qa, qc, ha', hc3, o1, o2, o3⟩ := D3.out j hlt2
                      have ha'' := ha'.symm.trans ha
                      simp only [Option.some.injEq, Addr.mk.injEq] at ha''
                      obtain ⟨rfl, rfl, _⟩ := ha''
                      rw [HL.out j hlt2] at hc3 o1 o2 o3
                      obtain ⟨b4, off4, ha4, hc4⟩ := o3 k hlt
                      rw [ha2] at hc
                      rw [ha4] at hc3
                      have HS := Lib.hid (symU_succ d k j)
                      have HSK := Lib.hid (fun h : gi (ri d k) k ≠ 0 => show symU d k d.length = false from symU_le (show symU d k (k + 1) = false by rw [symU_succ]; simp [h]) (show k + 1 ≤ d.length by omega))
                      have hzx : k = j → gi (ri d k) k = gi (ri d k) j := fun e => by rw [e]
                      generalize gi (ri d k) j = x at *
                      generalize gi (ri d j) k = y at *
                      generalize gi (ri d k) k = z at *
                      clear o3 ha' ha2 ha4 ha5
                      have NX : Hid (z = 0 → x = y → symU d k (j + 1) = true) := fun e1 e2 => by
                        rw [HS.out, hs.out, e2]
                        by_cases e : k = j
                        · have := hzx e; rw [← e2, ← this, e1]; simp
                        · simp [e]
                      have BAD : Hid (z ≠ 0 ∨ x ≠ y → yardE tr d = 17) := fun hb => by
                        have e2 : symU d k d.length = false := by
                          rcases hb with h | h
                          · exact HSK.out h
                          · exact symU_le (show symU d k (j + 1) = false by rw [HS.out, hs.out]; simp [h]) (show j + 1 ≤ d.length by omega)
                        have e3 : allU d (k + 1) = false := by rw [allU_succ, symB_eq, e2, Bool.and_false]
                        rw [HW.out, allU_le e3 (show k + 1 ≤ d.length by omega)]; rfl
                      clear HS HSK hzx
                      by_cases hz0 : z = 0
                      · have hb1 : (z != 0) = false := by simpa using hz0
                        by_cases hxy : x = y
                        · have hb2 : (x != y) = false := by simpa using hxy
                          have HN := Lib.hid (NX.out hz0 hxy)
                          clear hz0 hxy NX BAD
                          go_wp2_with fail
                          go_quiet (fail)
                          go_wp2_with fail
                          go_roundw
                          case rel => exact ⟨j + 1, by omega, by go_num, (by first | exact ⟨_, rfl⟩ | exact dn2 _ _ _), HN.out⟩
                          case measure => simp [intOf]; omega
                        · have hb2 : (x != y) = true := by simpa using hxy
                          have HR := Lib.hid (BAD.out (.inr hxy))
                          clear hz0 hxy NX BAD
                          go_wp2_with fail
                          go_quiet (fail)
                          go_wp2_with fail
                          go_ret
                          exact ⟨ret_int HR.out.symm, below_drewN' (below_drewN' hb.out _) _⟩
                      · have hb1 : (z != 0) = true := by simpa using hz0
                        have HR := Lib.hid (BAD.out (.inl hz0))
                        clear hz0 NX BAD
                        go_wp2_with fail
                        go_quiet (fail)
                        go_wp2_with fail
                        go_ret
                        exact ⟨ret_int HR.out.symm, below_drewN' (below_drewN' hb.out _) _⟩
                    · obtain rfl : j = d.length := by omega
                      have HN : Hid (allU d (k + 1) = true) := by show _ = _; rw [allU_succ, hj.out, symB_eq, hs.out]; rfl
                      go_wp2_with fail
                      go_roundw
                      case rel => exact ⟨k + 1, by omega, by go_num, (by first | exact ⟨_, rfl⟩ | exact dn2 _ _ _), HN.out⟩
                      case measure => simp [intOf]; omega
                · obtain rfl : k = d.length := by omega
                  have HR : Hid (yardE tr d = 0) := by show _ = _; rw [HW.out, hj.out]; rfl
                  go_wp2_with fail
                  go_ret
                  exact ⟨ret_int HR.out.symm, below_drewN' hb.out _⟩
end Go.Proofs.YtpbmmdoodmbneaaGreatDoor

/- Contract: the reference's Hours of transport. -/
namespace Go.Proofs.YtpbmmdoodmbneaaGreatDoor
open Go.RowKit Go.Sort

set_option maxHeartbeats 4000000 in
set_option maxRecDepth 100000 in
theorem rHours_any (t : Trk) (v : Value) (d : List (List Int)) (f u : Int) (w : World) (h : SS w v d) :
    Calls Tryz.prog 51 #[.agg #[.string (bs t.name), .int .i64 t.load, .int .i64 t.hours], v, .int .i64 f, .int .i64 u] w (Ret w (.int .i64 (hoursV t d f u))) := by
  obtain ⟨a, cap, rfl, h1, h2, h3⟩ := h.open
  clear h
  have H3 := Lib.hid h3
  clear h3
  have HB : Hid (Below w.heap.size w (w.alloc (.cells #[.string (bs t.name), .int .i64 t.load, .int .i64 t.hours] 36))) := (Below.refl _ _).alloc (Nat.le_refl _) _
  cases z1 : decide (t.hours < 1)
  rotate_left
  · have HR : Hid (hoursV t d f u = 0) := by
      show _ = _; unfold hoursV; rw [if_pos]; simp at z1; omega
    go_enter Tryz.func51, Tryz.ntmps51
    go_wp2_with fail
    go_ret
    exact ⟨ret_int HR.out.symm, HB.out⟩
  cases z2 : decide (100 < t.hours)
  rotate_left
  · have HR : Hid (hoursV t d f u = 0) := by
      show _ = _; unfold hoursV; rw [if_pos]; simp at z2; omega
    go_enter Tryz.func51, Tryz.ntmps51
    go_wp2_with fail
    go_ret
    exact ⟨ret_int HR.out.symm, HB.out⟩
  cases z3 : decide (f < 0)
  rotate_left
  · have HR : Hid (hoursV t d f u = 0) := by
      show _ = _; unfold hoursV; rw [if_pos]; simp at z3; omega
    go_enter Tryz.func51, Tryz.ntmps51
    go_wp2_with fail
    go_ret
    exact ⟨ret_int HR.out.symm, HB.out⟩
  cases z4 : decide ((d.length : Int) ≤ f)
  rotate_left
  · have HR : Hid (hoursV t d f u = 0) := by
      show _ = _; unfold hoursV; rw [if_pos]; simp at z4; omega
    go_enter Tryz.func51, Tryz.ntmps51
    go_wp2_with fail
    go_ret
    exact ⟨ret_int HR.out.symm, HB.out⟩
  obtain ⟨p, rfl⟩ : ∃ p : Nat, f = p := ⟨f.toNat, by simp at z3; omega⟩
  have hp : p < d.length := by simp at z4; omega
  have i1 : (p : Int) < (d.length : Int) := by omega
  obtain ⟨b, off, ra, rc, rfl, hc, e1, e2, e3⟩ := H3.out p hp
  have c1 := cell_keep HB.out hc
  have E3 := Lib.hid e3
  clear e3 hc z3
  cases z5 : decide (u < 0)
  rotate_left
  · have HR : Hid (hoursV t d p u = 0) := by
      show _ = _; unfold hoursV; rw [if_pos]; simp at z5; omega
    generalize ri d p = row at *
    go_enter Tryz.func51, Tryz.ntmps51
    go_wp2_with fail
    go_ret
    exact ⟨ret_int HR.out.symm, HB.out⟩
  cases z6 : decide (((ri d p).length : Int) ≤ u)
  rotate_left
  · have HR : Hid (hoursV t d p u = 0) := by
      show _ = _; unfold hoursV; rw [if_pos]; simp only [Int.toNat_natCast]; simp only [decide_eq_true_eq] at z6; omega
    generalize ri d p = row at *
    go_enter Tryz.func51, Tryz.ntmps51
    go_wp2_with fail
    go_ret
    exact ⟨ret_int HR.out.symm, HB.out⟩
  obtain ⟨q, rfl⟩ : ∃ q : Nat, u = q := ⟨u.toNat, by simp at z5; omega⟩
  have hq : q < (ri d p).length := by simp at z6; omega
  have i2 : (q : Int) < ((ri d p).length : Int) := by omega
  obtain ⟨b2, off2, rfl, hc2⟩ := E3.out q hq
  have c2 := cell_keep HB.out hc2
  clear z5 hc2
  have HV : Hid (hoursV t d p q = if wideB (gi (ri d p) q) = true then 0 else max (t.hours * gi (ri d p) q) 1) := by
    show _ = _; unfold hoursV; rw [if_neg]; rfl
    simp only [decide_eq_false_iff_not, Int.toNat_natCast] at *; omega
  generalize gi (ri d p) q = x at *
  generalize ri d p = row at *
  have hh : 1 ≤ t.hours ∧ t.hours ≤ 100 := by simp only [decide_eq_false_iff_not] at *; omega
  cases y1 : decide (x < 0)
  rotate_left
  · have HR : Hid (hoursV t d p q = 0) := by show _ = _; rw [HV.out, if_pos]; unfold wideB; rw [y1]; rfl
    go_enter Tryz.func51, Tryz.ntmps51
    go_wp2_with fail
    go_ret
    exact ⟨ret_int HR.out.symm, HB.out⟩
  cases y2 : decide (10000 < x)
  rotate_left
  · have HR : Hid (hoursV t d p q = 0) := by show _ = _; rw [HV.out, if_pos]; unfold wideB; rw [y2, Bool.or_true]
    go_enter Tryz.func51, Tryz.ntmps51
    go_wp2_with fail
    go_ret
    exact ⟨ret_int HR.out.symm, HB.out⟩
  have HR : Hid (hoursV t d p q = max 1 (t.hours * x)) := by show _ = _; rw [HV.out, if_neg, Int.max_comm]; unfold wideB; rw [y1, y2]; decide
  have hx : 0 ≤ x ∧ x ≤ 10000 := by simp only [decide_eq_false_iff_not] at *; omega
  have hw : IntKind.i64.wrap (t.hours * x) = t.hours * x := IntWalk.i64_in _ (by
    have h1 : 0 ≤ t.hours * x := Int.mul_nonneg (by omega) hx.1
    have h2 : t.hours * x ≤ 100 * 10000 := Int.mul_le_mul hh.2 hx.2 hx.1 (by omega)
    omega)
  clear hh hx
  go_enter Tryz.func51, Tryz.ntmps51
  go_wp2_with fail
  go_ret
  exact ⟨ret_int HR.out.symm, HB.out⟩
end Go.Proofs.YtpbmmdoodmbneaaGreatDoor
