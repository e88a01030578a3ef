/- Contract: Parse. -/
import Derived.Test.YtbjnpiaooehmjaaDoorCalY
import Derived.Laws.Cover1
namespace Go.Proofs.YtbjnpiaooehmjaaDoor
open Go.RowKit

theorem trim_yes (s : ByteArray) (w : World) (hs : s.size ≤ 1000000) (h : s.data.toList.all digC = true) : Calls Tryd.prog 27 #[.string s, .string digT] w (Ret w (.string ⟨#[]⟩)) := by
  have := trim_any s w hs
  rw [(trim_digs _).2 h] at this
  exact this
theorem trim_no (s : ByteArray) (w : World) (hs : s.size ≤ 1000000) (h : s.data.toList.all digC = false) : Calls Tryd.prog 27 #[.string s, .string digT] w fun e w' => ∃ y : ByteArray, e = .returned (.string y) ∧ y.toList ≠ [] ∧ Below w.heap.size w w' := by
  refine (trim_any s w hs).mono ?_
  rintro e w' ⟨rfl, hb⟩
  refine ⟨_, rfl, ?_, hb⟩
  rw [Go.ByteArray.toList_eq]
  intro e
  have e2 : Lib.trimS s.data.toList digsL = [] := by simpa using e
  rw [(trim_digs _).1 e2] at h; cases h
theorem numL_two (p q : UInt8) : numL [p, q] = 10 * (p.toNat - 48) + (q.toNat - 48) := by unfold numL; simp
theorem gtr23 {p q : UInt8} (hp : digC p = true) (hq : digC q = true) : (!(Op.bytesLess [p, q] [50, 51] || [p, q] == [50, 51])) = decide (23 < 10 * (p.toNat - 48) + (q.toNat - 48)) := by
  obtain ⟨h1, h2⟩ := digC_range hp
  obtain ⟨h3, h4⟩ := digC_range hq
  have e1 := digC_digU hp
  have e2 := digC_digU hq
  have n1 : p.toNat - 48 < 10 := by omega
  have n2 : q.toNat - 48 < 10 := by omega
  have key : ∀ a b : Fin 10, (!(Op.bytesLess [digU a.val, digU b.val] [50, 51] || [digU a.val, digU b.val] == [50, 51])) = decide (23 < 10 * a.val + b.val) := by decide +kernel
  have := key ⟨_, n1⟩ ⟨_, n2⟩
  dsimp only at this
  rw [← e1, ← e2] at this
  exact this
theorem ext_data (s : ByteArray) (a b : Nat) : (s.extract a b).data.toList = (s.data.toList.drop a).take (b - a) := by simp
set_option maxHeartbeats 8000000 in
set_option maxRecDepth 100000 in
theorem Parse_any (s : ByteArray) (w : World) (hs : s.size ≤ 1000000) (hV : VarsC w) : Calls Tryd.prog 14 #[.string s] w (RetNE w (parseV s.data.toList) (parseE s.data.toList)) := by
  have HCUT := Lib.hid (cut_any s w hs hV)
  have HV := Lib.hid hV
  clear hV
  rcases cut_sp s.data.toList with ⟨i, hi, g1, g2, e⟩ | ⟨hno, e⟩
  rotate_left
  · rw [e] at HCUT
    have HN : Hid (parseP s.data.toList = none) := by
      show _ = _
      cases hp : parseP s.data.toList with
      | none => rfl
      | some t => obtain ⟨j, hj⟩ := parse_space hp; exact absurd hj (hno j)
    clear hno e
    go_enter Tryd.func14, Tryd.ntmps14
    go_wp2_with fail
    refine HCUT.out.mono ?_
    rintro e w1 ⟨rfl, n, rfl⟩
    go_wp2_with fail
    go_ret2
    exact ⟨rp_none HN.out, below_drewN' (Below.refl _ _) _⟩
  rw [e] at HCUT
  have HNO := Lib.hid (Cutt.no ⟨g1, g2⟩)
  have HYES := Lib.hid (Cutt.yes ⟨g1, g2⟩)
  have hWl : (s.data.toList.take i).length ≤ 1000000 := by rw [List.length_take, dsz]; omega
  have hRl : (s.data.toList.drop (i + 1)).length ≤ 1000000 := by rw [List.length_drop, dsz]; omega
  clear e g1 g2 hi
  generalize s.data.toList.take i = W at *
  generalize s.data.toList.drop (i + 1) = R at *
  obtain ⟨ws, hws⟩ : ∃ ws : ByteArray, ws = ⟨W.toArray⟩ := ⟨_, rfl⟩
  obtain ⟨rs, hrs⟩ : ∃ rs : ByteArray, rs = ⟨R.toArray⟩ := ⟨_, rfl⟩
  have hwl : ws.data.toList = W := by rw [hws]
  have hrl : rs.data.toList = R := by rw [hrs]
  dsimp only at HCUT
  rw [← hws, ← hrs] at HCUT
  clear hws hrs
  subst hwl hrl
  rw [dsz] at hWl hRl
  have HWB : Hid (∀ j (h : j < ws.size), ws[j] = bi ws j) := Lib.hid fun j h => bi_eq ws h
  have HRB : Hid (∀ j (h : j < rs.size), rs[j] = bi rs j) := Lib.hid fun j h => bi_eq rs h
  go_enter Tryd.func14, Tryd.ntmps14
  go_wp2_with fail
  refine HCUT.out.mono ?_
  rintro e w1 ⟨rfl, n, rfl⟩
  have HB1 : Hid (Below w.heap.size w (w.drewN n)) := Lib.hid (below_drewN' (Below.refl _ _) _)
  clear HCUT
  by_cases c1 : ws.size < 2
  · have HN := Lib.hid (HNO.out fun h => h.w1 (by rw [dsz]; exact c1))
    go_wp2_with fail
    go_ret2
    exact ⟨rp_none HN.out, HB1.out⟩
  have c1d : decide ((ws.size : Int) < 2) = false := by rw [decide_eq_false_iff_not]; omega
  have hw0 := HWB.out 0 (by omega)
  have hw1 := HWB.out 1 (by omega)
  by_cases c2 : ((bi ws 0).toNat : Int) = 119
  rotate_left
  · have HN := Lib.hid (HNO.out fun h => c2 (by have := h.w2; change (bi ws 0).toNat = 119 at this; omega))
    have x1 : (((bi ws 0).toNat : Int) != 119) = true := by rw [bne_iff_ne]; exact c2
    have x2 : (((bi ws 0).toNat : Int) == 119) = false := by rw [beq_eq_false_iff_ne]; exact c2
    clear c2
    go_wp2_with fail
    go_ret2
    exact ⟨rp_none HN.out, HB1.out⟩
  have x1 : (((bi ws 0).toNat : Int) != 119) = false := by rw [bne_eq_false_iff_eq]; exact c2
  have x2 : (((bi ws 0).toNat : Int) == 119) = true := by rw [beq_iff_eq]; exact c2
  have C2 : Hid ((bi ws 0).toNat = 119) := Lib.hid (by omega)
  clear c2
  obtain ⟨y, hy, hyz, hyd⟩ : ∃ y : ByteArray, ws.extract 1 ws.size = y ∧ y.size = ws.size - 1 ∧ y.data.toList = ws.data.toList.drop 1 := ⟨_, rfl, by simp, by rw [ext_data, List.take_of_length_le (by rw [List.length_drop, dsz]; omega)]⟩
  have HYD := Lib.hid hyd
  clear hyd
  have hyz2 : y.size ≤ 1000000 := by omega
  have HYZ := Lib.hid hyz
  clear hyz
  cases hd : y.data.toList.all digC
  · have HN := Lib.hid (HNO.out fun h => by have := h.w3; rw [← HYD.out, hd] at this; cases this)
    have HTR := Lib.hid (trim_no y (w.drewN n) hyz2 hd)
    unfold digT at HTR
    clear hd
    go_wp2_with fail
    refine HTR.out.mono ?_
    rintro e w2 ⟨z, rfl, hz, hb⟩
    have x3 : (z.toList == []) = false := by rw [beq_eq_false_iff_ne]; exact hz
    have x2 : z.toList.isEmpty = false := by rw [List.isEmpty_eq_false_iff]; exact hz
    have HB2 := Lib.hid (ext_trans HB1.out hb)
    clear hb
    go_wp2_with fail
    go_ret2
    exact ⟨rp_none HN.out, HB2.out⟩
  have HTR := Lib.hid (trim_yes y (w.drewN n) hyz2 hd)
  unfold digT at HTR
  have HYA := Lib.hid hd
  clear hd
  go_wp2_with fail
  refine HTR.out.mono ?_
  rintro e w2 ⟨rfl, hb⟩
  have HB2 := Lib.hid (ext_trans HB1.out hb)
  clear hb HTR HB1
  by_cases c5 : rs.size = 6
  rotate_left
  · have HN := Lib.hid (HNO.out fun h => by
      have h4 := h.w4
      have h5 := h.r1
      rw [dsz] at h5
      exact c5 h5)
    have x3 : ((rs.size : Int) != 6) = true := by rw [bne_iff_ne]; omega
    have x4 : ((rs.size : Int) == 6) = false := by rw [beq_eq_false_iff_ne]; omega
    go_wp2_with fail
    all_goals (go_ret2; exact ⟨rp_none HN.out, HB2.out⟩)
  have HNP : Hid (¬ (¬ ((bi ws 1).toNat = 48 ∧ 2 < ws.size) ∧ (bi rs 0).toNat = 100 ∧ 49 ≤ (bi rs 1).toNat ∧ (bi rs 1).toNat ≤ 55 ∧ (bi rs 2).toNat = 32 ∧ (bi rs 5).toNat = 104) → parseP s.data.toList = none) := Lib.hid fun hn => HNO.out fun h => hn ⟨by have := h.w4; rw [dsz] at this; exact this, h.r2, h.r3, h.r4, h.r5, h.r6⟩
  have x3 : ((rs.size : Int) != 6) = false := by rw [bne_eq_false_iff_eq]; omega
  have x4 : ((rs.size : Int) == 6) = true := by rw [beq_iff_eq]; omega
  have r0 := HRB.out 0 (by omega)
  have r1 := HRB.out 1 (by omega)
  have r2 := HRB.out 2 (by omega)
  have r5 := HRB.out 5 (by omega)
  have C5 := Lib.hid c5
  obtain ⟨z, hz, hzz, hzd⟩ : ∃ z : ByteArray, rs.extract 3 5 = z ∧ z.size = 2 ∧ z.data.toList = [bi rs 3, bi rs 4] := ⟨_, rfl, by simp; omega, by
    rw [ext_data]
    have hl : rs.data.toList.length = 6 := by rw [dsz]; exact c5
    unfold bi
    generalize rs.data.toList = R at hl
    match R, hl with
    | [a0, a1, a2, a3, a4, a5], _ => rfl⟩
  have HZD := Lib.hid hzd
  have hs6 : 6 ≤ rs.size := by omega
  clear hzd
  go_wp2_with fail
  all_goals try (go_ret2; exact ⟨rp_none (HNP.out (by omega)), HB2.out⟩)
  all_goals
    have HPS : Hid (¬ ((bi ws 1).toNat = 48 ∧ 2 < ws.size) ∧ (bi rs 0).toNat = 100 ∧ 49 ≤ (bi rs 1).toNat ∧ (bi rs 1).toNat ≤ 55 ∧ (bi rs 2).toNat = 32 ∧ (bi rs 5).toNat = 104) := Lib.hid (by omega)
    cases hd2 : z.data.toList.all digC
    · have HN := Lib.hid (HNO.out fun h => by
        have e1 := h.r7
        have e2 := h.r8
        change digC (bi rs 3) = true at e1
        change digC (bi rs 4) = true at e2
        rw [HZD.out] at hd2
        simp [e1, e2] at hd2)
      refine (trim_no z w2 (by omega) hd2).mono ?_
      rintro e w3 ⟨z2, rfl, hz2, hb⟩
      have x6 : (z2.toList == []) = false := by rw [beq_eq_false_iff_ne]; exact hz2
      have x7 : z2.toList.isEmpty = false := by rw [List.isEmpty_eq_false_iff]; exact hz2
      have HB3 := Lib.hid (ext_trans HB2.out hb)
      clear hb hd2
      go_wp2_with fail
      go_ret2
      exact ⟨rp_none HN.out, HB3.out⟩
    have HDD : Hid (digC (bi rs 3) = true ∧ digC (bi rs 4) = true) := Lib.hid (by rw [HZD.out] at hd2; simpa using hd2)
    have HZA := Lib.hid hd2
    refine (trim_yes z w2 (by omega) hd2).mono ?_
    rintro e w3 ⟨rfl, hb⟩
    have HB3 := Lib.hid (ext_trans HB2.out hb)
    clear hb hd2
    have HG : Hid ((!(Op.bytesLess z.toList [50, 51] || z.toList == [50, 51])) = decide (23 < 10 * ((bi rs 3).toNat - 48) + ((bi rs 4).toNat - 48))) := Lib.hid (by rw [Go.ByteArray.toList_eq, HZD.out]; exact gtr23 HDD.out.1 HDD.out.2)
    go_wp2_with fail
    all_goals try (
      go_ret2
      refine ⟨rp_none (HNO.out fun h => ?_), HB3.out⟩
      have hc : (((bi rs 1).toNat : Int) < 49 ∨ 55 < ((bi rs 1).toNat : Int)) ∨ (!Op.bytesLess z.toList [50, 51]) = true ∧ (!z.toList == [50, 51]) = true := by assumption
      have hc := hc.resolve_left (by have := HPS.out; omega)
      have h9 := h.r9
      change 10 * ((bi rs 3).toNat - 48) + ((bi rs 4).toNat - 48) ≤ 23 at h9
      have hg := HG.out
      simp only [Bool.not_eq_true'] at hc
      rw [hc.1, hc.2] at hg
      simp at hg
      omega)
    have h23 : 10 * ((bi rs 3).toNat - 48) + ((bi rs 4).toNat - 48) ≤ 23 := by
      have hc : (49 ≤ ((bi rs 1).toNat : Int) ∧ ((bi rs 1).toNat : Int) ≤ 55) ∧ ((!Op.bytesLess z.toList [50, 51]) = false ∨ (!z.toList == [50, 51]) = false) := by assumption
      have hc := hc.2
      have hg := HG.out
      rcases hc with hc | hc <;> (simp only [Bool.not_eq_false'] at hc; rw [hc] at hg; simp at hg; omega)
    have HPP := Lib.hid (HYES.out ⟨by rw [dsz]; exact c1, C2.out, by rw [← HYD.out]; exact HYA.out, by rw [dsz]; exact HPS.out.1, by rw [dsz]; exact C5.out, HPS.out.2.1, HPS.out.2.2.1, HPS.out.2.2.2.1, HPS.out.2.2.2.2.1, HPS.out.2.2.2.2.2, HDD.out.1, HDD.out.2, h23⟩)
    have h49 : 49 ≤ (bi rs 1).toNat ∧ (bi rs 1).toNat ≤ 55 := ⟨HPS.out.2.2.1, HPS.out.2.2.2.1⟩
    have d2 := u8_sub (n := 49) h49.1
    simp only [Int.cast_ofNat_Int] at d2
    have HPQ : Hid (parseP s.data.toList = some (168 * numL (ws.data.toList.drop 1) + 24 * ((bi rs 1).toNat - 49) + (10 * ((bi rs 3).toNat - 48) + ((bi rs 4).toNat - 48)))) := HPP
    have HNZ := Lib.hid (numL_two (bi rs 3) (bi rs 4))
    have HYE : Hid (y = ⟨(ws.data.toList.drop 1).toArray⟩) := Lib.hid (by rw [← HYD.out])
    have HZE : Hid (z = ⟨[bi rs 3, bi rs 4].toArray⟩) := Lib.hid (by rw [← HZD.out])
    have HAY : Hid (∀ W, Below w.heap.size w W → Calls Tryd.prog 28 #[.string y] W fun e w' => (numL (ws.data.toList.drop 1) < 9223372036854775808 ∧ e = .returned (.tuple #[.int .i64 (numL (ws.data.toList.drop 1)), .nilIface]) ∨ 9223372036854775808 ≤ numL (ws.data.toList.drop 1) ∧ ∃ n t p, e = .returned (.tuple #[.int .i64 n, .iface t p])) ∧ Below W.heap.size W w') := Lib.hid fun W hW => by
      rw [HYE.out]
      refine atoi_any _ W (by rw [List.length_drop, dsz]; omega) ?_ (by rw [← HYD.out]; exact HYA.out) (HV.out.keep hW)
      intro e
      have := congrArg List.length e
      rw [List.length_drop, dsz, List.length_nil] at this
      omega
    have HAZ : Hid (∀ W, Below w.heap.size w W → Calls Tryd.prog 28 #[.string z] W fun e w' => e = .returned (.tuple #[.int .i64 ((10 * ((bi rs 3).toNat - 48) + ((bi rs 4).toNat - 48) : Nat) : Int), .nilIface]) ∧ Below W.heap.size W w') := Lib.hid fun W hW => by
      rw [HZE.out]
      refine (atoi_any [bi rs 3, bi rs 4] W (by simp) (by simp) (by simp [HDD.out.1, HDD.out.2]) (HV.out.keep hW)).mono ?_
      rintro e w' ⟨hr, hb⟩
      rw [numL_two] at hr
      rcases hr with ⟨_, he⟩ | ⟨hbig, _⟩
      · exact ⟨he, hb⟩
      · exfalso; omega
    clear HG HPP HNZ HZE HYE HPS HNO HYES HNP
    generalize numL (ws.data.toList.drop 1) = N at *
    generalize 10 * ((bi rs 3).toNat - 48) + ((bi rs 4).toNat - 48) = H at *
    obtain ⟨m, hm⟩ : ∃ m, (bi rs 1).toNat - 49 = m := ⟨_, rfl⟩
    rw [hm] at d2 HPQ
    have m6 : m ≤ 6 := by omega
    clear hm h49
    refine (HAY.out _ HB3.out).mono ?_
    rintro e w4 ⟨hr, hb⟩
    have HB4 := Lib.hid (ext_trans HB3.out hb)
    clear hb HAY
    rcases hr with ⟨hN, rfl⟩ | ⟨hN, n, t, p, rfl⟩
    · by_cases hbig : 6241 < N
      · have HN := Lib.hid (rp_late HPQ.out (by omega))
        have y1 : decide ((6241 : Int) < (N : Int)) = true := by rw [decide_eq_true_eq]; omega
        go_wp2_with fail
        go_ret2
        exact ⟨HN.out, HB4.out⟩
      have y1 : decide ((6241 : Int) < (N : Int)) = false := by rw [decide_eq_false_iff_not]; omega
      go_wp2_with fail
      refine (HAZ.out _ HB4.out).mono ?_
      rintro e w5 ⟨rfl, hb⟩
      have HB5 := Lib.hid (ext_trans HB4.out hb)
      clear hb HAZ
      have v3 : IntKind.i64.wrap (m : Int) = m := IntWalk.i64_in _ (by omega)
      have v4 : IntKind.i64.wrap ((N : Int) * 168) = N * 168 := IntWalk.i64_in _ (by omega)
      have v5 : IntKind.i64.wrap ((m : Int) * 24) = m * 24 := IntWalk.i64_in _ (by omega)
      obtain ⟨at_, hat⟩ : ∃ at_ : Nat, at_ = 168 * N + 24 * m + H := ⟨_, rfl⟩
      rw [← hat] at HPQ
      have ha2 : (N : Int) * 168 + (m : Int) * 24 + (H : Int) = at_ := by omega
      have ha3 : at_ ≤ 2000000 := by omega
      have HTM : ∀ W, Hid (Calls Tryd.prog 18 #[.int .i64 (at_ : Int)] W fun e w' => e = .returned (.bool (timeB (at_ : Int))) ∧ w' = W) := fun W => Lib.hid (time_any (at_ : Int) W)
      clear hat
      by_cases e3 : at_ ≤ 1048576
      · have HN := Lib.hid (rp_some HPQ.out rfl (by omega))
        have ht : timeB (at_ : Int) = true := by unfold timeB; simp; omega
        rw [ht] at HTM
        clear ht
        go_wp2_with fail
        refine (HTM _).out.mono ?_
        rintro e w6 ⟨rfl, rfl⟩
        go_wp2_with fail
        go_ret2
        exact ⟨HN.out, HB5.out⟩
      · have HN := Lib.hid (rp_late HPQ.out (by omega))
        have ht : timeB (at_ : Int) = false := by unfold timeB; simp; omega
        rw [ht] at HTM
        clear ht
        go_wp2_with fail
        refine (HTM _).out.mono ?_
        rintro e w6 ⟨rfl, rfl⟩
        go_wp2_with fail
        go_ret2
        exact ⟨HN.out, HB5.out⟩
    · have HN := Lib.hid (rp_late HPQ.out (by omega))
      go_wp2_with fail
      go_ret2
      exact ⟨HN.out, HB4.out⟩
end Go.Proofs.YtbjnpiaooehmjaaDoor
