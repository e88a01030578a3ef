/- Contract of the reference: Parse. -/
import Derived.Test.YtbjnpiaooehmjaaGreatDoorCalW
namespace Go.Proofs.YtbjnpiaooehmjaaGreatDoor
open Go.RowKit

theorem bi_extract {s : ByteArray} {a b j : Nat} (h : a + j < b) (hb : b ≤ s.size) : bi (s.extract a b) j = bi s (a + j) := by
  unfold bi
  rw [List.getD_eq_getElem?_getD, List.getD_eq_getElem?_getD]
  congr 1
  have : (s.extract a b).data.toList = (s.data.toList.drop a).take (b - a) := by simp
  rw [this, List.getElem?_take, if_pos (by omega), List.getElem?_drop]
/-- the last seven bytes are right -/
structure TB (s1 d c s2 p q h : UInt8) : Prop where
  b0 : s1.toNat = 32
  b1 : d.toNat = 100
  b2 : 49 ≤ c.toNat
  b3 : c.toNat ≤ 55
  b4 : s2.toNat = 32
  b5 : digC p = true
  b6 : digC q = true
  b7 : h.toNat = 104
  b8 : 10 * (p.toNat - 48) + (q.toNat - 48) ≤ 23
theorem tail_no {s1 d c s2 p q h : UInt8} {l : List UInt8} {t : Nat} (e : parseP l = if tailB s1 d c s2 p q h = true then some t else none) (hn : ¬ TB s1 d c s2 p q h) : parseP l = none := by
  rw [e, if_neg]
  intro ht
  unfold tailB at ht
  simp only [Bool.and_eq_true, decide_eq_true_eq, beq_iff_eq] at ht
  obtain ⟨⟨⟨⟨⟨⟨⟨⟨g1, g2⟩, g3⟩, g4⟩, g5⟩, g6⟩, g7⟩, g8⟩, g9⟩ := ht
  exact hn ⟨by rw [g1]; rfl, by rw [g2]; rfl, g3, g4, by rw [g5]; rfl, g6, g7, by rw [g8]; rfl, g9⟩
theorem tail_yes {s1 d c s2 p q h : UInt8} {l : List UInt8} {t : Nat} (e : parseP l = if tailB s1 d c s2 p q h = true then some t else none) (hn : TB s1 d c s2 p q h) : parseP l = some t := by
  rw [e, if_pos]
  unfold tailB
  simp only [Bool.and_eq_true, decide_eq_true_eq, beq_iff_eq]
  obtain ⟨g1, g2, g3, g4, g5, g6, g7, g8, g9⟩ := hn
  exact ⟨⟨⟨⟨⟨⟨⟨⟨UInt8.toNat_inj.1 g1, UInt8.toNat_inj.1 g2⟩, g3⟩, g4⟩, UInt8.toNat_inj.1 g5⟩, g6⟩, g7⟩, UInt8.toNat_inj.1 g8⟩, g9⟩
set_option maxHeartbeats 8000000 in
set_option maxRecDepth 100000 in
theorem rParse_any (s : ByteArray) (w : World) (hs : s.size ≤ 1000000) : Calls Tryz.prog 21 #[.string s] w fun e w' => e = .returned (.tuple #[.int .i64 (parseV s.data.toList), .int .i64 (parseE s.data.toList)]) ∧ ∃ m, w' = w.drewN m := by
  go_enter Tryz.func21, Tryz.ntmps21
  go_wp2_with fail
  go_loop [4] (fun i => ∃ k : Nat, 1 ≤ k ∧ (k ≤ s.size ∨ k = 1) ∧ i = .int .i64 k ∧ Hid (∀ j, 1 ≤ j → j < k → digC (bi s j) = true)) (fun i => s.size - (intOf i).toNat)
  case atStart => exact ⟨1, Nat.le_refl _, .inr rfl, rfl, Lib.hid fun j h1 h2 => by omega⟩
  case round =>
    obtain ⟨k, h1, h2, rfl, hj⟩ := hrel
    by_cases hlt : k < s.size
    · have hb := bi_eq s hlt
      have HDG := Lib.hid (digit_any (bi s k) w)
      cases hx : digC (bi s k) with
      | true =>
        rw [hx] at HDG
        have HN : Hid (∀ j, 1 ≤ j → j < k + 1 → digC (bi s j) = true) := Lib.hid fun j g1 g2 => by
          by_cases e : j = k
          · subst e; exact hx
          · exact hj.out j g1 (by omega)
        clear hx
        go_wp2_with fail
        refine HDG.out.mono ?_
        rintro e w1 ⟨rfl, rfl⟩
        go_wp2_with fail
        go_round
        case rel => exact ⟨k + 1, by omega, .inl (by omega), by go_num, HN⟩
        case measure => simp [intOf]; omega
      | false =>
        rw [hx] at HDG
        have HR : Hid (RE s k) := Lib.hid ⟨h1, h2, hj.out, .inr hx⟩
        clear hx hj
        go_wp2_with fail
        refine HDG.out.mono ?_
        rintro e w1 ⟨rfl, rfl⟩
        clear HDG
        by_cases c1 : k < 2
        · have HN := Lib.hid (HR.out.short c1)
          clear hb
          go_wp2_with fail
          go_ret2
          exact ⟨rp_none HN.out, 0, rfl⟩
        have hb0 := bi_eq s (j := 0) (by omega)
        have c1d : decide ((k : Int) < 2) = false := by rw [decide_eq_false_iff_not]; omega
        by_cases c2 : ((bi s 0).toNat : Int) = 119
        rotate_left
        · have HN := Lib.hid (HR.out.first c1 (fun e => c2 (by rw [e]; rfl)))
          have q1 : (((bi s 0).toNat : Int) != 119) = true := by rw [bne_iff_ne]; exact c2
          have q2 : (((bi s 0).toNat : Int) == 119) = false := by rw [beq_eq_false_iff_ne]; exact c2
          clear c2 hb
          go_wp2_with fail
          go_ret2
          exact ⟨rp_none HN.out, 0, rfl⟩
        have H0 := Lib.hid ((u8_eq (n := 119) (by decide)).1 c2)
        have q1 : (((bi s 0).toNat : Int) != 119) = false := by rw [bne_eq_false_iff_eq]; exact c2
        have q2 : (((bi s 0).toNat : Int) == 119) = true := by rw [beq_iff_eq]; exact c2
        clear c2
        have hb1 := bi_eq s (j := 1) (by omega)
        by_cases c3 : 2 < k ∧ ((bi s 1).toNat : Int) = 48
        · obtain ⟨c3, c4⟩ := c3
          have HN := Lib.hid (HR.out.zero c3 ((u8_eq (n := 48) (by decide)).1 c4))
          have q3 : (((bi s 1).toNat : Int) != 48) = false := by rw [bne_eq_false_iff_eq]; exact c4
          have q4 : (((bi s 1).toNat : Int) == 48) = true := by rw [beq_iff_eq]; exact c4
          clear c4 hb
          go_wp2_with fail
          go_ret2
          exact ⟨rp_none HN.out, 0, rfl⟩
        have H1 : Hid (¬ (2 < k ∧ bi s 1 = 48)) := Lib.hid fun e => c3 ⟨e.1, by rw [e.2]; rfl⟩
        have HL : Hid (s.size ≠ k + 7 → parseP s.data.toList = none) := Lib.hid fun e => HR.out.len c1 e
        have HT : Hid (s.size = k + 7 → parseP s.data.toList = if tailB (bi s k) (bi s (k + 1)) (bi s (k + 2)) (bi s (k + 3)) (bi s (k + 4)) (bi s (k + 5)) (bi s (k + 6)) = true then
              some (168 * numL ((s.data.toList.drop 1).take (k - 1)) + 24 * ((bi s (k + 2)).toNat - 49) + (10 * ((bi s (k + 4)).toNat - 48) + ((bi s (k + 5)).toNat - 48))) else none) := Lib.hid fun e => HR.out.tail c1 H0.out H1.out e
        have HRD := Lib.hid HR.out.hd
        clear H1
        by_cases c5 : s.size = k + 7
        rotate_left
        · have HN := Lib.hid (HL.out c5)
          have d7 : ((s.size : Int) != (k : Int) + 7) = true := by rw [bne_iff_ne]; omega
          have d8 : ((s.size : Int) == (k : Int) + 7) = false := by rw [beq_eq_false_iff_ne]; omega
          clear HL HT HR hb
          by_cases c6 : 2 < k
          · have c7 : ¬ ((bi s 1).toNat : Int) = 48 := fun e => c3 ⟨c6, e⟩
            have q3 : (((bi s 1).toNat : Int) != 48) = true := by rw [bne_iff_ne]; exact c7
            have q4 : (((bi s 1).toNat : Int) == 48) = false := by rw [beq_eq_false_iff_ne]; exact c7
            clear c7 c3
            go_wp2_with fail
            go_ret2
            exact ⟨rp_none HN.out, 0, rfl⟩
          · clear c3
            go_wp2_with fail
            go_ret2
            exact ⟨rp_none HN.out, 0, rfl⟩
        replace HT := Lib.hid (HT.out c5)
        have d7 : ((s.size : Int) != (k : Int) + 7) = false := by rw [bne_eq_false_iff_eq]; omega
        have d8 : ((s.size : Int) == (k : Int) + 7) = true := by rw [beq_iff_eq]; omega
        obtain ⟨p, hp, hpz, hpb⟩ : ∃ p : ByteArray, s.extract k s.size = p ∧ p.size = 7 ∧ ∀ j, j < 7 → bi p j = bi s (k + j) := ⟨_, rfl, by simp; omega, fun j hj => bi_extract (by omega) (by omega)⟩
        have p0 := (bi_eq p (j := 0) (by omega)).trans (hpb 0 (by omega))
        have p1 := (bi_eq p (j := 1) (by omega)).trans (hpb 1 (by omega))
        have p2 := (bi_eq p (j := 2) (by omega)).trans (hpb 2 (by omega))
        have p3 := (bi_eq p (j := 3) (by omega)).trans (hpb 3 (by omega))
        have p4 := (bi_eq p (j := 4) (by omega)).trans (hpb 4 (by omega))
        have p5 := (bi_eq p (j := 5) (by omega)).trans (hpb 5 (by omega))
        have p6 := (bi_eq p (j := 6) (by omega)).trans (hpb 6 (by omega))
        clear hpb HL HR hb
        simp only [Nat.add_zero] at p0
        generalize bi s k = r0 at *
        generalize bi s (k + 1) = r1 at *
        generalize bi s (k + 2) = r2 at *
        generalize bi s (k + 3) = r3 at *
        generalize bi s (k + 4) = r4 at *
        generalize bi s (k + 5) = r5 at *
        generalize bi s (k + 6) = r6 at *
        have HC3 := Lib.hid c3
        have HK : Hid (Calls Tryz.prog 42 #[.int .u8 (r4.toNat : Int)] w1 fun e w' => e = .returned (.bool (digC r4)) ∧ w' = w1) := Lib.hid (digit_any r4 w1)
        have HK5 : Hid (Calls Tryz.prog 42 #[.int .u8 (r5.toNat : Int)] w1 fun e w' => e = .returned (.bool (digC r5)) ∧ w' = w1) := Lib.hid (digit_any r5 w1)
        have HW : Hid (∀ (Q : Prop), (2 < k → (((bi s 1).toNat : Int) != 48) = true → (((bi s 1).toNat : Int) == 48) = false → Q) → (¬ 2 < k → Q) → Q) := Lib.hid fun Q h1 h2 => by
          by_cases c6 : 2 < k
          · have c7 : ¬ ((bi s 1).toNat : Int) = 48 := fun e => HC3.out ⟨c6, e⟩
            exact h1 c6 (by rw [bne_iff_ne]; exact c7) (by rw [beq_eq_false_iff_ne]; exact c7)
          · exact h2 c6
        clear c3 HC3
        have HSZ := Lib.hid c5
        have hsz : k + 7 ≤ s.size := by omega
        clear c5
        refine HW.out _ (fun c6 q3 q4 => ?_) (fun c6 => ?_)
        all_goals
          have HNO : Hid (¬ TB r0 r1 r2 r3 r4 r5 r6 → parseP s.data.toList = none) := Lib.hid (tail_no HT.out)
          go_wp2_with fail
          all_goals try (go_ret2; exact ⟨rp_none (HNO.out (fun h => by have := h.b0; have := h.b1; have := h.b2; have := h.b3; have := h.b4; omega)), 0, rfl⟩)
          have H2 : Hid (r0.toNat = 32 ∧ r1.toNat = 100 ∧ 49 ≤ r2.toNat ∧ r2.toNat ≤ 55 ∧ r3.toNat = 32) := Lib.hid (by omega)
          refine HK.out.mono ?_
          rintro e w2 ⟨rfl, rfl⟩
          cases h4 : digC r4
          · have HN := Lib.hid (HNO.out (fun h => by have := h.b5; rw [h4] at this; cases this))
            clear h4
            go_wp2_with fail
            go_ret2
            exact ⟨rp_none HN.out, 0, rfl⟩
          have H4 := Lib.hid h4
          clear h4
          go_wp2_with fail
          refine HK5.out.mono ?_
          rintro e w2 ⟨rfl, rfl⟩
          cases h5 : digC r5
          · have HN := Lib.hid (HNO.out (fun h => by have := h.b6; rw [h5] at this; cases this))
            clear h5
            go_wp2_with fail
            go_ret2
            exact ⟨rp_none HN.out, 0, rfl⟩
          have H5 := Lib.hid h5
          clear h5
          by_cases g7 : (r6.toNat : Int) = 104
          rotate_left
          · have HN := Lib.hid (HNO.out (fun h => g7 (by have := h.b7; omega)))
            have x1 : ((r6.toNat : Int) != 104) = true := by rw [bne_iff_ne]; exact g7
            have x2 : ((r6.toNat : Int) == 104) = false := by rw [beq_eq_false_iff_ne]; exact g7
            clear g7
            go_wp2_with fail
            go_ret2
            exact ⟨rp_none HN.out, 0, rfl⟩
          have g7a : ((r6.toNat : Int) != 104) = false := by rw [bne_eq_false_iff_eq]; exact g7
          have g7b : ((r6.toNat : Int) == 104) = true := by rw [beq_iff_eq]; exact g7
          have g7H : Hid (r6.toNat = 104) := Lib.hid (by omega)
          clear g7
          have d4 := u8_dig H4.out
          have d5 := u8_dig H5.out
          have d2 := u8_sub (n := 49) H2.out.2.2.1
          have n4 := digC_range H4.out
          have n5 := digC_range H5.out
          obtain ⟨a, ha⟩ : ∃ a, r4.toNat - 48 = a := ⟨_, rfl⟩
          obtain ⟨b, hb⟩ : ∃ b, r5.toNat - 48 = b := ⟨_, rfl⟩
          obtain ⟨m, hm⟩ : ∃ m, r2.toNat - 49 = m := ⟨_, rfl⟩
          have HTB : Hid (10 * a + b ≤ 23 → TB r0 r1 r2 r3 r4 r5 r6) := Lib.hid fun h => ⟨H2.out.1, H2.out.2.1, H2.out.2.2.1, H2.out.2.2.2.1, H2.out.2.2.2.2, H4.out, H5.out, g7H.out, by omega⟩
          have HTN : Hid (TB r0 r1 r2 r3 r4 r5 r6 → 10 * a + b ≤ 23) := Lib.hid fun h => by have := h.b8; omega
          rw [ha] at d4 HT
          rw [hb] at d5 HT
          rw [hm] at d2 HT
          simp only [Int.cast_ofNat_Int] at d2
          have a9 : a ≤ 9 := by omega
          have b9 : b ≤ 9 := by omega
          have m6 : m ≤ 6 := by have := H2.out; omega
          clear ha hb hm n4 n5 H2
          have v1 : IntKind.i64.wrap (a : Int) = a := IntWalk.i64_in _ (by omega)
          have v2 : IntKind.i64.wrap (b : Int) = b := IntWalk.i64_in _ (by omega)
          have v3 : IntKind.i64.wrap (m : Int) = m := IntWalk.i64_in _ (by omega)
          have v4 : IntKind.i64.wrap (10 * (a : Int)) = 10 * a := IntWalk.i64_in _ (by omega)
          have v5 : IntKind.i64.wrap (10 * (a : Int) + b) = 10 * a + b := IntWalk.i64_in _ (by omega)
          by_cases g8 : 23 < 10 * (a : Int) + b
          · have HN := Lib.hid (tail_no HT.out (fun h => by have := HTN.out h; omega))
            have x1 : decide (23 < 10 * (a : Int) + b) = true := by rw [decide_eq_true_eq]; exact g8
            go_wp2_with fail
            go_region
            go_wp2_with fail
            go_ret2
            exact ⟨rp_none HN.out, 1, rfl⟩
          have x1 : decide (23 < 10 * (a : Int) + b) = false := by rw [decide_eq_false_iff_not]; exact g8
          have HP := Lib.hid (tail_yes HT.out (HTB.out (by omega)))
          clear HT HTB HTN
          have HDL : Hid (((s.data.toList.drop 1).take (k - 1)).length = k - 1) := Lib.hid (by simp; omega)
          have HDB : Hid (∀ i, 1 ≤ i → i < k → ((s.data.toList.drop 1).take (k - 1)).getD (i - 1) 0 = bi s i) := Lib.hid fun i h1 h2 => by
            unfold bi
            rw [List.getD_eq_getElem?_getD, List.getD_eq_getElem?_getD, List.getElem?_take, if_pos (by omega), List.getElem?_drop, show 1 + (i - 1) = i by omega]
          generalize (s.data.toList.drop 1).take (k - 1) = D at HP HDL HDB
          clear H4 H5
          go_wp2_with fail
          go_region
          go_wp2_with fail
          go_loop [7, 8] (fun x y => ∃ W i : Nat, 1 ≤ i ∧ i ≤ k ∧ x = .int .i64 W ∧ y = .int .i64 i ∧ W ≤ 10485769 ∧ Hid (W = numL (D.take (i - 1)))) (fun _ y => k - (intOf y).toNat)
          case atStart => exact ⟨0, 1, Nat.le_refl _, h1, rfl, rfl, by omega, by show 0 = numL (D.take 0); rw [List.take_zero]; rfl⟩
          case round =>
            obtain ⟨W, i, i1, i2, rfl, rfl, hW, HWN⟩ := hrel
            have HEND : Hid ((i = k ∨ 1048576 < W) → ∀ at_ : Nat, at_ = 168 * W + 24 * m + (10 * a + b) → (at_ ≤ 1048576 → Ending.returned (.tuple #[.int .i64 (at_ : Int), .int .i64 0]) = .returned (.tuple #[.int .i64 (parseV s.data.toList), .int .i64 (parseE s.data.toList)])) ∧ (1048576 < at_ → Ending.returned (.tuple #[.int .i64 0, .int .i64 9]) = .returned (.tuple #[.int .i64 (parseV s.data.toList), .int .i64 (parseE s.data.toList)]))) := Lib.hid fun hc at_ hat => by
              have hle : W ≤ numL D := by rw [HWN.out]; exact numL_mono D _
              constructor
              · intro hsm
                have hik : i = k := by omega
                have : W = numL D := by rw [HWN.out, hik, List.take_of_length_le (by rw [HDL.out]; omega)]
                exact rp_some HP.out (by omega) (by omega)
              · intro hbg
                exact rp_late HP.out (by omega)
            by_cases e1 : i < k
            · by_cases e2 : W ≤ 1048576
              · have hc := bi_eq s (j := i) (by omega)
                have HDI := Lib.hid (HRD.out i i1 e1)
                have dI := u8_dig HDI.out
                have nI := digC_range HDI.out
                have HNX := Lib.hid (numL_take (ds := D) (n := i - 1) (by rw [HDL.out]; omega))
                rw [HDB.out i i1 e1, ← HWN.out, show i - 1 + 1 = i by omega] at HNX
                obtain ⟨c, hc2⟩ : ∃ c, (bi s i).toNat - 48 = c := ⟨_, rfl⟩
                rw [hc2] at dI HNX
                have c9 : c ≤ 9 := by omega
                have vc : IntKind.i64.wrap (c : Int) = c := IntWalk.i64_in _ (by omega)
                clear nI hc2 HEND
                go_wp2_with fail
                go_round
                case rel => exact ⟨10 * W + c, i + 1, by omega, by omega, by go_num, by go_num, by omega, by show _ = _; rw [show i + 1 - 1 = i by omega]; exact HNX.out.symm⟩
                case measure => simp [intOf]; omega
              · have HE := Lib.hid (HEND.out (.inr (by omega)))
                clear HEND
                obtain ⟨at_, hat⟩ : ∃ at_ : Nat, at_ = 168 * W + 24 * m + (10 * a + b) := ⟨_, rfl⟩
                have HEE := Lib.hid (HE.out at_ hat)
                have ha2 : 168 * (W : Int) + 24 * (m : Int) + (10 * (a : Int) + (b : Int)) = at_ := by omega
                have HTM : ∀ W, Hid (Calls Tryz.prog 24 #[.int .i64 (at_ : Int)] W fun e w' => e = .returned (.bool (timeB (at_ : Int))) ∧ w' = W) := fun W => Lib.hid (Time_any (at_ : Int) W)
                clear HE hat
                by_cases e3 : at_ ≤ 1048576
                · exfalso; omega
                · have HN := Lib.hid (HEE.out.2 (by omega))
                  have ht : timeB (at_ : Int) = false := by unfold timeB; simp; omega
                  rw [ht] at HTM
                  clear ht HEE
                  go_wp2_with fail
                  refine (HTM _).out.mono ?_
                  rintro e w2 ⟨rfl, rfl⟩
                  go_wp2_with fail
                  go_ret2
                  exact ⟨HN.out, 1, rfl⟩
            · have HE := Lib.hid (HEND.out (.inl (by omega)))
              clear HEND
              obtain ⟨at_, hat⟩ : ∃ at_ : Nat, at_ = 168 * W + 24 * m + (10 * a + b) := ⟨_, rfl⟩
              have HEE := Lib.hid (HE.out at_ hat)
              have ha2 : 168 * (W : Int) + 24 * (m : Int) + (10 * (a : Int) + (b : Int)) = at_ := by omega
              have HTM : ∀ W, Hid (Calls Tryz.prog 24 #[.int .i64 (at_ : Int)] W fun e w' => e = .returned (.bool (timeB (at_ : Int))) ∧ w' = W) := fun W => Lib.hid (Time_any (at_ : Int) W)
              clear HE hat
              by_cases e3 : at_ ≤ 1048576
              · have HN := Lib.hid (HEE.out.1 e3)
                have ht : timeB (at_ : Int) = true := by unfold timeB; simp; omega
                rw [ht] at HTM
                clear ht HEE
                go_wp2_with fail
                refine (HTM _).out.mono ?_
                rintro e w2 ⟨rfl, rfl⟩
                go_wp2_with fail
                go_ret2
                exact ⟨HN.out, 1, rfl⟩
              · have HN := Lib.hid (HEE.out.2 (by omega))
                have ht : timeB (at_ : Int) = false := by unfold timeB; simp; omega
                rw [ht] at HTM
                clear ht HEE
                go_wp2_with fail
                refine (HTM _).out.mono ?_
                rintro e w2 ⟨rfl, rfl⟩
                go_wp2_with fail
                go_ret2
                exact ⟨HN.out, 1, rfl⟩
    · have HR : Hid (RE s k) := Lib.hid ⟨h1, h2, hj.out, .inl (by omega)⟩
      have HN : Hid (parseP s.data.toList = none) := by
        show _ = _
        by_cases c1 : k < 2
        · exact HR.out.short c1
        · exact HR.out.len c1 (by omega)
      clear hj HR
      by_cases c1 : k < 2
      · go_wp2_with fail
        go_ret2
        exact ⟨rp_none HN.out, 0, rfl⟩
      have hb0 := bi_eq s (j := 0) (by omega)
      by_cases c2 : ((bi s 0).toNat : Int) = 119
      rotate_left
      · have q1 : (((bi s 0).toNat : Int) != 119) = true := by rw [bne_iff_ne]; exact c2
        have q2 : (((bi s 0).toNat : Int) == 119) = false := by rw [beq_eq_false_iff_ne]; exact c2
        clear c2
        go_wp2_with fail
        go_ret2
        exact ⟨rp_none HN.out, 0, rfl⟩
      have q1 : (((bi s 0).toNat : Int) != 119) = false := by rw [bne_eq_false_iff_eq]; exact c2
      have q2 : (((bi s 0).toNat : Int) == 119) = true := by rw [beq_iff_eq]; exact c2
      clear c2
      have d7 : ((s.size : Int) != (k : Int) + 7) = true := by rw [bne_iff_ne]; omega
      have d8 : ((s.size : Int) == (k : Int) + 7) = false := by rw [beq_eq_false_iff_ne]; omega
      by_cases c3 : 2 < k
      · have hb1 := bi_eq s (j := 1) (by omega)
        by_cases c4 : ((bi s 1).toNat : Int) = 48
        · have q3 : (((bi s 1).toNat : Int) != 48) = false := by rw [bne_eq_false_iff_eq]; exact c4
          have q4 : (((bi s 1).toNat : Int) == 48) = true := by rw [beq_iff_eq]; exact c4
          clear c4
          go_wp2_with fail
          go_ret2
          exact ⟨rp_none HN.out, 0, rfl⟩
        · have q3 : (((bi s 1).toNat : Int) != 48) = true := by rw [bne_iff_ne]; exact c4
          have q4 : (((bi s 1).toNat : Int) == 48) = false := by rw [beq_eq_false_iff_ne]; exact c4
          clear c4
          go_wp2_with fail
          go_ret2
          exact ⟨rp_none HN.out, 0, rfl⟩
      · go_wp2_with fail
        go_ret2
        exact ⟨rp_none HN.out, 0, rfl⟩
end Go.Proofs.YtbjnpiaooehmjaaGreatDoor
