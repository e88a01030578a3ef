/- Contracts: Covers, behind, all, stations, shop, bound of certify's reference. -/
import Derived.Test.YtehbnckdllbmgaaGreatDoorCerR
import Derived.Test.YtehbnckdllbmgaaGreatDoorCerE
set_option linter.unusedSimpArgs false
set_option linter.unusedVariables false
namespace Go.Proofs.YtehbnckdllbmgaaGreatDoor
open Go.RowKit

theorem all_ri {L : List (List Int)} {p : List Int → Bool} (h : ∀ j, j < L.length → p (ri L j) = true) : L.all p = true := by
  rw [List.all_eq_true]; intro x hx; obtain ⟨j, hj, rfl⟩ := mem_ri hx; exact h j hj
theorem not_all_ri {L : List (List Int)} {p : List Int → Bool} {k : Nat} (hk : k < L.length) (h : p (ri L k) = false) : L.all p = false := by
  rw [List.all_eq_false]; exact ⟨_, ri_mem hk, by simp [h]⟩

set_option maxRecDepth 100000 in
set_option maxHeartbeats 2000000 in
theorem Covers38_any (n : Int) (v : Value) (L : List (List Int)) (w : World) (h : SS w v L) (hl : L.length ≤ 100000) :
    Calls Tryz.prog 16 #[.int .i64 n, v] w (Ret w (.bool (coversV n L))) := by
  have H := Lib.hid h
  obtain ⟨vs, ⟨la, lc, rfl, l1, l2, l3⟩, l4⟩ := h
  have L3 := Lib.hid l3; have L4 := Lib.hid l4
  clear l3 l4
  have hlm : L.length ≤ 9223372036854775807 := by omega
  by_cases n0 : n < 0
  · have HV := Lib.hid (show coversV n L = false by unfold coversV; rw [decide_eq_false (by omega)]; rfl)
    have hd : decide (n < 0) = true := decide_eq_true n0
    clear n0
    go_enter Tryz.func16, Tryz.ntmps16
    go_wp2_with fail
    go_ret
    exact ⟨by rw [HV.out]; rfl, Below.refl _ _⟩
  have hd : decide (n < 0) = false := decide_eq_false n0
  by_cases n1 : 32 < n
  · have HV := Lib.hid (show coversV n L = false by unfold coversV; rw [decide_eq_false (by omega)]; rfl)
    have hd1 : decide (32 < n) = true := decide_eq_true n1
    clear n0 n1
    go_enter Tryz.func16, Tryz.ntmps16
    go_wp2_with fail
    go_ret
    exact ⟨by rw [HV.out]; rfl, Below.refl _ _⟩
  have hd1 : decide (32 < n) = false := decide_eq_false n1
  obtain ⟨N, rfl⟩ : ∃ N : Nat, n = N := ⟨n.toNat, by omega⟩
  have hN : N ≤ 32 := by omega
  have HE : Hid (coversV (N : Int) L = (L.all (rightB N) && covV N N [] L)) := by
    show _ = _
    unfold coversV; rw [decide_eq_true (by omega)]; rfl
  clear n0 n1
  go_enter Tryz.func16, Tryz.ntmps16
  go_wp2_with fail
  clear hd hd1
  go_loopw [5] (fun i wr => ∃ k : Nat, k ≤ L.length ∧ i = .int .i64 k ∧ (∃ m, wr = w.drewN m) ∧ Hid (∀ j, j < k → rightB N (ri L j) = true)) (fun i _ => L.length - (intOf i).toNat)
  case atStart => exact ⟨0, Nat.zero_le _, rfl, ⟨0, rfl⟩, fun j hj => by omega⟩
  case round =>
    obtain ⟨k, hk, rfl, ⟨m, rfl⟩, hj⟩ := hrel
    by_cases hlt : k < L.length
    · obtain ⟨b, off, rfl, hc⟩ := L3.out k hlt
      have sr := L4.out k hlt
      have HSR := Lib.hid sr
      obtain ⟨ra, rc, hr, r1, r2⟩ := sr.sl
      rw [hr] at hc HSR; clear hr sr
      have i0 : (0 : Int) ≤ k := by omega
      have i1 : (k : Int) < L.length := by omega
      have i2 : (k : Int) < lc := by omega
      go_wp2_with fail
      refine (Right38_any _ N (ri L k) _ (by omega) (HSR.out.drewN m)).mono ?_
      rintro e w1 ⟨rfl, m1, rfl⟩
      cases hr : rightB N (ri L k)
      · have HV := Lib.hid (show coversV (N : Int) L = false by rw [HE.out, not_all_ri hlt hr]; rfl)
        clear hr
        go_wp2_with fail
        go_ret
        exact ⟨by rw [HV.out]; rfl, by first | exact below_drewN' (Below.refl _ _) _ | exact below_drewN' (below_drewN' (Below.refl _ _) _) _⟩
      · have HR := Lib.hid hr; clear hr
        go_wp2_with fail
        go_roundw
        case rel => exact ⟨k+1, by omega, by go_num, (by first | exact ⟨_, rfl⟩ | exact dn2 _ _ _), upto hj.out HR.out⟩
        case measure => simp [intOf]; omega
    · obtain rfl : k = L.length := by omega
      have HAL := Lib.hid (all_ri hj.out)
      have HAB : Hid (AllBeg N [] L) := fun l hl => ⟨List.all_eq_true.1 HAL.out l hl, begB_nil l⟩
      have HRN := Lib.hid (show rightB N [] = true by simp [rightB])
      have HV : Hid (coversV (N : Int) L = covV N N [] L) := by show _ = _; rw [HE.out, HAL.out]; rfl
      have HLL := Lib.hid hl
      have HNN := Lib.hid hN
      go_wp2_with fail
      refine (covers38_any N HNN.out N [] L _ _ _ (by simp) HRN.out HAB.out HLL.out (SI_nil _) (H.out.drewN m)).mono ?_
      rintro e w1 ⟨rfl, hb⟩
      have HB := Lib.hid (ext_trans (below_drewN' (Below.refl _ _) m) hb)
      clear hb
      go_wp2_with fail
      go_ret
      exact ⟨by rw [HV.out]; rfl, HB.out⟩

theorem dn3 (w : World) (a b c : Nat) : ∃ k, ((w.drewN a).drewN b).drewN c = w.drewN k := by
  obtain ⟨k, hk⟩ := dn2 w a b
  rw [hk]; exact dn2 _ _ _
theorem behV_ne {a b : List Int} {k : Nat} (h1 : k < a.length) (h2 : k < b.length) (h3 : ∀ i, i < k → gi a i = gi b i) (h4 : gi a k ≠ gi b k) : behV a b = decide (gi b k < gi a k) := by
  unfold behV
  rw [cmpL_ne h2 h1 (fun i hi => (h3 i hi).symm) (Ne.symm h4)]
  have hbg : begB b a = false := by
    cases hh : begB b a
    · rfl
    · exact absurd (begB_gi hh h2) h4
  rw [hbg]
  by_cases h : gi b k < gi a k
  · rw [if_pos h]; simp [h]
  · rw [if_neg h]; simp [h]
theorem behV_pre {a b : List Int} (h : ∀ i, i < a.length → i < b.length → gi a i = gi b i) : behV a b = false := by
  unfold behV
  by_cases hl : b.length ≤ a.length
  · have : begB b a = true := begB_of_gi hl fun k hk => h k (by omega) hk
    rw [this]; simp
  · rw [cmpL_more (by omega) (fun i hi => (h i hi (by omega)).symm)]
    rfl

set_option maxHeartbeats 1000000 in
theorem behind38_any (v u : Value) (xs ys : List Int) (w : World) (h : SI w v xs) (g : SI w u ys) :
    Calls Tryz.prog 49 #[v, u] w fun e w' => e = .returned (.bool (behV xs ys)) ∧ ∃ m, w' = w.drewN m := by
  obtain ⟨a, cap, rfl, h1, h2, h3⟩ := h
  obtain ⟨a', cap', rfl, g1, g2, g3⟩ := g
  have H3 := Lib.hid h3; have G3 := Lib.hid g3
  clear h3 g3
  have hm : xs.length ≤ 9223372036854775807 := by unfold maxLen at h2; omega
  have hm' : ys.length ≤ 9223372036854775807 := by unfold maxLen at g2; omega
  go_enter Tryz.func49, Tryz.ntmps49
  go_wp2_with fail
  go_loopw [5] (fun i wr => ∃ k : Nat, k ≤ xs.length ∧ k ≤ ys.length ∧ i = .int .i64 k ∧ (∃ m, wr = w.drewN m) ∧ Hid (∀ j, j < k → gi xs j = gi ys j)) (fun i _ => xs.length - (intOf i).toNat)
  case atStart => exact ⟨0, Nat.zero_le _, Nat.zero_le _, rfl, ⟨0, rfl⟩, fun j hj => by omega⟩
  case round =>
    obtain ⟨k, hk, hk', rfl, ⟨m, rfl⟩, hj⟩ := hrel
    by_cases hlt : k < xs.length
    · by_cases hlt2 : k < ys.length
      · obtain ⟨b, off, ha, hc⟩ := H3.out k hlt
        obtain ⟨b2, off2, ha2, hc2⟩ := G3.out k (by omega)
        rw [ha, ha2]
        clear ha ha2
        have i1 : (0 : Int) ≤ k := by omega
        have i2 : (k : Int) < xs.length := by omega
        have i3 : (k : Int) < ys.length := by omega
        by_cases c1 : gi xs k = gi ys k
        · have hb1 : (gi xs k != gi ys k) = false := by rw [bne_eq_false_iff_eq]; exact c1
          have C1 := Lib.hid c1
          clear c1
          go_wp2_with fail
          go_quiet (fail)
          go_wp2_with fail
          go_roundw
          case rel => exact ⟨k+1, by omega, by omega, by go_num, (by first | exact ⟨_, rfl⟩ | exact dn2 _ _ _), upto hj.out C1.out⟩
          case measure => simp [intOf]; omega
        · have hb1 : (gi xs k != gi ys k) = true := by rw [bne_iff_ne]; exact c1
          have hf := Lib.hid (behV_ne hlt hlt2 hj.out c1)
          clear c1
          go_wp2_with fail
          go_quiet (fail)
          go_wp2_with fail
          go_quiet (fail)
          go_wp2_with fail
          go_ret
          exact ⟨ret_bool hf.out.symm, (by first | exact ⟨_, rfl⟩ | exact dn2 _ _ _ | exact dn3 _ _ _ _)⟩
      · have i2 : decide ((k : Int) < xs.length) = true := by rw [decide_eq_true_eq]; omega
        have i3 : decide ((k : Int) < ys.length) = false := by rw [decide_eq_false_iff_not]; omega
        have hf := Lib.hid (behV_pre (a := xs) (b := ys) fun i h1 h2 => hj.out i (by omega))
        go_wp2_with fail
        go_ret
        exact ⟨ret_bool hf.out.symm, _, rfl⟩
    · have i2 : decide ((k : Int) < xs.length) = false := by rw [decide_eq_false_iff_not]; omega
      have hf := Lib.hid (behV_pre (a := xs) (b := ys) fun i h1 h2 => hj.out i (by omega))
      go_wp2_with fail
      go_ret
      exact ⟨ret_bool hf.out.symm, _, rfl⟩

set_option maxHeartbeats 1000000 in
theorem all38_any (n : Nat) (hn : n ≤ 100000) (w : World) : Calls Tryz.prog 80 #[.int .i64 n] w (RetOwn w (rangeI n)) := by
  go_enter Tryz.func80, Tryz.ntmps80
  go_wp2_with fail
  go_loopw [3, 4] (fun lv i wr => ∃ k : Nat, k ≤ n ∧ i = .int .i64 k ∧ Hid (Below w.heap.size w wr) ∧ Hid (OwnI wr w.heap.size lv (rangeI k))) (fun _ i _ => n - (intOf i).toNat)
  case atStart => exact ⟨0, Nat.zero_le _, rfl, Below.refl _ _, OwnI_nil _ _⟩
  case round =>
    obtain ⟨k, hk, rfl, hb, ho⟩ := hrel
    by_cases hlt : k < n
    · have hlt' : (k : Int) < n := by omega
      have hbs := hb.out.size
      have hrl := rangeI_length k
      go_wp2_with (at_builtin; refine wpList_app_int rfl (.tmp 10) (.tmp 12) rfl w.heap.size _ _ (rangeI k) [(k : Int)] rfl rfl (ho.out.alloc _) (SI_one _ _ _) (by rw [hrl]; simp; omega) (by simp; omega) ?_)
      intro v2 x2 ho2 hg2 _
      have hb2 : Below w.heap.size w x2 := (hb.out.alloc hbs _).grown hg2 (by simp; omega) (fun k hk => (World.ownsRow.lt ho.out k hk).1)
      rw [← rangeI_succ] at ho2
      have HO2 := Lib.hid ho2; have HX2 := Lib.hid hb2
      clear ho2 hg2 hb2 hrl
      go_wp2_with fail
      go_roundw
      case rel => exact ⟨k+1, by omega, by go_num, HX2, HO2⟩
      case measure => simp [intOf]; omega
    · obtain rfl : k = n := by omega
      go_wp2_with fail
      go_ret
      exact ⟨_, rfl, ho.out, hb.out⟩

theorem stations38_any (v : Value) (p : List (List Int)) (w : World) (h : SS w v p) :
    Calls Tryz.prog 48 #[v] w fun e w' => e = .returned (.int .i64 (stV p)) ∧ ∃ m, w' = w.drewN m := by
  obtain ⟨vs, ⟨a, c, rfl, h1, h2, h3⟩, h4⟩ := h
  by_cases c0 : p.length = 0
  · have hd : ((p.length : Int) == 0) = true := by rw [beq_iff_eq]; omega
    have HV := Lib.hid (show stV p = 1 by unfold stV; rw [if_pos c0])
    clear c0 h3 h4
    go_enter Tryz.func48, Tryz.ntmps48
    go_wp2_with fail
    go_ret
    exact ⟨ret_int HV.out.symm, 0, rfl⟩
  · have hd : ((p.length : Int) == 0) = false := by rw [beq_eq_false_iff_ne]; omega
    have HV := Lib.hid (show stV p = (ri p 0).length by unfold stV; rw [if_neg c0])
    obtain ⟨b, off, rfl, hc⟩ := h3 0 (by omega)
    obtain ⟨ra, rc, hr, r1, r2⟩ := (h4 0 (by omega)).sl
    rw [hr, Nat.add_zero] at hc
    clear hr h3 h4
    have i1 : (0 : Int) < p.length := by omega
    have i2 : (0 : Int) < c := by omega
    clear c0
    go_enter Tryz.func48, Tryz.ntmps48
    go_wp2_with fail
    go_ret
    exact ⟨ret_int HV.out.symm, 0, rfl⟩

theorem shop38_any (v : Value) (p : List (List Int)) (w : World) (h : SS w v p) (hn : p.length ≤ 100000) :
    Calls Tryz.prog 47 #[v] w (Ret w (.int .i64 (checkE p))) := by
  have H := Lib.hid h
  have HF := Lib.hid (finish_plain p)
  obtain ⟨pa, pc, rfl, p1, p2⟩ : ∃ a c, v = .slice a p.length c ∧ p.length ≤ c ∧ c ≤ maxLen := by obtain ⟨vs, ⟨a, c, h1, h2, h3, _⟩, _⟩ := h; exact ⟨a, c, h1, h2, h3⟩
  clear h
  go_enter Tryz.func47, Tryz.ntmps47
  go_wp2_with fail
  refine (all38_any p.length hn w).mono ?_
  rintro e w1 ⟨v1, rfl, ho1, hb1⟩
  obtain ⟨va, vc, rfl, _, _⟩ := (OwnI.si ho1).sl
  have HO1 := Lib.hid ho1; have HB1 := Lib.hid hb1
  clear ho1 hb1
  go_wp2_with fail
  refine (rMakespan_any _ _ p (rangeI p.length) w1 (H.out.keep HB1.out) HO1.out.si).mono ?_
  rintro e w2 ⟨rfl, hb2⟩
  have HB2 := Lib.hid (ext_trans HB1.out hb2)
  clear hb2
  rw [HF.out]
  go_wp2_with fail
  go_ret
  exact ⟨rfl, HB2.out⟩

set_option maxHeartbeats 1000000 in
theorem bound38_any (v u : Value) (p : List (List Int)) (c : Cut) (w : World) (h : SS w v p) (g : SI w u c.1) (hc : checkE p = 0) (hb : badCut p.length (stV p) c = false) :
    Calls Tryz.prog 50 #[v, .agg #[u, .int .i64 c.2]] w (Ret w (.int .i64 (boundC p c))) := by
  have H := Lib.hid h; have G := Lib.hid g
  obtain ⟨c1, c2⟩ := c
  have HCB := Lib.hid (cut_bound hc hb)
  obtain ⟨bc, hbc⟩ : ∃ bc, boundC p (c1, c2) = bc := ⟨_, rfl⟩
  rw [hbc] at HCB ⊢
  clear hbc
  obtain ⟨ua, uc, rfl, u1, u2⟩ := g.sl
  dsimp only at u1 u2 ⊢
  obtain ⟨pa, pc, rfl, p1, p2⟩ : ∃ a c, v = .slice a p.length c ∧ p.length ≤ c ∧ c ≤ maxLen := by obtain ⟨vs, ⟨a, c, h1, h2, h3, _⟩, _⟩ := h; exact ⟨a, c, h1, h2, h3⟩
  clear h g hc hb
  obtain ⟨W8, hW8⟩ : ∃ W8, W8 = w.alloc (.cells #[.slice ua c1.length uc, .int .i64 c2] 54) := ⟨_, rfl⟩
  have hb8 : Below w.heap.size w W8 := by rw [hW8]; exact (Below.refl _ _).alloc (Nat.le_refl _) _
  have p0 : W8.cell? ⟨w.heap.size, 0, none⟩ = some (.slice ua c1.length uc) := by rw [hW8]; exact cell_new rfl rfl
  have q1 : W8.cell? ⟨w.heap.size, 1, none⟩ = some (.int .i64 c2) := by rw [hW8]; exact cell_new rfl rfl
  have HB8 := Lib.hid hb8; clear hb8
  have H8 := Lib.hid (H.out.keep HB8.out); have G8 := Lib.hid (G.out.keep HB8.out)
  by_cases he : c1.length = p.length
  · have hd : ((c1.length : Int) == (p.length : Int)) = true := by rw [beq_iff_eq]; omega
    have HV := Lib.hid (HCB.out.1 he)
    clear he
    go_enter Tryz.func50, Tryz.ntmps50
    go_wp2_with fail
    rw [← hW8]
    refine (rMakespan_any _ _ p c1 W8 H8.out G8.out).mono ?_
    rintro e w6 ⟨rfl, hb7⟩
    have HB7 := Lib.hid (HB8.out.trans (hb7.mono HB8.out.size)); clear hb7 hW8
    go_wp2_with fail
    go_ret
    exact ⟨ret_int HV.out, HB7.out⟩
  · have hd : ((c1.length : Int) == (p.length : Int)) = false := by rw [beq_eq_false_iff_ne]; omega
    have HV := Lib.hid (HCB.out.2 he).2
    clear he
    go_enter Tryz.func50, Tryz.ntmps50
    go_wp2_with fail
    rw [← hW8]
    refine (rBound_any _ _ p c1 c2 W8 H8.out G8.out).mono ?_
    rintro e w6 ⟨rfl, hb7⟩
    have HB7 := Lib.hid (HB8.out.trans (hb7.mono HB8.out.size)); clear hb7 hW8
    go_wp2_with fail
    go_ret
    exact ⟨ret_int HV.out, HB7.out⟩
end Go.Proofs.YtehbnckdllbmgaaGreatDoor
