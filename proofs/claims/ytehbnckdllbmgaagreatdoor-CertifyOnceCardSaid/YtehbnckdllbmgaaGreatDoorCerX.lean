/- Contracts: next and begins of certify's laws. -/
import Derived.Test.YtehbnckdllbmgaaGreatDoorCerE
import Derived.Test.YtehbnckdllbmgaaGreatDoorCerOp
set_option linter.unusedSimpArgs false
set_option linter.unusedVariables false
namespace Go.Proofs.YtehbnckdllbmgaaGreatDoor
open Go.RowKit

theorem downI_stop {l : List Int} {i : Nat} (h : ¬ gi l (i + 1) < gi l i) : downI l (i + 1) = i + 1 := by simp [downI, h]
theorem downI_go {l : List Int} {i : Nat} (h : gi l (i + 1) < gi l i) : downI l (i + 1) = downI l i := by simp [downI, h]
theorem downK_stop {l : List Int} {x : Int} {k : Nat} (h : ¬ gi l (k + 1) < x) : downK l x (k + 1) = k + 1 := by simp [downK, h]
theorem downK_go {l : List Int} {x : Int} {k : Nat} (h : gi l (k + 1) < x) : downK l x (k + 1) = downK l x k := by simp [downK, h]
theorem nextV_none {l : List Int} (h : downI l (l.length - 1) = 0) : nextV l = none := by unfold nextV; rw [h]
theorem nextV_some {l : List Int} {i K : Nat} (h : downI l (l.length - 1) = i + 1) (hk : downK l (gi l i) (l.length - 1) = K) : nextV l = some (l.take i ++ [gi l K] ++ backL l i K (l.length - 1 - i)) := by unfold nextV; rw [h]; simp only [hk]
/-- It returns a slice of integers and whether there is one. -/
def RetN (w : World) (r : Option (List Int)) (e : Ending) (w' : World) : Prop := ∃ v, e = .returned (.tuple #[v, .bool r.isSome]) ∧ SI w' v (r.getD []) ∧ Below w.heap.size w w'

theorem lbegins_any (v u : Value) (l p : List Int) (w : World) (h : SI w v l) (g : SI w u p) :
    Calls Tryz.prog 33 #[v, u] w fun e w' => e = .returned (.bool (begB p l)) ∧ ∃ m, w' = w.drewN m := by
  have H := Lib.hid h; have G := Lib.hid g
  obtain ⟨a, cap, rfl, h1, h2, _⟩ := h
  obtain ⟨a', cap', rfl, g1, g2, _⟩ := g
  by_cases c : p.length ≤ l.length
  · have HT := Lib.hid (H.out.take p.length c)
    have HV := Lib.hid (show decide (l.take p.length = p) = begB p l from rfl)
    have hd : decide ((p.length : Int) ≤ l.length) = true := by rw [decide_eq_true_eq]; omega
    have i1 : (p.length : Int) ≤ cap := by omega
    go_enter Tryz.func33, Tryz.ntmps33
    go_wp2_with fail
    refine (same38_any _ _ _ _ _ HT.out G.out).mono ?_
    rintro e w1 ⟨rfl, m1, rfl⟩
    rw [HV.out]
    go_wp2_with fail
    go_ret
    exact ⟨rfl, (by first | exact ⟨_, rfl⟩ | exact dn2 _ _ _)⟩
  · have hf := Lib.hid (show begB p l = false by
      cases hh : begB p l
      · rfl
      · exact absurd (begB_len hh) c)
    have hd : decide ((p.length : Int) ≤ l.length) = false := by rw [decide_eq_false_iff_not]; omega
    go_enter Tryz.func33, Tryz.ntmps33
    go_wp2_with fail
    go_ret
    exact ⟨ret_bool hf.out.symm, 0, rfl⟩

set_option maxRecDepth 100000 in
set_option maxHeartbeats 2000000 in
theorem lnext_any (v : Value) (l : List Int) (w : World) (h : SI w v l) (hl : l.length ≤ 1000) :
    Calls Tryz.prog 32 #[v] w (RetN w (nextV l)) := by
  have H := Lib.hid h
  obtain ⟨a, c, rfl, h1, h2, h3⟩ := h
  have H3 := Lib.hid h3; clear h3
  have HST : Hid (((l.length : Int) - 2 < 0 ∧ nextV l = none) ∨ ∃ j : Nat, (l.length : Int) - 2 = j ∧ j + 1 < l.length ∧ downI l (l.length - 1) = downI l (j + 1)) := by
    by_cases h0 : l.length ≤ 1
    · exact .inl ⟨by omega, nextV_none (by rw [show l.length - 1 = 0 by omega]; rfl)⟩
    · exact .inr ⟨l.length - 2, by omega, by omega, by rw [show l.length - 2 + 1 = l.length - 1 by omega]⟩
  have hb2 : -9223372036854775808 ≤ (l.length : Int) - 2 ∧ (l.length : Int) - 2 ≤ 9223372036854775807 := by omega
  have hb3 : -9223372036854775808 ≤ (l.length : Int) - 1 ∧ (l.length : Int) - 1 ≤ 9223372036854775807 := by omega
  go_enter Tryz.func32, Tryz.ntmps32
  go_wp2_with fail
  go_loopw [4] (fun s4 wr => ∃ i : Int, -2 ≤ i ∧ i ≤ 1000 ∧ s4 = .int .i64 i ∧ (∃ m, wr = w.drewN m) ∧ Hid ((i < 0 ∧ nextV l = none) ∨ ∃ j : Nat, i = j ∧ j + 1 < l.length ∧ downI l (l.length - 1) = downI l (j + 1))) (fun s4 _ => (intOf s4 + 2).toNat)
  case atStart => exact ⟨_, by omega, by omega, rfl, ⟨0, rfl⟩, HST.out⟩
  case round =>
    obtain ⟨i, hi0, hi5, rfl, ⟨m, rfl⟩, hj⟩ := hrel
    by_cases hneg : i < 0
    · have hd : decide (0 ≤ i) = false := by rw [decide_eq_false_iff_not]; omega
      have HV : Hid (nextV l = none) := by
        rcases hj.out with h | ⟨j, rfl, _⟩
        · exact h.2
        · omega
      go_wp2_with fail
      go_quiet (fail)
      go_wp2_with fail
      refine bodyPost_ret (v := .tuple #[.slice none 0 0, .bool false]) (by simp [results, Tryz.results32, go_sem]) rfl ?_
      rw [HV.out]
      exact ⟨_, rfl, SI_nil _, by first | exact below_drewN' (Below.refl _ _) _ | exact below_drewN' (below_drewN' (Below.refl _ _) _) _⟩
    · obtain ⟨j, rfl, hj1, hj2⟩ : ∃ j : Nat, i = j ∧ j + 1 < l.length ∧ downI l (l.length - 1) = downI l (j + 1) := by
        rcases hj.out with h | h
        · omega
        · exact h
      have HJ2 := Lib.hid hj2
      have hd : decide (0 ≤ (j : Int)) = true := by rw [decide_eq_true_eq]; omega
      obtain ⟨b, off, rfl, hc0⟩ := H3.out j (by omega)
      obtain ⟨b', off', e1, hc1⟩ := H3.out (j + 1) (by omega)
      simp only [Option.some.injEq, Addr.mk.injEq] at e1
      obtain ⟨rfl, rfl, _⟩ := e1
      have i1 : (j : Int) < l.length := by omega
      have i2 : (j : Int) < c := by omega
      have i3 : (j : Int) + 1 < l.length := by omega
      have i4 : (j : Int) + 1 < c := by omega
      have i5 : (0 : Int) ≤ (j : Int) + 1 := by omega
      clear hj hj2
      by_cases hlt : gi l (j + 1) < gi l j
      · have hd2 : decide (gi l (j + 1) < gi l j) = true := decide_eq_true hlt
        have HN : Hid (((j : Int) - 1 < 0 ∧ nextV l = none) ∨ ∃ j' : Nat, (j : Int) - 1 = j' ∧ j' + 1 < l.length ∧ downI l (l.length - 1) = downI l (j' + 1)) := by
          have h3 := HJ2.out.trans (downI_go hlt)
          cases j with
          | zero => exact .inl ⟨by omega, nextV_none h3⟩
          | succ j => exact .inr ⟨j, by omega, by omega, h3⟩
        clear hlt
        go_wp2_with fail
        go_quiet (fail)
        go_wp2_with fail
        go_roundw
        case rel => exact ⟨(j : Int) - 1, by omega, by omega, rfl, (by first | exact ⟨_, rfl⟩ | exact dn2 _ _ _), HN⟩
        case measure => simp [intOf]; omega
      · have hd2 : decide (gi l (j + 1) < gi l j) = false := decide_eq_false hlt
        have HD := Lib.hid (HJ2.out.trans (downI_stop hlt))
        have HNL := Lib.hid hlt
        clear hlt
        go_wp2_with fail
        go_quiet (fail)
        obtain ⟨W, hW⟩ : ∃ W, W = (w.drewN m).drewN nq := ⟨_, rfl⟩
        rw [← hW]
        have HBW : Hid (Below w.heap.size w W) := by rw [hW]; exact below_drewN' (below_drewN' (Below.refl _ _) _) _
        have HSW := Lib.hid (H.out.keep HBW.out)
        have hc0' := cell_keep HBW.out hc0
        have hx0 : 0 ≤ (j : Int) := by omega
        clear hW hc0 hc1 hd2
        have HLT := Lib.hid (H.out.take j (by omega))
        have HLTW := Lib.hid (HLT.out.keep HBW.out)
        go_wp2_with (at_builtin; refine wpList_app_int rfl (.tmp 29) (.tmp 32) rfl W.heap.size _ _ [] (l.take j) rfl rfl (OwnI_empty _ _ (Nat.le_refl _)) (HLTW.out.alloc _) (by simp; omega) (by simp) ?_)
        intro v1 x1 ho1 hg1 _
        have hb1 : Below W.heap.size W x1 := ((Below.refl _ _).alloc (Nat.le_refl _) _).grown hg1 (by simp) (fun k hk => (World.ownsRow.lt (OwnI_empty W W.heap.size (Nat.le_refl _)) k hk).1)
        replace ho1 : OwnI x1 W.heap.size v1 (l.take j) := ho1
        have HO1 := Lib.hid ho1; have HX1 := Lib.hid hb1
        have HBX := Lib.hid (ext_trans HBW.out hb1)
        clear ho1 hg1 hb1 hd hc0'
        have hcj := cell_keep HBX.out (show w.cell? ⟨b, off + j, none⟩ = some (.int .i64 (gi l j)) from by obtain ⟨b', off', e1, hc⟩ := H3.out j (by omega); simp only [Option.some.injEq, Addr.mk.injEq] at e1; obtain ⟨rfl, rfl, _⟩ := e1; exact hc)
        have HCJ := Lib.hid hcj
        clear hcj
        obtain ⟨x, hx⟩ : ∃ x, x = gi l j := ⟨_, rfl⟩
        rw [← hx] at HCJ HNL
        have HX := Lib.hid hx
        clear hx
        go_wp2_with fail
        go_loopw [6] (fun s6 wr => ∃ K : Nat, j + 1 ≤ K ∧ K < l.length ∧ s6 = .int .i64 K ∧ (∃ m, wr = x1.drewN m) ∧ Hid (downK l x (l.length - 1) = downK l x K)) (fun s6 _ => (intOf s6).toNat)
        case atStart => exact ⟨l.length - 1, by omega, by omega, by rw [show ((l.length - 1 : Nat) : Int) = (l.length : Int) - 1 by omega], ⟨0, rfl⟩, rfl⟩
        case round =>
          obtain ⟨K, hK1, hK2, rfl, ⟨q, rfl⟩, hdk⟩ := hrel
          obtain ⟨b', off', e1, hcK⟩ := H3.out K hK2
          simp only [Option.some.injEq, Addr.mk.injEq] at e1
          obtain ⟨rfl, rfl, _⟩ := e1
          have hcK1 := cell_keep HBX.out hcK
          have hcj := HCJ.out
          clear hcK
          have k0 : (0 : Int) ≤ K := by omega
          have k1 : (K : Int) < l.length := by omega
          have k2 : (K : Int) < c := by omega
          by_cases hlt : gi l K < x
          · have hd2 : decide (gi l K < x) = true := decide_eq_true hlt
            obtain ⟨K', rfl⟩ : ∃ K', K = K' + 1 := ⟨K - 1, by omega⟩
            have HN := Lib.hid (hdk.out.trans (downK_go hlt))
            have hne : j + 1 ≤ K' := by
              by_cases e : K' = j
              · subst e; have := HNL.out; omega
              · omega
            clear hlt hdk
            go_wp2_with fail
            go_quiet (fail)
            go_wp2_with fail
            go_roundw
            case rel => exact ⟨K', by omega, by omega, (by first | rfl | go_num), (by first | exact ⟨_, rfl⟩ | exact dn2 _ _ _), HN⟩
            case measure => (simp [intOf] <;> omega)
          · have hd2 : decide (gi l K < x) = false := decide_eq_false hlt
            have HDK : Hid (downK l x (l.length - 1) = K) := by
              obtain ⟨K', rfl⟩ : ∃ K', K = K' + 1 := ⟨K - 1, by omega⟩
              exact hdk.out.trans (downK_stop hlt)
            clear hlt hdk
            go_wp2_with fail
            go_quiet (fail)
            obtain ⟨Y, hY⟩ : ∃ Y, Y = (x1.drewN q).drewN nq := ⟨_, rfl⟩
            rw [← hY]
            have HXY : Hid (Below W.heap.size W Y) := by rw [hY]; exact below_drewN' (below_drewN' HX1.out _) _
            have HBY := Lib.hid (ext_trans HBW.out HXY.out)
            have HOY : Hid (OwnI Y W.heap.size v1 (l.take j)) := by rw [hY]; exact HO1.out.below (below_drewN' (below_drewN' (Below.refl _ _) _) _)
            clear hY hcK1 hcj hd2
            obtain ⟨b', off', e1, hcK⟩ := H3.out K (by omega)
            simp only [Option.some.injEq, Addr.mk.injEq] at e1
            obtain ⟨rfl, rfl, _⟩ := e1
            have hcKY := cell_keep HBY.out hcK
            clear hcK
            have hys := HXY.out.size
            go_wp2_with (at_builtin; refine wpList_app_int rfl (.tmp 48) (.tmp 53) rfl W.heap.size _ _ (l.take j) [gi l K] rfl rfl (HOY.out.alloc _) (SI_one _ _ _) (by simp; omega) (by simp; omega) ?_)
            intro v2 x2 ho2 hg2 _
            have hb2 : Below W.heap.size W x2 := (HXY.out.alloc hys _).grown hg2 (by simp; omega) (fun k hk => (World.ownsRow.lt HOY.out k hk).1)
            have HO2 := Lib.hid ho2; have HX2 := Lib.hid hb2
            clear ho2 hg2 hb2 hcKY
            have HV : Hid (nextV l = some (l.take j ++ [gi l K] ++ backL l j K (l.length - 1 - j))) := nextV_some HD.out (by rw [← HX.out]; exact HDK.out)
            go_wp2_with fail
            go_loopw [5, 7] (fun s5 s7 wr => ∃ (m : Nat) (r : List Int), j + m < l.length ∧ s7 = .int .i64 (j + m : Nat) ∧ r.length + m ≤ 2000 ∧ Hid (Below W.heap.size W wr) ∧ Hid (OwnI wr W.heap.size s5 r) ∧ Hid (r ++ backL l j K m = l.take j ++ [gi l K] ++ backL l j K (l.length - 1 - j))) (fun _ s7 _ => (intOf s7).toNat)
            case atStart => exact ⟨l.length - 1 - j, l.take j ++ [gi l K], by omega, by rw [show ((j + (l.length - 1 - j) : Nat) : Int) = (l.length : Int) - 1 by omega], by simp; omega, HX2.out, HO2.out, rfl⟩
            case round =>
              obtain ⟨m, r, hm1, rfl, hr2, hbw, how, hrr⟩ := hrel
              have HBY := Lib.hid (ext_trans HBW.out hbw.out)
              have hys := hbw.out.size
              cases m with
              | zero =>
                have hd3 : decide ((j : Int) < ((j + 0 : Nat) : Int)) = false := by rw [decide_eq_false_iff_not]; omega
                have HRR : Hid (r = l.take j ++ [gi l K] ++ backL l j K (l.length - 1 - j)) := by have := hrr.out; rw [show backL l j K 0 = [] from rfl, List.append_nil] at this; exact this
                obtain ⟨va, vc, rfl, _, _⟩ := how.out.si.sl
                go_wp2_with fail
                refine bodyPost_ret (v := .tuple #[.slice va r.length vc, .bool true]) (by simp [results, Tryz.results32, go_sem]) rfl ?_
                rw [HV.out, ← HRR.out]
                exact ⟨_, rfl, how.out.si, HBY.out⟩
              | succ m =>
                have hd3 : decide ((j : Int) < ((j + (m + 1) : Nat) : Int)) = true := by rw [decide_eq_true_eq]; omega
                obtain ⟨q, hq⟩ : ∃ q, q = j + (m + 1) := ⟨_, rfl⟩
                have hqm : ((q : Nat) : Int) - 1 = ((j + m : Nat) : Int) := by omega
                have hq0 : (0 : Int) ≤ q := by omega
                have hq1 : (q : Int) < l.length := by omega
                have hq2 : (q : Int) < c := by omega
                rw [← hq] at hd3 ⊢
                by_cases hqK : q = K
                · have hd4 : ((q : Int) == (K : Int)) = true := by rw [beq_iff_eq]; omega
                  have HN : Hid ((r ++ [gi l j]) ++ backL l j K m = l.take j ++ [gi l K] ++ backL l j K (l.length - 1 - j)) := by
                    have := hrr.out
                    rw [show backL l j K (m + 1) = gi l j :: backL l j K m by show (if j + (m + 1) = K then gi l j else _) :: _ = _; rw [if_pos (by omega)]] at this
                    show _ = _
                    rw [List.append_assoc]; exact this
                  clear hqK hq
                  obtain ⟨b', off', e1, hcy⟩ := H3.out j (by omega)
                  simp only [Option.some.injEq, Addr.mk.injEq] at e1
                  obtain ⟨rfl, rfl, _⟩ := e1
                  have hcy1 := cell_keep HBY.out hcy
                  clear hcy
                  go_wp2_with (at_builtin; refine wpList_app_int rfl (.tmp 66) (.tmp 71) rfl W.heap.size _ _ r [gi l j] rfl rfl (how.out.alloc _) (SI_one _ _ _) (by simp; omega) (by simp; omega) ?_)
                  intro v3 x3 ho3 hg3 _
                  have hb3 : Below W.heap.size W x3 := (hbw.out.alloc hys _).grown hg3 (by simp; omega) (fun k hk => (World.ownsRow.lt how.out k hk).1)
                  have HO3 := Lib.hid ho3; have HX3 := Lib.hid hb3
                  clear ho3 hg3 hb3 hcy1
                  go_wp2_with fail
                  go_roundw
                  case rel => exact ⟨m, r ++ [gi l j], by omega, (by congr 1 <;> omega), by simp; omega, HX3, HO3, HN⟩
                  case measure => simp [intOf]; omega
                · have hd4 : ((q : Int) == (K : Int)) = false := by rw [beq_eq_false_iff_ne]; omega
                  have HN : Hid ((r ++ [gi l q]) ++ backL l j K m = l.take j ++ [gi l K] ++ backL l j K (l.length - 1 - j)) := by
                    have := hrr.out
                    rw [show backL l j K (m + 1) = gi l q :: backL l j K m by show (if j + (m + 1) = K then gi l j else gi l (j + (m + 1))) :: _ = _; rw [if_neg (by omega), hq]] at this
                    show _ = _
                    rw [List.append_assoc]; exact this
                  clear hqK hq
                  obtain ⟨b', off', e1, hcy⟩ := H3.out q (by omega)
                  simp only [Option.some.injEq, Addr.mk.injEq] at e1
                  obtain ⟨rfl, rfl, _⟩ := e1
                  have hcy1 := cell_keep HBY.out hcy
                  clear hcy
                  go_wp2_with (at_builtin; refine wpList_app_int rfl (.tmp 73) (.tmp 78) rfl W.heap.size _ _ r [gi l q] rfl rfl (how.out.alloc _) (SI_one _ _ _) (by simp; omega) (by simp; omega) ?_)
                  intro v3 x3 ho3 hg3 _
                  have hb3 : Below W.heap.size W x3 := (hbw.out.alloc hys _).grown hg3 (by simp; omega) (fun k hk => (World.ownsRow.lt how.out k hk).1)
                  have HO3 := Lib.hid ho3; have HX3 := Lib.hid hb3
                  clear ho3 hg3 hb3 hcy1
                  go_wp2_with fail
                  go_roundw
                  case rel => exact ⟨m, r ++ [gi l q], by omega, (by congr 1 <;> omega), by simp; omega, HX3, HO3, HN⟩
                  case measure => simp [intOf]; omega
end Go.Proofs.YtehbnckdllbmgaaGreatDoor
