/- Contracts: covers, Covers of certify's reference. -/
import Derived.Test.YtehbnckdllbmgaaGreatDoorCerC
set_option linter.unusedSimpArgs false
set_option linter.unusedVariables false
namespace Go.Proofs.YtehbnckdllbmgaaGreatDoor
open Go.RowKit

theorem Sl_oneR {w : World} {u : Value} {e : TypeId} {b : Nat} (hb : b = w.heap.size) : Sl (w.alloc (.cells #[u] e)) (.slice (some ⟨b, 0, none⟩) 1 1) 1 fun _ => u := by subst hb; exact Sl_one _ _ _
theorem filter_to {L : List (List Int)} {q : Nat} (p : List Int → Bool) (h : q < L.length) : (L.take (q + 1)).filter p = if p (ri L q) then (L.take q).filter p ++ [ri L q] else (L.take q).filter p := by
  rw [take_succ_ri h, List.filter_append]
  cases hp : p (ri L q) <;> simp [hp]
theorem covV_next {N f : Nat} {u : List Int} {L : List (List Int)} (h1 : L.any (fun l => l.length == u.length) = false) (h2 : L.length ≠ 0) :
    covV N (f + 1) u L = (List.range N).all fun (j : Nat) => u.any (fun y => (j : Int) == y) || covV N f (u ++ [(j : Int)]) (L.filter fun l => gi l u.length == (j : Int)) := by
  have : L.isEmpty = false := by cases L <;> simp_all
  simp [covV, h1, this]
theorem covV_fail {N f : Nat} {u : List Int} {L : List (List Int)} (h1 : L.any (fun l => l.length == u.length) = false) (h2 : L.length ≠ 0) {j : Nat} (hj : j < N) (h3 : u.any (fun y => (j : Int) == y) = false) (h4 : covV N f (u ++ [(j : Int)]) (L.filter fun l => gi l u.length == (j : Int)) = false) : covV N (f + 1) u L = false := by
  rw [covV_next h1 h2, List.all_eq_false]
  exact ⟨j, List.mem_range.2 hj, by simp [h3, h4]⟩
theorem covV_done {N f : Nat} {u : List Int} {L : List (List Int)} (h1 : L.any (fun l => l.length == u.length) = false) (h2 : L.length ≠ 0) (h : ∀ j : Nat, j < N → (u.any (fun y => (j : Int) == y) || covV N f (u ++ [(j : Int)]) (L.filter fun l => gi l u.length == (j : Int))) = true) : covV N (f + 1) u L = true := by
  rw [covV_next h1 h2, List.all_eq_true]
  exact fun j hj => h j (List.mem_range.1 hj)

/-- the contract of covers, f jobs being left -/
def CovR (N f : Nat) : Prop := ∀ (u : List Int) (L : List (List Int)) (vu vl : Value) (w : World), u.length + f = N → rightB N u = true → AllBeg N u L → L.length ≤ 100000 → SI w vu u → SS w vl L →
  Calls Tryz.prog 43 #[.int .i64 N, vu, vl] w (Ret w (.bool (covV N f u L)))

set_option maxRecDepth 100000 in
set_option maxHeartbeats 2000000 in
theorem covers38_step (N f : Nat) (hN : N ≤ 32) (ih : ∀ f', f = f' + 1 → CovR N f') : CovR N f := by
  intro u L vu vl w hf hu hL hl su sl
  have HL := Lib.hid hL; have HU := Lib.hid hu; have SU := Lib.hid su; have SLH := Lib.hid sl; have HF := Lib.hid hf; have IH := Lib.hid ih
  clear hL hu hf ih
  obtain ⟨ua, uc, rfl, u1, u2⟩ := su.sl
  obtain ⟨vs, ⟨la, lc, rfl, l1, l2, l3⟩, l4⟩ := sl
  have L3 := Lib.hid l3; have L4 := Lib.hid l4
  clear su l3 l4
  have hum : u.length ≤ 9223372036854775807 := by unfold maxLen at u2; omega
  have hlm : L.length ≤ 9223372036854775807 := by omega
  go_enter Tryz.func43, Tryz.ntmps43
  go_wp2_with fail
  go_loop [7] (fun i => ∃ k : Nat, k ≤ L.length ∧ i = .int .i64 k ∧ Hid (∀ j, j < k → ((ri L j).length == u.length) = false)) (fun i => L.length - (intOf i).toNat)
  case atStart => exact ⟨0, Nat.zero_le _, rfl, fun j hj => by omega⟩
  case round =>
    obtain ⟨k, hk, rfl, hj⟩ := hrel
    by_cases hlt : k < L.length
    · obtain ⟨b, off, rfl, hc⟩ := L3.out k hlt
      obtain ⟨ra, rc, hr, r1, r2⟩ := (L4.out k hlt).sl
      rw [hr] at hc; clear hr
      have i0 : (0 : Int) ≤ k := by omega
      have i1 : (k : Int) < L.length := by omega
      have i2 : (k : Int) < lc := by omega
      by_cases c1 : (ri L k).length = u.length
      · have hd : (((ri L k).length : Int) == (u.length : Int)) = true := by rw [beq_iff_eq]; omega
        have HV := Lib.hid (show covV N f u L = ((L.length : Int) == 1) by
          rw [cov_one (any_ri_true hlt (by rw [c1]; simp)), Bool.eq_iff_iff, beq_iff_eq, beq_iff_eq]; omega)
        clear c1
        go_wp2_with fail
        go_ret
        exact ⟨by rw [HV.out]; rfl, Below.refl _ _⟩
      · have hd : (((ri L k).length : Int) == (u.length : Int)) = false := by rw [beq_eq_false_iff_ne]; omega
        have hd' := Lib.hid (show ((ri L k).length == u.length) = false by rw [beq_eq_false_iff_ne]; exact c1)
        clear c1
        go_wp2_with fail
        go_round
        case rel => exact ⟨k+1, by omega, by go_num, upto hj.out hd'.out⟩
        case measure => simp [intOf]; omega
    · obtain rfl : k = L.length := by omega
      have HNO := Lib.hid (any_ri_false (f := fun l => l.length == u.length) hj.out)
      clear hj
      by_cases c0 : L.length = 0
      · have hd : ((L.length : Int) == 0) = true := by rw [beq_iff_eq]; omega
        have HV := Lib.hid (show covV N f u L = false by rw [List.eq_nil_of_length_eq_zero c0]; exact cov_empty _ _ _)
        clear c0
        go_wp2_with fail
        go_ret
        exact ⟨by rw [HV.out]; rfl, Below.refl _ _⟩
      have hd : ((L.length : Int) == 0) = false := by rw [beq_eq_false_iff_ne]; omega
      cases f with
      | zero =>
        have hd2 : ((u.length : Int) == (N : Int)) = true := by rw [beq_iff_eq]; have := HF.out; omega
        have HV := Lib.hid (show covV N 0 u L = false by simp [covV, HNO.out])
        clear c0
        go_wp2_with fail
        go_ret
        exact ⟨by rw [HV.out]; rfl, Below.refl _ _⟩
      | succ f =>
        have hd2 : ((u.length : Int) == (N : Int)) = false := by rw [beq_eq_false_iff_ne]; have := HF.out; omega
        have IHF := Lib.hid (IH.out f rfl)
        have HC0 := Lib.hid c0
        have HLEN : Hid (∀ i, i < L.length → u.length < (ri L i).length) := fun i hi => by
          have h1 := begB_len (HL.out _ (ri_mem hi)).2
          have h2 := HNO.out
          rw [List.any_eq_false] at h2
          have h3 := h2 _ (ri_mem hi)
          rw [beq_iff_eq] at h3
          omega
        clear c0 IH
        go_wp2_with fail
        clear hd hd2
        go_loopw [8] (fun i wr => ∃ k : Nat, k ≤ N ∧ i = .int .i64 k ∧ Hid (Below w.heap.size w wr) ∧ Hid (∀ j : Nat, j < k → (u.any (fun y => (j : Int) == y) || covV N f (u ++ [(j : Int)]) (L.filter fun l => gi l u.length == (j : Int))) = true)) (fun i _ => N - (intOf i).toNat)
        case atStart => exact ⟨0, Nat.zero_le _, rfl, Below.refl _ _, fun j hj => by omega⟩
        case round =>
          obtain ⟨k, hk, rfl, hb, hj⟩ := hrel
          by_cases hkn : k < N
          · have hkn' : (k : Int) < N := by omega
            have HK := Lib.hid hkn
            go_wp2_with fail
            refine (has38_any _ (k : Int) u wr (SU.out.keep hb.out)).mono ?_
            rintro e w1 ⟨rfl, m1, rfl⟩
            generalize hy : (u.any fun y => (k : Int) == y) = y
            have HY := Lib.hid hy; clear hy
            have HB1 := Lib.hid (below_drewN' hb.out m1)
            obtain ⟨W, hW⟩ : ∃ W, W = wr.drewN m1 := ⟨_, rfl⟩
            rw [← hW] at HB1 ⊢
            clear hW
            cases y
            rotate_left
            · go_wp2_with fail
              go_roundw
              case rel => exact ⟨k+1, by omega, by go_num, HB1, upto hj.out (by rw [HY.out]; rfl)⟩
              case measure => simp [intOf]; omega
            · go_wp2_with fail
              go_loopw [9, 10] (fun pv i wr => ∃ q : Nat, q ≤ L.length ∧ i = .int .i64 q ∧ Hid (Below W.heap.size W wr) ∧ Hid (OwnR w wr W.heap.size pv ((L.take q).filter fun l => gi l u.length == (k : Int)))) (fun _ i _ => L.length - (intOf i).toNat)
              case atStart => exact ⟨0, Nat.zero_le _, rfl, Below.refl _ _, OwnR_nil _ _ _⟩
              case round =>
                obtain ⟨q, hq, rfl, hb5, ho5⟩ := hrel
                have HB5 := Lib.hid (ext_trans HB1.out hb5.out)
                by_cases hlt : q < L.length
                · obtain ⟨b, off, rfl, hc⟩ := L3.out q hlt
                  have sr := L4.out q hlt
                  have hlen := HLEN.out q hlt
                  obtain ⟨rb, ro, rc, hr, r1, r2, _, r3⟩ := sr.form (by omega)
                  rw [hr] at hc sr
                  have HSR := Lib.hid sr
                  have hc5 := cell_keep HB5.out hc
                  have hx5 := cell_keep HB5.out (r3 u.length hlen)
                  clear hr hc r3 sr
                  have i0 : (0 : Int) ≤ q := by omega
                  have i1 : (q : Int) < L.length := by omega
                  have i2 : (q : Int) < lc := by omega
                  have j1 : (u.length : Int) < (ri L q).length := by omega
                  have j2 : (u.length : Int) < rc := by omega
                  have HF2 := Lib.hid (filter_to (fun l => gi l u.length == (k : Int)) hlt)
                  by_cases c1 : gi (ri L q) u.length = (k : Int)
                  · have hd : (gi (ri L q) u.length == (k : Int)) = true := by rw [beq_iff_eq]; exact c1
                    replace HF2 := Lib.hid (HF2.out.trans (if_pos hd))
                    have hfl : Hid (((L.take q).filter fun l => gi l u.length == (k : Int)).length + 1 ≤ 1000000) := by
                      have := List.length_filter_le (fun l => gi l u.length == (k : Int)) (L.take q)
                      have h2 := List.length_take_le q L
                      show _ ≤ _
                      omega
                    have hrk : ∀ j, j < [ri L q].length → RowOk w (wr.alloc (.cells #[.slice (some ⟨rb, ro, none⟩) (ri L q).length rc] 24)) W.heap.size ((fun _ => Value.slice (some ⟨rb, ro, none⟩) (ri L q).length rc) j) (ri [ri L q] j) := fun j hj => by
                      obtain rfl : j = 0 := by simpa using hj
                      exact .inl HSR.out
                    have HRK := Lib.hid hrk
                    have hb5s := hb5.out.size
                    clear c1 hrk
                    go_wp2_with (at_builtin; refine wpList_app_rows rfl (.tmp 61) (.tmp 66) rfl W.heap.size _ _ ((L.take q).filter fun l => gi l u.length == (k : Int)) [ri L q] rfl rfl (ho5.out.alloc _) (C := fun _ => .slice (some ⟨rb, ro, none⟩) (ri L q).length rc) (Sl_oneR (by simp)) HRK.out (by simpa using hfl.out) (by simp; omega) ?_)
                    intro v3 x3 ho3 hg3 _
                    have hbq : Below W.heap.size W x3 := (hb5.out.alloc hb5s _).grown hg3 (by simp; omega) (fun k hk => (ho5.out.lt k hk).1)
                    rw [← HF2.out] at ho3
                    have HO3 := Lib.hid ho3; have HX3 := Lib.hid hbq
                    clear ho3 hg3 hbq hc5 hx5
                    go_wp2_with fail
                    go_roundw
                    case rel => exact ⟨q + 1, by omega, by go_num, HX3, HO3⟩
                    case measure => simp [intOf]; omega
                  · have hd : (gi (ri L q) u.length == (k : Int)) = false := by rw [beq_eq_false_iff_ne]; exact c1
                    replace HF2 := Lib.hid (HF2.out.trans (if_neg (by rw [hd]; decide)))
                    clear c1
                    go_wp2_with fail
                    go_roundw
                    case rel => exact ⟨q + 1, by omega, by go_num, hb5, by rw [HF2.out]; exact ho5⟩
                    case measure => simp [intOf]; omega
                · obtain rfl : q = L.length := by omega
                  rw [List.take_length] at ho5
                  have HNK := Lib.hid (show rightB N (u ++ [(k : Int)]) = true from rightB_snoc' HU.out (by omega) (by omega) HY.out)
                  have hu32 := rightB_len HU.out
                  have HSS := Lib.hid (ho5.out.ss HB5.out)
                  have HAB := Lib.hid (HL.out.filter HNO.out (k : Int))
                  have HFL : Hid ((L.filter fun l => gi l u.length == (k : Int)).length ≤ 100000) := by
                    have := List.length_filter_le (fun l => gi l u.length == (k : Int)) L
                    show _ ≤ _
                    omega
                  clear ho5
                  go_wp2_with (at_builtin; refine wpList_app_int rfl (.tmp 69) (.tmp 70) rfl wr.heap.size _ _ [] u rfl rfl (OwnI_empty _ _ (Nat.le_refl _)) ((SU.out.keep HB5.out).alloc _) (by simp; omega) (by simp) ?_)
                  intro v1 x1 ho1 hg1 _
                  have hb1 : Below wr.heap.size wr x1 := ((Below.refl _ _).alloc (Nat.le_refl _) _).grown hg1 (by simp) (fun k hk => (World.ownsRow.lt (OwnI_empty wr wr.heap.size (Nat.le_refl _)) k hk).1)
                  obtain ⟨a1, c1, rfl, _⟩ := (OwnI.si ho1).sl
                  have HO1 := Lib.hid ho1; have HX1 := Lib.hid hb1
                  clear ho1 hg1 hb1
                  have hx1 := HX1.out.size
                  go_wp2_with (at_builtin; refine wpList_app_int rfl (.tmp 71) (.tmp 73) rfl wr.heap.size _ _ u [(k : Int)] rfl rfl (HO1.out.alloc _) (SI_one _ _ _) (by simp; omega) (by simp; omega) ?_)
                  intro v2 x2 ho2 hg2 _
                  have hb2 : Below wr.heap.size wr x2 := (HX1.out.alloc hx1 _).grown hg2 (by simp; omega) (fun k hk => (World.ownsRow.lt HO1.out k hk).1)
                  have HO2 := Lib.hid ho2; have HX2 := Lib.hid hb2
                  clear ho2 hg2 hb2
                  have HB6 := Lib.hid (ext_trans HB5.out HX2.out)
                  go_wp2_with fail
                  refine (IHF.out (u ++ [(k : Int)]) _ v2 _ x2 (by have := HF.out; simp; omega) HNK.out HAB.out HFL.out HO2.out.si (HSS.out.keep HX2.out)).mono ?_
                  rintro e w6 ⟨rfl, hb6⟩
                  have HB7 := Lib.hid (ext_trans HB6.out hb6)
                  clear hb6
                  cases hc : covV N f (u ++ [(k : Int)]) (L.filter fun l => gi l u.length == (k : Int))
                  · have HV := Lib.hid (covV_fail HNO.out HC0.out hkn HY.out hc)
                    clear hc
                    go_wp2_with fail
                    go_ret
                    exact ⟨by rw [HV.out]; rfl, HB7.out⟩
                  · have HV := Lib.hid hc
                    clear hc
                    go_wp2_with fail
                    go_roundw
                    case rel => exact ⟨k+1, by omega, by go_num, HB7, upto hj.out (by rw [HV.out, Bool.or_true])⟩
                    case measure => simp [intOf]; omega
          · obtain rfl : k = N := by omega
            have HV := Lib.hid (covV_done HNO.out HC0.out hj.out)
            go_wp2_with fail
            go_ret
            exact ⟨by rw [HV.out]; rfl, hb.out⟩
theorem covers38_any (N : Nat) (hN : N ≤ 32) : ∀ f, CovR N f
  | 0 => covers38_step N 0 hN fun f' h => by cases h
  | f + 1 => covers38_step N (f + 1) hN fun f' h => by cases h; exact covers38_any N hN f
end Go.Proofs.YtehbnckdllbmgaaGreatDoor
