/- Contract: Check of certify. -/
import Derived.Test.YtehbnckdllbmgaaGreatDoorCerF
import Derived.Test.YtehbnckdllbmgaaGreatDoorFlowQ
set_option linter.unusedSimpArgs false
set_option linter.unusedVariables false
namespace Go.Proofs.YtehbnckdllbmgaaGreatDoor
open Go.RowKit

set_option maxRecDepth 100000 in
set_option maxHeartbeats 2000000 in
theorem Check_any (pv lv : Value) (p : List (List Int)) (span : Int) (L : List Cut) (w : World) (hp : SS w pv p) (hl : SC w lv L) (hn : p.length ≤ 100000) :
    Calls Tryz.prog 19 #[pv, .int .i64 span, lv] w (Ret w (.int .i64 (checkV p span L))) := by
  have HPv := Lib.hid hp; have HLv := Lib.hid hl
  have HSM := Lib.hid (stP_le hp)
  obtain ⟨pa, pc, rfl, p1, p2⟩ : ∃ a c, pv = .slice a p.length c ∧ p.length ≤ c ∧ c ≤ maxLen := by obtain ⟨vs, ⟨a, c, h1, h2, h3, _⟩, _⟩ := hp; exact ⟨a, c, h1, h2, h3⟩
  obtain ⟨la, lc, rfl, l1, l2, l3⟩ := hl
  have H3 := Lib.hid l3; clear l3 hp
  have hm : L.length ≤ 9223372036854775807 := by unfold maxLen at l2; omega
  by_cases c0 : 20000 < L.length
  · have c0' : (20000 : Int) < L.length := by omega
    have HV := Lib.hid (show checkV p span L = 4 by unfold checkV; rw [if_pos c0])
    clear c0
    go_enter Tryz.func19, Tryz.ntmps19
    go_wp2_with fail
    go_ret
    exact ⟨ret_int HV.out.symm, Below.refl _ _⟩
  have c0' : ¬ (20000 : Int) < L.length := by omega
  have C0 := Lib.hid c0; clear c0
  go_enter Tryz.func19, Tryz.ntmps19
  go_wp2_with fail
  refine (plain_any p.length hn w).mono ?_
  rintro e w1 ⟨v1, rfl, hs1, hb1⟩
  obtain ⟨va, vc, rfl, _, _⟩ := hs1.sl
  have HS1 := Lib.hid hs1; have HB1 := Lib.hid hb1
  clear hs1 hb1
  go_wp2_with fail
  refine (Makespan_any _ _ p (rangeI p.length) w1 (HPv.out.keep HB1.out) HS1.out).mono ?_
  rintro e w2 ⟨rfl, hb2⟩
  have HB2 := Lib.hid (ext_trans HB1.out hb2); clear hb2
  rw [finish_plain]
  by_cases c1 : checkE p = 0
  rotate_left
  · have hb : (checkE p != 0) = true := by rw [bne_iff_ne]; exact c1
    have HV := Lib.hid (show checkV p span L = checkE p by unfold checkV; rw [if_neg C0.out, if_pos c1])
    clear c1
    go_wp2_with fail
    go_ret
    exact ⟨ret_int HV.out.symm, HB2.out⟩
  have hb : (checkE p != 0) = false := by rw [bne_eq_false_iff_eq]; exact c1
  have HC := Lib.hid c1
  have HG := Lib.hid (checkE_zero c1)
  clear c1
  go_wp2_with fail
  refine (stations_any _ p w2 (HPv.out.keep HB2.out)).mono ?_
  rintro e w3 ⟨rfl, m3, rfl⟩
  go_wp2_with fail
  refine (ordered_any p.length (stP p) _ L _ hn (by have := HSM.out; unfold maxLen at this; omega) ((HLv.out.keep HB2.out).drewN m3)).mono ?_
  rintro e w4 ⟨rfl, hb4⟩
  have HB4 := Lib.hid (HB2.out.trans ((below_drewN' (Below.refl _ _) m3).trans (hb4.mono HB2.out.size))); clear hb4
  rw [stP_max HG.out]
  obtain ⟨oe, hoe⟩ : ∃ oe, ordE p.length (stV p) L L.length = oe := ⟨_, rfl⟩
  rw [hoe]
  by_cases c2 : oe = 0
  rotate_left
  · have hb5 : (oe != 0) = true := by rw [bne_iff_ne]; exact c2
    have HV := Lib.hid (show checkV p span L = oe by unfold checkV; rw [if_neg C0.out, if_neg (by simp [HC.out]), hoe, if_pos c2])
    clear c2 hoe
    go_wp2_with fail
    go_ret
    exact ⟨ret_int HV.out.symm, HB4.out⟩
  subst c2
  have HO := Lib.hid hoe; clear hoe
  go_wp2_with fail
  go_loopw [11, 43] (fun q i wr => ∃ k : Nat, k ≤ L.length ∧ i = .int .i64 k ∧ Hid (Below w.heap.size w wr) ∧ Hid (OwnR w wr w.heap.size q ((L.map (·.1)).take k))) (fun _ i _ => L.length - (intOf i).toNat)
  case atStart => exact ⟨0, Nat.zero_le _, rfl, HB4, OwnR_nil _ _ _⟩
  case round =>
    obtain ⟨k, hk, rfl, hb, ho⟩ := hrel
    by_cases hlt : k < L.length
    · obtain ⟨b, off, u, rfl, hcu⟩ := H3.out k hlt
      have hcw := hcu.keep hb.out
      obtain ⟨d0, d1, _⟩ := hcw
      have HSu := Lib.hid hcu.s
      obtain ⟨ua, uc, rfl, u1, u2⟩ := hcu.s.sl
      clear hcu
      go_wp2_with (at_builtin; refine wpList_app_rows (W0 := w) (C := fun _ => .slice ua (ci L k).1.length uc) rfl _ _ rfl w.heap.size _ _ ((L.map (·.1)).take k) [(ci L k).1] rfl rfl ((ho.out.alloc _).alloc _) (Sl_one' (by simp)) (fun i hi => .inl (by obtain rfl : i = 0 := (by simpa using hi); exact HSu.out)) (by simp; omega) (by have := hb.out.size; simp; omega) ?_)
      intro v' w' ho' hg _
      have hb' : Below w.heap.size w w' := ((hb.out.alloc hb.out.size _).alloc (by have := hb.out.size; simp; omega) _).grown hg (by have := hb.out.size; simp; omega) (fun j hj => (ho.out.lt j hj).1)
      have HB' := Lib.hid hb'
      have HO' := Lib.hid (show OwnR w w' w.heap.size v' ((L.map (·.1)).take (k + 1)) by rw [map_take_ci hlt]; exact ho')
      clear hg ho' hb'
      go_wp2_with fail
      go_roundw
      case rel => exact ⟨k + 1, by omega, by go_num, HB', HO'⟩
      case measure => simp [intOf]; omega
    · obtain rfl : k = L.length := by omega
      have ho2 := ho.out
      rw [List.take_of_length_le (by simp)] at ho2
      have HO2 := Lib.hid ho2; clear ho2
      have hsh := HO2.out.shape
      have HSH := Lib.hid hsh
      have hv : ∃ a n c, u11 = .slice a n c := by
        rcases hsh with rfl | ⟨a, n, c, rfl⟩ <;> exact ⟨_, _, _, rfl⟩
      obtain ⟨qa, qn, qc, rfl⟩ := hv
      clear hsh
      go_wp2_with fail
      refine (Covers_any p.length _ (L.map (·.1)) _ (HO2.out.ss hb.out) HSH.out (by simp; omega)).mono ?_
      rintro e w5 ⟨rfl, hb5⟩
      have HB5 := Lib.hid (hb.out.trans (hb5.mono hb.out.size)); clear hb5
      cases hcv : coversV p.length (L.map (·.1))
      · have HV := Lib.hid (show checkV p span L = 34 by unfold checkV; rw [if_neg C0.out, if_neg (by simp [HC.out]), if_neg (by simp [HO.out]), if_pos hcv])
        clear hcv
        go_wp2_with fail
        go_ret
        exact ⟨ret_int HV.out.symm, HB5.out⟩
      have HCV := Lib.hid hcv; clear hcv
      go_wp2_with fail
      go_loopw [59] (fun i wr => ∃ k : Nat, k ≤ L.length ∧ i = .int .i64 k ∧ Hid (Below w.heap.size w wr) ∧ Hid (∀ j, j < k → decide (boundC p (ci L j) < span) = false)) (fun i _ => L.length - (intOf i).toNat)
      case atStart => exact ⟨0, Nat.zero_le _, rfl, HB5, fun j hj => by omega⟩
      case round =>
        obtain ⟨k, hk, rfl, hb6, hall⟩ := hrel
        by_cases hlt : k < L.length
        · obtain ⟨b, off, u, rfl, hcu⟩ := H3.out k hlt
          have hcw := hcu.keep hb6.out
          obtain ⟨d0, d1, _⟩ := hcw
          have HSu := Lib.hid hcu.s
          obtain ⟨ua, uc, rfl, u1, u2⟩ := hcu.s.sl
          have hum : (ci L k).1.length ≤ 9223372036854775807 := by unfold maxLen at u2; omega
          clear hcu
          have HCB := Lib.hid (cut_bound HC.out (ordE_zero _ HO.out k hlt))
          obtain ⟨bc, hbc⟩ : ∃ bc, boundC p (ci L k) = bc := ⟨_, rfl⟩
          rw [hbc] at HCB
          have HBC := Lib.hid hbc; clear hbc
          obtain ⟨W8, hW8⟩ : ∃ W8, W8 = wr.alloc (.cells #[.slice ua (ci L k).1.length uc, .int .i64 (ci L k).2] 54) := ⟨_, rfl⟩
          have hb8 : Below wr.heap.size wr W8 := by rw [hW8]; exact (Below.refl _ _).alloc (Nat.le_refl _) _
          have p0 : W8.cell? ⟨wr.heap.size, 0, none⟩ = some (.slice ua (ci L k).1.length uc) := by rw [hW8]; exact cell_new rfl rfl
          have p1 : W8.cell? ⟨wr.heap.size, 1, none⟩ = some (.int .i64 (ci L k).2) := by rw [hW8]; exact cell_new rfl rfl
          have hsz8 : W8.heap.size = wr.heap.size + 1 := by rw [hW8]; simp
          have HSZ8 := Lib.hid hsz8; clear hsz8
          have HB8 := Lib.hid (hb6.out.trans (hb8.mono hb6.out.size)); clear hb8
          go_wp2_with fail
          rw [← hW8]
          refine (Makespan_any _ _ p (ci L k).1 W8 (HPv.out.keep HB8.out) (HSu.out.keep HB8.out)).mono ?_
          rintro e w6 ⟨rfl, hb7⟩
          have q0 := (hb7.cell (p := ⟨wr.heap.size, 0, none⟩) (by rw [HSZ8.out]; dsimp only; omega)).trans p0
          have q1 := (hb7.cell (p := ⟨wr.heap.size, 1, none⟩) (by rw [HSZ8.out]; dsimp only; omega)).trans p1
          have HB7 := Lib.hid (HB8.out.trans (hb7.mono HB8.out.size)); clear hb7 hW8 p0 p1
          by_cases he : (ci L k).1.length = p.length
          · have h7 : ¬ (((ci L k).1.length : Int) < p.length) := by omega
            rw [HCB.out.1 he]
            clear he
            by_cases h8 : bc < span
            · have HV := Lib.hid (show checkV p span L = 13 by
                unfold checkV; rw [if_neg C0.out, if_neg (by simp [HC.out]), if_neg (by simp [HO.out]), if_neg (by simp [HCV.out]), if_pos (any_ci_true hlt (by rw [HBC.out, decide_eq_true h8]))])
              go_wp2_with fail
              go_ret
              exact ⟨ret_int HV.out.symm, HB7.out⟩
            · have HN := Lib.hid (show decide (boundC p (ci L k) < span) = false by rw [HBC.out, decide_eq_false h8])
              go_wp2_with fail
              go_roundw
              case rel => exact ⟨k + 1, by omega, by go_num, HB7, upto hall.out HN.out⟩
              case measure => simp [intOf]; omega
          · have h7 : (((ci L k).1.length : Int) < p.length) := by have := (HCB.out.2 he).1; omega
            have HE := Lib.hid he; clear he
            go_wp2_with fail
            refine (Bound_any _ _ p (ci L k).1 (ci L k).2 w6 (HPv.out.keep HB7.out) (HSu.out.keep HB7.out)).mono ?_
            rintro e w7 ⟨rfl, hb9⟩
            have HB9 := Lib.hid (HB7.out.trans (hb9.mono HB7.out.size)); clear hb9 q0 q1
            rw [(HCB.out.2 HE.out).2]
            by_cases h8 : bc < span
            · have HV := Lib.hid (show checkV p span L = 13 by
                unfold checkV; rw [if_neg C0.out, if_neg (by simp [HC.out]), if_neg (by simp [HO.out]), if_neg (by simp [HCV.out]), if_pos (any_ci_true hlt (by rw [HBC.out, decide_eq_true h8]))])
              go_wp2_with fail
              go_ret
              exact ⟨ret_int HV.out.symm, HB9.out⟩
            · have HN := Lib.hid (show decide (boundC p (ci L k) < span) = false by rw [HBC.out, decide_eq_false h8])
              go_wp2_with fail
              go_roundw
              case rel => exact ⟨k + 1, by omega, by go_num, HB9, upto hall.out HN.out⟩
              case measure => simp [intOf]; omega
        · obtain rfl : k = L.length := by omega
          have HV := Lib.hid (show checkV p span L = 0 by
            unfold checkV; rw [if_neg C0.out, if_neg (by simp [HC.out]), if_neg (by simp [HO.out]), if_neg (by simp [HCV.out]), if_neg (by rw [any_ci_false (fun j hj => hall.out j (by omega))]; simp)])
          go_wp2_with fail
          go_ret
          exact ⟨ret_int HV.out.symm, hb6.out⟩
end Go.Proofs.YtehbnckdllbmgaaGreatDoor
