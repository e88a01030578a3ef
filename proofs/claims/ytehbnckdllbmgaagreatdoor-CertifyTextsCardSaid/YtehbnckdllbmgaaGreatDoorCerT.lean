/- Contract: Check of certify's reference. -/
import Derived.Test.YtehbnckdllbmgaaGreatDoorCerS
set_option linter.unusedSimpArgs false
set_option linter.unusedVariables false
namespace Go.Proofs.YtehbnckdllbmgaaGreatDoor
open Go.RowKit

theorem quiet_d1 {P : Program} {f : FuncId} {args : Array Value} {w : World} {n : Nat} {v : Value}
    (h : Calls P f args (w.drewN n) fun e w' => e = .returned v ∧ ∃ k, w' = (w.drewN n).drewN k) : Calls P f args (w.drewN n) fun e w'' => e = .returned v ∧ ∃ k, w'' = w.drewN k :=
  h.mono fun _ _ ⟨he, k, hk⟩ => ⟨he, by rw [hk]; exact dn2 _ _ _⟩

set_option maxRecDepth 100000 in
set_option maxHeartbeats 4000000 in
theorem Check38_any (pv lv : Value) (p : List (List Int)) (span : Int) (L : List Cut) (w : World) (hp : SS w pv p) (hl : SC w lv L) (hn : p.length ≤ 100000) :
    Calls Tryz.prog 20 #[pv, .int .i64 span, lv] w (Ret w (.int .i64 (checkV p span L))) := by
  have HPv := Lib.hid hp; have HLv := Lib.hid hl
  obtain ⟨pa, pc, rfl, p1, p2⟩ : ∃ a c, pv = .slice a p.length c ∧ p.length ≤ c ∧ c ≤ maxLen := by obtain ⟨vs, ⟨a, c, h1, h2, h3, _⟩, _⟩ := hp; exact ⟨a, c, h1, h2, h3⟩
  obtain ⟨la, lc, rfl, l1, l2, l3⟩ := hl
  have H3 := Lib.hid l3; clear l3 hp
  have hm : L.length ≤ 9223372036854775807 := by unfold maxLen at l2; omega
  by_cases c0 : 20000 < L.length
  · have c0' : decide ((20000 : Int) < L.length) = true := by rw [decide_eq_true_eq]; omega
    have HV := Lib.hid (show checkV p span L = 4 by unfold checkV; rw [if_pos c0])
    clear c0
    go_enter Tryz.func20, Tryz.ntmps20
    go_wp2_with fail
    go_ret
    exact ⟨ret_int HV.out.symm, Below.refl _ _⟩
  have c0' : decide ((20000 : Int) < L.length) = false := by rw [decide_eq_false_iff_not]; omega
  have C0 := Lib.hid c0; clear c0
  go_enter Tryz.func20, Tryz.ntmps20
  go_wp2_with fail
  clear c0'
  refine (shop38_any _ p w HPv.out hn).mono ?_
  rintro e w2 ⟨rfl, hb2⟩
  have HB2 := Lib.hid hb2; clear hb2
  by_cases c1 : checkE p = 0
  rotate_left
  · have hb : (checkE p != 0) = true := by rw [bne_iff_ne]; exact c1
    have HV := Lib.hid (show checkV p span L = checkE p by unfold checkV; rw [if_neg C0.out, if_pos c1])
    clear c1
    go_wp2_with fail
    go_ret
    exact ⟨ret_int HV.out.symm, HB2.out⟩
  have hb : (checkE p != 0) = false := by rw [bne_eq_false_iff_eq]; exact c1
  have HC := Lib.hid c1
  have HG := Lib.hid (checkE_zero c1)
  clear c1
  go_wp2_with fail
  clear hb
  go_loopw [8, 9] (fun q i wr => ∃ k : Nat, k ≤ L.length ∧ i = .int .i64 k ∧ Hid (Below w.heap.size w wr) ∧ Hid (OwnR w wr w.heap.size q ((L.map (·.1)).take k)) ∧ Hid (ordE p.length (stV p) L k = 0)) (fun _ i _ => L.length - (intOf i).toNat)
  case atStart => exact ⟨0, Nat.zero_le _, rfl, HB2, OwnR_nil _ _ _, rfl⟩
  case round =>
    obtain ⟨k, hk, rfl, hb, ho, hz⟩ := hrel
    by_cases hlt : k < L.length
    · obtain ⟨b, off, u, rfl, hcu⟩ := H3.out k hlt
      have hcw := hcu.keep hb.out
      obtain ⟨d0, d1, _⟩ := hcw
      have HSu := Lib.hid hcu.s
      obtain ⟨ua, uc, rfl, u1, u2⟩ := hcu.s.sl
      have hum : (ci L k).1.length ≤ 9223372036854775807 := by unfold maxLen at u2; omega
      clear hcu
      obtain ⟨W8, hW8⟩ : ∃ W8, W8 = wr.alloc (.cells #[.slice ua (ci L k).1.length uc, .int .i64 (ci L k).2] 54) := ⟨_, rfl⟩
      have hb8 : Below wr.heap.size wr W8 := by rw [hW8]; exact (Below.refl _ _).alloc (Nat.le_refl _) _
      have q0 : W8.cell? ⟨wr.heap.size, 0, none⟩ = some (.slice ua (ci L k).1.length uc) := by rw [hW8]; exact cell_new rfl rfl
      have q1 : W8.cell? ⟨wr.heap.size, 1, none⟩ = some (.int .i64 (ci L k).2) := by rw [hW8]; exact cell_new rfl rfl
      have HSZ := Lib.hid (show W8.heap.size = wr.heap.size + 1 by rw [hW8]; simp)
      have HB8 := Lib.hid (hb.out.trans (hb8.mono hb.out.size))
      have HO8 := Lib.hid (ho.out.below hb8)
      have HS8 := Lib.hid (HSu.out.keep HB8.out)
      have HP8 := Lib.hid (HPv.out.keep HB8.out)
      clear hb8
      obtain ⟨x, hx⟩ : ∃ x, (ci L k).2 = x := ⟨_, rfl⟩
      have HX := Lib.hid hx
      rw [hx] at d1 q1 hW8
      clear hx
      have HBAD : Hid (badCut p.length (stV p) (ci L k) = (!rightB p.length (ci L k).1 || decide (x < 0) || decide (stV p ≤ x))) := by show _ = _; unfold badCut; rw [HX.out]
      have i0 : (0 : Int) ≤ k := by omega
      have i1 : (k : Int) < L.length := by omega
      have i2 : (k : Int) < lc := by omega
      go_wp2_with fail
      rw [← hW8]
      clear hW8 d0 d1
      cases hr : rightB p.length (ci L k).1
      · have HV := Lib.hid (show checkV p span L = 2 by
          have h2 := ordE_bad (s := stV p) hz.out (by rw [HBAD.out, hr]; rfl) hlt
          unfold checkV; rw [if_neg C0.out, if_neg (by simp [HC.out]), h2]; rfl)
        have HB9 := Lib.hid (fun m => below_drewN' HB8.out m)
        go_quiet (first | (go_at_call 31; exact quiet_d1 (Right38_any _ p.length _ _ (by omega) (HS8.out.drewN _))) | (go_at_call 48; exact quiet_d1 (stations38_any _ _ _ (HP8.out.drewN _))))
        go_wp2_with fail
        go_ret
        exact ⟨ret_int HV.out.symm, HB9.out _⟩
      by_cases n1 : x < 0
      · have hd1 : decide (x < 0) = true := decide_eq_true n1
        have HV := Lib.hid (show checkV p span L = 2 by
          have h2 := ordE_bad (s := stV p) hz.out (by rw [HBAD.out, hr, hd1]; rfl) hlt
          unfold checkV; rw [if_neg C0.out, if_neg (by simp [HC.out]), h2]; rfl)
        have HB9 := Lib.hid (fun m => below_drewN' HB8.out m)
        clear n1
        go_quiet (first | (go_at_call 31; exact quiet_d1 (Right38_any _ p.length _ _ (by omega) (HS8.out.drewN _))) | (go_at_call 48; exact quiet_d1 (stations38_any _ _ _ (HP8.out.drewN _))))
        go_wp2_with fail
        go_ret
        exact ⟨ret_int HV.out.symm, HB9.out _⟩
      have hd1 : decide (x < 0) = false := decide_eq_false n1
      by_cases n2 : stV p ≤ x
      · have hd2 : decide (stV p ≤ x) = true := decide_eq_true n2
        have HV := Lib.hid (show checkV p span L = 2 by
          have h2 := ordE_bad (s := stV p) hz.out (by rw [HBAD.out, hr, hd1, hd2]; rfl) hlt
          unfold checkV; rw [if_neg C0.out, if_neg (by simp [HC.out]), h2]; rfl)
        have HB9 := Lib.hid (fun m => below_drewN' HB8.out m)
        clear n1 n2
        go_quiet (first | (go_at_call 31; exact quiet_d1 (Right38_any _ p.length _ _ (by omega) (HS8.out.drewN _))) | (go_at_call 48; exact quiet_d1 (stations38_any _ _ _ (HP8.out.drewN _))))
        go_wp2_with fail
        go_ret
        exact ⟨ret_int HV.out.symm, HB9.out _⟩
      have hd2 : decide (stV p ≤ x) = false := decide_eq_false n2
      have HGOOD := Lib.hid (show badCut p.length (stV p) (ci L k) = false by rw [HBAD.out, hr, hd1, hd2]; rfl)
      clear n1 n2
      go_quiet (first | (go_at_call 31; exact quiet_d1 (Right38_any _ p.length _ _ (by omega) (HS8.out.drewN _))) | (go_at_call 48; exact quiet_d1 (stations38_any _ _ _ (HP8.out.drewN _))))
      go_wp2_with fail
      clear hr hd1 hd2 q1
      by_cases hk0 : k = 0
      · subst hk0
        have hd3 : decide ((0 : Int) < ((0 : Nat) : Int)) = false := by decide
        have HZ2 := Lib.hid (ordE_next hz.out HGOOD.out (.inl rfl))
        go_quiet (fail)
        have hw8 := HB8.out.size
        have HOD := Lib.hid (fun m => HO8.out.below (below_drewN' (Below.refl _ _) m))
        have hb8s := HB8.out.size
        have hds : ∀ m, (W8.drewN m).heap.size = W8.heap.size := fun _ => rfl
        have HLK := Lib.hid (show ((L.map (·.1)).take 0).length + [(ci L 0).1].length ≤ 1000000 by have := C0.out; simp <;> omega)
        go_wp2_with (at_builtin; refine wpList_app_rows (W0 := w) (C := fun _ => .slice ua (ci L 0).1.length uc) rfl (.tmp 62) (.tmp 65) rfl w.heap.size _ _ ((L.map (·.1)).take 0) [(ci L 0).1] rfl rfl ((HOD.out _).alloc _) (Sl_one' rfl) (fun i hi => .inl (by obtain rfl : i = 0 := (by simpa using hi); exact HSu.out)) HLK.out (by simp; omega) ?_)
        intro v3 x3 ho3 hg3 _
        have hb3 : Below w.heap.size w x3 := ((below_drewN' HB8.out _).alloc (by rw [hds]; exact hw8) _).grown hg3 (by simp; omega) (fun j hj => (HO8.out.lt j hj).1)
        have HB3 := Lib.hid hb3
        have HO3 := Lib.hid (show OwnR w x3 w.heap.size v3 ((L.map (·.1)).take (0 + 1)) by rw [map_take_ci hlt]; exact ho3)
        clear hg3 ho3 hb3
        go_wp2_with fail
        go_roundw
        case rel => exact ⟨0 + 1, by omega, by go_num, HB3, HO3, HZ2⟩
        case measure => simp [intOf]; omega
      · obtain ⟨j, rfl⟩ : ∃ j, k = j + 1 := ⟨k - 1, by omega⟩
        have hd3 : decide ((0 : Int) < ((j + 1 : Nat) : Int)) = true := by rw [decide_eq_true_eq]; omega
        obtain ⟨b', off', u', e1, hcu'⟩ := H3.out j (by omega)
        simp only [Option.some.injEq, Addr.mk.injEq] at e1
        obtain ⟨rfl, rfl, _⟩ := e1
        have hcw' := hcu'.keep HB8.out
        obtain ⟨r0, r1, r2⟩ := hcw'
        have HR2 := Lib.hid r2
        have j0 : (0 : Int) ≤ j := by omega
        have j1 : (j : Int) < L.length := by omega
        have j2 : (j : Int) < lc := by omega
        have hsub : ((j + 1 : Nat) : Int) - 1 = j := by omega
        clear r2 hcu' r1
        cases hbh : behV (ci L (j + 1)).1 (ci L j).1
        · have HV := Lib.hid (show checkV p span L = 11 by
            have h2 := ordE_beh (s := stV p) hz.out HGOOD.out (by omega) hbh hlt
            unfold checkV; rw [if_neg C0.out, if_neg (by simp [HC.out]), h2]; rfl)
          have HB9 := Lib.hid (fun m => below_drewN' HB8.out m)
          go_quiet ((go_at_call 49; exact quiet_dd (behind38_any _ _ _ _ _ (HS8.out.drewN _) (HR2.out.drewN _))))
          go_wp2_with fail
          go_ret
          exact ⟨ret_int HV.out.symm, by first | exact HB9.out _ | exact below_drewN' (HB9.out _) _⟩
        · have HZ2 := Lib.hid (ordE_next hz.out HGOOD.out (.inr hbh))
          go_quiet ((go_at_call 49; exact quiet_dd (behind38_any _ _ _ _ _ (HS8.out.drewN _) (HR2.out.drewN _))))
          have hw8 := HB8.out.size
          have HOD := Lib.hid (fun m => HO8.out.below (below_drewN' (Below.refl _ _) m))
          have hb8s := HB8.out.size
          have hds : ∀ m, (W8.drewN m).heap.size = W8.heap.size := fun _ => rfl
          have HLK := Lib.hid (show ((L.map (·.1)).take (j + 1)).length + [(ci L (j + 1)).1].length ≤ 1000000 by have := C0.out; simp <;> omega)
          go_wp2_with (at_builtin; refine wpList_app_rows (W0 := w) (C := fun _ => .slice ua (ci L (j + 1)).1.length uc) rfl (.tmp 62) (.tmp 65) rfl w.heap.size _ _ ((L.map (·.1)).take (j + 1)) [(ci L (j + 1)).1] rfl rfl ((HOD.out _).alloc _) (Sl_one' rfl) (fun i hi => .inl (by obtain rfl : i = 0 := (by simpa using hi); exact HSu.out)) HLK.out (by simp; omega) ?_)
          intro v3 x3 ho3 hg3 _
          have hb3 : Below w.heap.size w x3 := ((below_drewN' HB8.out _).alloc (by rw [hds]; exact hw8) _).grown hg3 (by simp; omega) (fun j hj => (HO8.out.lt j hj).1)
          have HB3 := Lib.hid hb3
          have HO3 := Lib.hid (show OwnR w x3 w.heap.size v3 ((L.map (·.1)).take ((j + 1) + 1)) by rw [map_take_ci hlt]; exact ho3)
          clear hg3 ho3 hb3
          go_wp2_with fail
          go_roundw
          case rel => exact ⟨(j + 1) + 1, by omega, by go_num, HB3, HO3, HZ2⟩
          case measure => simp [intOf]; omega
    · obtain rfl : k = L.length := by omega
      have ho2 := ho.out
      rw [List.take_of_length_le (by simp)] at ho2
      have HO2 := Lib.hid (ho2.ss hb.out); clear ho2
      have HLM := Lib.hid (show (L.map (·.1)).length ≤ 100000 by have := C0.out; simp <;> omega)
      go_wp2_with fail
      refine (Covers38_any p.length _ (L.map (·.1)) _ HO2.out HLM.out).mono ?_
      rintro e w5 ⟨rfl, hb5⟩
      have HB5 := Lib.hid (hb.out.trans (hb5.mono hb.out.size)); clear hb5
      cases hcv : coversV p.length (L.map (·.1))
      · have HV := Lib.hid (show checkV p span L = 34 by unfold checkV; rw [if_neg C0.out, if_neg (by simp [HC.out]), if_neg (by simp [hz.out]), if_pos hcv])
        clear hcv
        go_wp2_with fail
        go_ret
        exact ⟨ret_int HV.out.symm, HB5.out⟩
      have HCV := Lib.hid hcv; clear hcv
      go_wp2_with fail
      go_loopw [11] (fun i wr => ∃ k : Nat, k ≤ L.length ∧ i = .int .i64 k ∧ Hid (Below w.heap.size w wr) ∧ Hid (∀ j, j < k → decide (boundC p (ci L j) < span) = false)) (fun i _ => L.length - (intOf i).toNat)
      case atStart => exact ⟨0, Nat.zero_le _, rfl, HB5, fun j hj => by omega⟩
      case round =>
        obtain ⟨k, hk, rfl, hb6, hall⟩ := hrel
        by_cases hlt : k < L.length
        · obtain ⟨b, off, u, rfl, hcu⟩ := H3.out k hlt
          have hcw := hcu.keep hb6.out
          obtain ⟨d0, d1, _⟩ := hcw
          have HSu := Lib.hid (hcu.s.keep hb6.out)
          obtain ⟨ua, uc, rfl, u1, u2⟩ := hcu.s.sl
          have HP6 := Lib.hid (HPv.out.keep hb6.out)
          have HBD := Lib.hid (ordE_zero _ hz.out k hlt)
          have i0 : (0 : Int) ≤ k := by omega
          have i1 : (k : Int) < L.length := by omega
          have i2 : (k : Int) < lc := by omega
          clear hcu
          go_wp2_with fail
          refine (bound38_any _ _ p (ci L k) wr HP6.out HSu.out HC.out HBD.out).mono ?_
          rintro e w6 ⟨rfl, hb7⟩
          have HB7 := Lib.hid (hb6.out.trans (hb7.mono hb6.out.size)); clear hb7
          obtain ⟨bc, hbc⟩ : ∃ bc, boundC p (ci L k) = bc := ⟨_, rfl⟩
          have HBC := Lib.hid hbc
          rw [hbc]
          clear hbc
          by_cases h8 : bc < span
          · have HV := Lib.hid (show checkV p span L = 13 by
              unfold checkV; rw [if_neg C0.out, if_neg (by simp [HC.out]), if_neg (by simp [hz.out]), if_neg (by simp [HCV.out]), if_pos (any_ci_true hlt (by rw [HBC.out, decide_eq_true h8]))])
            have h8' : decide (bc < span) = true := decide_eq_true h8
            clear h8
            go_wp2_with fail
            go_ret
            exact ⟨ret_int HV.out.symm, HB7.out⟩
          · have HN := Lib.hid (show decide (boundC p (ci L k) < span) = false by rw [HBC.out, decide_eq_false h8])
            have h8' : decide (bc < span) = false := decide_eq_false h8
            clear h8
            go_wp2_with fail
            go_roundw
            case rel => exact ⟨k + 1, by omega, by go_num, HB7, upto hall.out HN.out⟩
            case measure => simp [intOf]; omega
        · obtain rfl : k = L.length := by omega
          have HV := Lib.hid (show checkV p span L = 0 by
            unfold checkV; rw [if_neg C0.out, if_neg (by simp [HC.out]), if_neg (by simp [hz.out]), if_neg (by simp [HCV.out]), if_neg (by rw [any_ci_false hall.out]; decide)])
          go_wp2_with fail
          go_ret
          exact ⟨ret_int HV.out.symm, hb6.out⟩
end Go.Proofs.YtehbnckdllbmgaaGreatDoor
