/- Contracts: Check of dock. -/
import Derived.Test.YtgmecjmepbaolaaDoorDokM
set_option linter.unusedSimpArgs false
set_option linter.unusedVariables false
namespace Go.Proofs.YtgmecjmepbaolaaDoor
open Go.RowKit

theorem dokE_plan {docks : List DBay} {l : List Ber} (h : planE docks l ≠ 0) : dokE docks l = planE docks l := by unfold dokE; rw [if_neg h]
theorem dokE_hull {docks : List DBay} {l : List Ber} (h : planE docks l = 0) {k : Nat} (hk : k < l.length) (hh : (l.take k).any (fun u => u.hull == (bri l k).hull) = true) : dokE docks l = 7 := by
  have : hullsB l = false := by
    unfold hullsB
    rw [List.all_eq_false]
    exact ⟨k, List.mem_range.2 hk, by rw [hh]; decide⟩
  unfold dokE; rw [if_pos h, if_pos this]
theorem hulls_ok {l : List Ber} (h : ∀ j, j < l.length → (l.take j).any (fun u => u.hull == (bri l j).hull) = false) : hullsB l = true := by
  unfold hullsB
  rw [List.all_eq_true]
  intro i hi
  rw [h i (List.mem_range.1 hi)]; rfl
theorem dokE_wet {docks : List DBay} {l : List Ber} (h : planE docks l = 0) (hh : hullsB l = true) {k j : Nat} (hk : k < l.length) (hj : j < l.length) (hw : wetB (bri l k) (bri l j) = true) : dokE docks l = 14 := by
  have : (l.any fun u => l.any (wetB u)) = true := List.any_eq_true.2 ⟨_, bri_mem hk, List.any_eq_true.2 ⟨_, bri_mem hj, hw⟩⟩
  unfold dokE; rw [if_pos h, if_neg (by rw [hh]; decide), if_pos this]
theorem dokE_ok {docks : List DBay} {l : List Ber} (h : planE docks l = 0) (hh : hullsB l = true) (hw : ∀ k, k < l.length → ∀ j, j < l.length → wetB (bri l k) (bri l j) = false) : dokE docks l = 0 := by
  have : (l.any fun u => l.any (wetB u)) = false := by
    rw [List.any_eq_false]; intro u hu
    rw [Bool.not_eq_true, List.any_eq_false]; intro v hv
    obtain ⟨k, hk, rfl⟩ := mem_bri hu
    obtain ⟨j, hj, rfl⟩ := mem_bri hv
    rw [hw k hk j hj]; decide
  unfold dokE; rw [if_pos h, if_neg (by rw [hh]; decide), this]; rfl
set_option maxRecDepth 100000 in
set_option maxHeartbeats 1000000 in
theorem dCheck_any (dv lv : Value) (docks : List DBay) (l : List Ber) (w : World) (hd : SD w dv docks) (hl : SB w lv l) (hm : MLen w) (hsd : StrD docks maxLen) (hsb : StrB l maxLen) (hn : l.length ≤ 100000) :
    Calls Tryd.prog 5 #[dv, lv] w (Ret w (.int .i64 (dokE docks l))) := by
  have HD := Lib.hid hd; have HL := Lib.hid hl; have HM := Lib.hid hm; have HSD := Lib.hid hsd; have HSB := Lib.hid hsb
  obtain ⟨da, dc, rfl, d1, d2, d3⟩ := hd
  obtain ⟨la, lc, rfl, l1, l2, l3⟩ := hl
  have L3 := Lib.hid l3
  clear hm hsd hsb d3 l3
  unfold maxLen at d2 l2
  go_enter Tryd.func5, Tryd.ntmps5
  go_wp2_with fail
  refine (stays_any _ l _ HL.out hn).mono ?_
  rintro e w1 ⟨sv, rfl, ho, h1⟩
  have HB1 := Lib.hid h1
  have HS := Lib.hid ho.s
  obtain ⟨sa, sn, sc, rfl⟩ : ∃ a n c, sv = .slice a n c := by obtain ⟨a, cap, rfl, _⟩ := ho.s; exact ⟨_, _, _, rfl⟩
  clear ho h1
  go_wp2_with fail
  refine (Check_any _ _ docks l w1 (HD.out.keep HB1.out) HS.out (HM.out.keep HB1.out) HSD.out HSB.out).mono ?_
  rintro e w2 ⟨rfl, h2⟩
  have HB2 := Lib.hid (ext_trans HB1.out h2)
  clear h2
  obtain ⟨pe, hpe⟩ : ∃ pe, planE docks l = pe := ⟨_, rfl⟩
  rw [hpe]
  by_cases hp0 : pe = 0
  rotate_left
  · have HV := Lib.hid (dokE_plan (by rw [hpe]; exact hp0))
    have HPE := Lib.hid hpe; clear hpe
    go_wp2_with fail
    go_ret
    exact ⟨ret_int (by rw [HV.out, HPE.out]), HB2.out⟩
  subst hp0
  have HP := Lib.hid hpe; clear hpe
  go_wp2_with fail
  go_loopw [21] (fun i wr => ∃ k : Nat, k ≤ l.length ∧ i = .int .i64 k ∧ Hid (Below w.heap.size w wr) ∧ Hid (∀ j, j < k → (l.take j).any (fun u => u.hull == (bri l j).hull) = false)) (fun i _ => l.length - (intOf i).toNat)
  case atStart => exact ⟨0, Nat.zero_le _, rfl, HB2, Lib.hid fun j hj => by omega⟩
  case round =>
    obtain ⟨k, hk, rfl, hbl, hf⟩ := hrel
    by_cases hlt : k < l.length
    · obtain ⟨b, off, rfl, hc⟩ := L3.out k hlt
      obtain ⟨c0, c1, c2, c3, c4, c5, c6, c7⟩ := hc.keep hbl.out
      obtain ⟨W1, HO1, HC1, HW, _⟩ := copyB wr (bri l k)
      have HB1 := Lib.hid (ext_trans hbl.out HC1.out)
      clear hc
      have i0 : (0 : Int) ≤ k := by omega
      have i1 : (k : Int) ≤ lc := by omega
      go_wp2_with fail
      rw [HW.out]
      clear c0 c1 c2 c3 c4 c5 c6 c7 HW i0 i1
      refine (containsFunc_B (.func (.func 15) #[] #[.pointer (some ⟨wr.heap.size, 0, none⟩)]) _ (fun _ => True) (fun u => u.hull == (bri l k).hull) (l.take k) W1 ((HL.out.keep HB1.out).take k (by omega)) (fun _ _ => trivial) ⟨_, _, rfl, enter_hullC, fun y w4 _ hb4 => hullC_any y (bri l k) _ w4 (syC (HO1.out.keep hb4)).c0⟩).mono ?_
      rintro e w3 ⟨rfl, h3⟩
      have HB3 := Lib.hid (ext_trans HB1.out h3)
      clear h3
      obtain ⟨ex, hex⟩ : ∃ ex, (l.take k).any (fun u => u.hull == (bri l k).hull) = ex := ⟨_, rfl⟩
      rw [hex]
      cases ex
      · have HJ := Lib.hid (upto (q := fun j => (l.take j).any (fun u => u.hull == (bri l j).hull) = false) hf.out hex)
        clear hex
        go_wp2_with fail
        go_roundw
        case rel => exact ⟨k + 1, by omega, by go_num, HB3, HJ⟩
        case measure => simp [intOf]; omega
      · have HV := Lib.hid (dokE_hull HP.out hlt hex)
        clear hex
        go_wp2_with fail
        go_ret
        exact ⟨ret_int HV.out.symm, HB3.out⟩
    · obtain rfl : k = l.length := by omega
      have HH := Lib.hid (hulls_ok hf.out)
      go_wp2_with fail
      go_loopw [34] (fun i wr => ∃ k : Nat, k ≤ l.length ∧ i = .int .i64 k ∧ Hid (Below w.heap.size w wr) ∧ Hid (∀ k', k' < k → ∀ j, j < l.length → wetB (bri l k') (bri l j) = false)) (fun i _ => l.length - (intOf i).toNat)
      case atStart => exact ⟨0, Nat.zero_le _, rfl, hbl, Lib.hid fun j hj => by omega⟩
      case round =>
        obtain ⟨k, hk, rfl, hbl1, hf1⟩ := hrel
        by_cases hlt1 : k < l.length
        · obtain ⟨b, off, rfl, hc⟩ := L3.out k hlt1
          obtain ⟨c0, c1, c2, c3, c4, c5, c6, c7⟩ := hc.keep hbl1.out
          obtain ⟨wo, rfl⟩ : ∃ wo : World, wo = wr := ⟨_, rfl⟩
          obtain ⟨W1, HO1, HC1, HW, _⟩ := copyB wo (bri l k)
          have HB1 := Lib.hid (ext_trans hbl1.out HC1.out)
          clear hc
          go_wp2_with fail
          rw [HW.out]
          clear c0 c1 c2 c3 c4 c5 c6 c7 HW
          go_loopw [40] (fun i wr => ∃ k' : Nat, k' ≤ l.length ∧ i = .int .i64 k' ∧ Hid (Below W1.heap.size W1 wr) ∧ Hid (∀ j, j < k' → wetB (bri l k) (bri l j) = false)) (fun i _ => l.length - (intOf i).toNat)
          case atStart => exact ⟨0, Nat.zero_le _, rfl, Lib.hid (Below.refl _ _), Lib.hid fun j hj => by omega⟩
          case round =>
            obtain ⟨j, hj, rfl, hbl2, hf2⟩ := hrel
            by_cases hlt2 : j < l.length
            · have hc := (by obtain ⟨b', off', e1, h⟩ := L3.out j hlt2; simp only [Option.some.injEq, Addr.mk.injEq] at e1; obtain ⟨rfl, rfl, _⟩ := e1; exact h : BAt w b (off + j * 8) (bri l j))
              obtain ⟨c0, c1, c2, c3, c4, c5, c6, c7⟩ := hc.keep (ext_trans HB1.out hbl2.out)
              obtain ⟨W2, HO2, HC2, HW, _⟩ := copyB wr (bri l j)
              have HB2 := Lib.hid (ext_trans hbl2.out HC2.out)
              clear hc
              go_upto_region 16 with fail
              rw [HW.out]
              clear c0 c1 c2 c3 c4 c5 c6 c7 HW
              refine wp_region_et dkT dkT_ok [berO wo.heap.size 0 (bri l k), berO wr.heap.size 0 (bri l j)] (fun v => v = W2) [(9, 0), (11, 1)] [] [(66, .bool (wetB (bri l k) (bri l j)))] (by kernel_rfl) rfl (obs2 (fun v hv => by subst hv; exact range_new (HO1.out.keep HB2.out)) (fun v hv => by subst hv; exact range_new HO2.out)) ⟨rfl, rfl, trivial⟩ ?_
              conv => whnf
              intro f1
              conv => whnf
              refine And.intro ?_ ?_
              · refine congrArg Value.bool ?_
                unfold wetB
                rw [bs_eq, Bool.and_assoc]
              conv => whnf
              intro w3 h3
              subst h3
              obtain ⟨wt, hwt⟩ : ∃ wt, wetB (bri l k) (bri l j) = wt := ⟨_, rfl⟩
              rw [hwt]
              cases wt
              · have HJ := Lib.hid (upto (q := fun j => wetB (bri l k) (bri l j) = false) hf2.out hwt)
                clear hwt
                go_wp2_with fail
                go_roundw
                case rel => exact ⟨j + 1, by omega, by go_num, HB2, HJ⟩
                case measure => simp [intOf]; omega
              · have HV := Lib.hid (dokE_wet HP.out HH.out hlt1 hlt2 hwt)
                clear hwt
                go_wp2_with fail
                go_ret
                exact ⟨ret_int HV.out.symm, ext_trans HB1.out HB2.out⟩
            · obtain rfl : j = l.length := by omega
              have HJ := Lib.hid (upto (q := fun k => ∀ j, j < l.length → wetB (bri l k) (bri l j) = false) hf1.out hf2.out)
              have HB2 := Lib.hid (ext_trans HB1.out hbl2.out)
              go_wp2_with fail
              go_roundw
              case rel => exact ⟨k + 1, by omega, by go_num, HB2, HJ⟩
              case measure => simp [intOf]; omega
        · obtain rfl : k = l.length := by omega
          have HV := Lib.hid (dokE_ok HP.out HH.out hf1.out)
          go_wp2_with fail
          go_ret
          exact ⟨ret_int HV.out.symm, hbl1.out⟩
end Go.Proofs.YtgmecjmepbaolaaDoor
