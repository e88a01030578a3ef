/- Contracts: Check of dock's reference. -/
import Derived.Test.YtgmecjmepbaolaaDoorDokN
set_option linter.unusedSimpArgs false
set_option linter.unusedVariables false
namespace Go.Proofs.YtgmecjmepbaolaaDoor
open Go.RowKit

theorem findG_take {p : Ber → Bool} {l : List Ber} {k : Nat} (hk : k < l.length) (hp : p (bri l k) = true) : (findG p l < (k : Int) ∧ (l.take k).any p = true) ∨ (¬ findG p l < (k : Int) ∧ (l.take k).any p = false) := by
  unfold findG
  cases h : l.findIdx? p with
  | none =>
    rw [List.findIdx?_eq_none_iff] at h
    rw [h _ (bri_mem hk)] at hp; cases hp
  | some i =>
    rw [List.findIdx?_eq_some_iff_getElem] at h
    obtain ⟨h1, h2, h3⟩ := h
    dsimp only
    by_cases hi : i < k
    · refine .inl ⟨by omega, List.any_eq_true.2 ⟨l[i], ?_, h2⟩⟩
      rw [List.mem_iff_getElem]
      exact ⟨i, by rw [List.length_take]; omega, by rw [List.getElem_take]⟩
    · refine .inr ⟨by omega, ?_⟩
      rw [List.any_eq_false]
      intro x hx
      obtain ⟨j, hj, rfl⟩ := List.mem_iff_getElem.1 hx
      rw [List.length_take] at hj
      rw [List.getElem_take]
      exact h3 j (by omega)
set_option maxRecDepth 100000 in
set_option maxHeartbeats 1000000 in
theorem rdCheck_any (dv lv : Value) (docks : List DBay) (l : List Ber) (w : World) (hd : SD w dv docks) (hl : SB w lv l) (hsd : StrD docks maxLen) (hsb : StrB l 1100000) (hn : l.length ≤ 100000) :
    Calls Tryd.prog 4 #[dv, lv] w (Ret w (.int .i64 (dokE docks l))) := by
  have HD := Lib.hid hd; have HL := Lib.hid hl; have HSD := Lib.hid hsd; have HSB := Lib.hid hsb
  obtain ⟨da, dc, rfl, d1, d2, d3⟩ := hd
  obtain ⟨la, lc, rfl, l1, l2, l3⟩ := hl
  have L3 := Lib.hid l3
  clear hsd hsb d3 l3
  unfold maxLen at d2 l2
  go_enter Tryd.func4, Tryd.ntmps4
  go_wp2_with fail
  refine (rstays_any _ l _ HL.out hn).mono ?_
  rintro e w1 ⟨sv, rfl, ho, h1⟩
  have HB1 := Lib.hid h1
  have HS := Lib.hid ho.s
  obtain ⟨sa, sn, sc, rfl⟩ : ∃ a n c, sv = .slice a n c := by obtain ⟨a, cap, rfl, _⟩ := ho.s; exact ⟨_, _, _, rfl⟩
  clear ho h1
  go_wp2_with fail
  refine (rCheck_any _ _ docks l w1 (HD.out.keep HB1.out) HS.out HSD.out HSB.out).mono ?_
  rintro e w2 ⟨rfl, h2⟩
  have HB2 := Lib.hid (ext_trans HB1.out h2)
  clear h2
  obtain ⟨pe, hpe⟩ : ∃ pe, planE docks l = pe := ⟨_, rfl⟩
  rw [hpe]
  by_cases hp0 : pe = 0
  rotate_left
  · have HV := Lib.hid (dokE_plan (by rw [hpe]; exact hp0))
    have HPE := Lib.hid hpe; clear hpe
    go_wp2_with fail
    go_ret
    exact ⟨ret_int (by rw [HV.out, HPE.out]), HB2.out⟩
  subst hp0
  have HP := Lib.hid hpe; clear hpe
  go_wp2_with fail
  go_loopw [6] (fun i wr => ∃ k : Nat, k ≤ l.length ∧ i = .int .i64 k ∧ Hid (Below w.heap.size w wr) ∧ Hid (∀ j, j < k → (l.take j).any (fun u => u.hull == (bri l j).hull) = false)) (fun i _ => l.length - (intOf i).toNat)
  case atStart => exact ⟨0, Nat.zero_le _, rfl, HB2, Lib.hid fun j hj => by omega⟩
  case round =>
    obtain ⟨k, hk, rfl, hbl, hf⟩ := hrel
    by_cases hlt : k < l.length
    · obtain ⟨b, off, rfl, hc⟩ := L3.out k hlt
      have c0 := (hc.keep hbl.out).c0
      clear hc
      go_wp2_with fail
      clear c0
      refine (rfindB_any _ l (bri l k).hull wr (HL.out.keep hbl.out)).mono ?_
      rintro e w3 ⟨rfl, h3⟩
      have HB3 := Lib.hid (ext_trans hbl.out h3)
      clear h3
      rcases findG_take (p := fun u => u.hull == (bri l k).hull) hlt (by simp) with ⟨hg, ha⟩ | ⟨hg, ha⟩
      · have HV := Lib.hid (dokE_hull HP.out hlt ha)
        clear ha
        generalize findG (fun b => b.hull == (bri l k).hull) l = z at *
        go_wp2_with fail
        go_ret
        exact ⟨ret_int HV.out.symm, HB3.out⟩
      · have HJ := Lib.hid (upto (q := fun j => (l.take j).any (fun u => u.hull == (bri l j).hull) = false) hf.out ha)
        clear ha
        generalize findG (fun b => b.hull == (bri l k).hull) l = z at *
        go_wp2_with fail
        go_roundw
        case rel => exact ⟨k + 1, by omega, by go_num, HB3, HJ⟩
        case measure => simp [intOf]; omega
    · obtain rfl : k = l.length := by omega
      have HH := Lib.hid (hulls_ok hf.out)
      go_wp2_with fail
      go_loopw [7] (fun i wr => ∃ k : Nat, k ≤ l.length ∧ i = .int .i64 k ∧ Hid (Below w.heap.size w wr) ∧ Hid (∀ k', k' < k → ∀ j, j < l.length → wetB (bri l k') (bri l j) = false)) (fun i _ => l.length - (intOf i).toNat)
      case atStart => exact ⟨0, Nat.zero_le _, rfl, hbl, Lib.hid fun j hj => by omega⟩
      case round =>
        obtain ⟨k, hk, rfl, hbl1, hf1⟩ := hrel
        by_cases hlt1 : k < l.length
        · obtain ⟨b, off, rfl, hc⟩ := L3.out k hlt1
          obtain ⟨wo, rfl⟩ : ∃ wo : World, wo = wr := ⟨_, rfl⟩
          have HC := Lib.hid hc; clear hc
          go_wp2_with fail
          go_loopw [8] (fun i wr => ∃ k' : Nat, k' ≤ l.length ∧ i = .int .i64 k' ∧ Hid (Below w.heap.size w wr) ∧ Hid (∀ j, j < k' → wetB (bri l k) (bri l j) = false)) (fun i _ => l.length - (intOf i).toNat)
          case atStart => exact ⟨0, Nat.zero_le _, rfl, hbl1, Lib.hid fun j hj => by omega⟩
          case round =>
            obtain ⟨j, hj, rfl, hbl2, hf2⟩ := hrel
            by_cases hlt2 : j < l.length
            · have hc : BAt w b (off + j * 8) (bri l j) := by obtain ⟨b', off', e1, h⟩ := L3.out j hlt2; simp only [Option.some.injEq, Addr.mk.injEq] at e1; obtain ⟨rfl, rfl, _⟩ := e1; exact h
              have HC2 := Lib.hid (hc.keep hbl2.out); clear hc
              have HC1 := Lib.hid (HC.out.keep hbl2.out)
              go_upto_region 15 with fail
              refine wp_region_ev dkT dkT_ok [berO b (off + k * 8) (bri l k), berO b (off + j * 8) (bri l j)] (Below wr.heap.size wr) [] [(45, .ix j 1), (50, .ix k 0), (57, .ix j 1), (63, .ix k 0), (72, .ix j 1), (78, .ix k 0)] [(83, .bool (wetB (bri l k) (bri l j)))] (by kernel_rfl) mixed (by kernel_rfl) ((Below.refl _ _).drew) (obs2 (fun v hv => rangeKeep (bAt_range HC1.out) hv) (fun v hv => rangeKeep (bAt_range HC2.out) hv)) trivial ?_
              iterate 3
                conv => whnf
                refine And.intro (under_of ⟨rfl, hlt2, rfl, rfl⟩) ?_
                conv => whnf
                refine And.intro (under_of ⟨rfl, hlt1, rfl, rfl⟩) ?_
              conv => whnf
              intro f1
              conv => whnf
              refine And.intro ?_ ?_
              · refine congrArg Value.bool ?_
                unfold wetB
                rw [bs_eq, Bool.and_assoc]
              conv => whnf
              intro w3 h3
              have HB3 := Lib.hid (ext_trans hbl2.out h3)
              clear h3
              obtain ⟨wt, hwt⟩ : ∃ wt, wetB (bri l k) (bri l j) = wt := ⟨_, rfl⟩
              rw [hwt]
              cases wt
              · have HJ := Lib.hid (upto (q := fun j => wetB (bri l k) (bri l j) = false) hf2.out hwt)
                clear hwt
                go_wp2_with fail
                go_roundw
                case rel => exact ⟨j + 1, by omega, by go_num, HB3, HJ⟩
                case measure => simp [intOf]; omega
              · have HV := Lib.hid (dokE_wet HP.out HH.out hlt1 hlt2 hwt)
                clear hwt
                go_wp2_with fail
                go_ret
                exact ⟨ret_int HV.out.symm, HB3.out⟩
            · obtain rfl : j = l.length := by omega
              have HJ := Lib.hid (upto (q := fun k => ∀ j, j < l.length → wetB (bri l k) (bri l j) = false) hf1.out hf2.out)
              go_wp2_with fail
              go_roundw
              case rel => exact ⟨k + 1, by omega, by go_num, hbl2, HJ⟩
              case measure => simp [intOf]; omega
        · obtain rfl : k = l.length := by omega
          have HV := Lib.hid (dokE_ok HP.out HH.out hf1.out)
          go_wp2_with fail
          go_ret
          exact ⟨ret_int HV.out.symm, hbl1.out⟩
end Go.Proofs.YtgmecjmepbaolaaDoor
