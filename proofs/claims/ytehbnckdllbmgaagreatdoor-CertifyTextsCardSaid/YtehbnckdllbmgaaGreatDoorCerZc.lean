/- Contract: Parse of certify's reference. -/
import Derived.Test.YtehbnckdllbmgaaGreatDoorCerZb
set_option linter.unusedSimpArgs false
set_option linter.unusedVariables false
namespace Go.Proofs.YtehbnckdllbmgaaGreatDoor
open Go.RowKit

theorem lnL_at {s : ByteArray} {k e : Nat} (h : k + e ≤ s.size) (h2 : ∀ j, j < e → bi s (k + j) ≠ 10) (h3 : k + e < s.size → bi s (k + e) = 10) : (lnL (s.data.toList.drop k)).length = e := by
  have hg : ∀ j, (s.data.toList.drop k).getD j 0 = bi s (k + j) := fun j => by unfold bi; rw [List.getD_eq_getElem?_getD, List.getD_eq_getElem?_getD, List.getElem?_drop]
  have hl : (s.data.toList.drop k).length = s.size - k := by rw [List.length_drop, size_data]
  unfold lnL
  refine takeWhile_at (fun c => c != 10) _ e (by omega) (fun j hj => ?_) (fun hk => ?_)
  · rw [hg]; simpa using h2 j hj
  · rw [hg, h3 (by omega)]; rfl
theorem lnL_take (r : List UInt8) : lnL r = r.take (lnL r).length := by
  have := List.takeWhile_prefix (fun c : UInt8 => c != 10) (l := r)
  exact (List.prefix_iff_eq_take.1 this)

set_option maxRecDepth 100000 in
set_option maxHeartbeats 4000000 in
theorem rParse38_any (s : ByteArray) (w : World) (hs : s.size ≤ 1000000) : Calls Tryz.prog 26 #[.string s] w (RetP w (parseT s.data.toList)) := by
  go_enter Tryz.func26, Tryz.ntmps26
  go_wp2_with fail
  go_loopw [5, 6] (fun v at_ wr => ∃ (k : Nat) (acc : List Cut), k ≤ s.size ∧ at_ = .int .i64 k ∧ Hid (Below w.heap.size w wr) ∧ Hid (OwnC wr w.heap.size v acc) ∧ Hid (acc.length ≤ 20000) ∧ Hid (∃ f, s.size - k ≤ f ∧ parseT s.data.toList = parseG f (s.data.toList.drop k) k acc)) (fun _ at_ _ => s.size - (intOf at_).toNat)
  case atStart => exact ⟨0, [], Nat.zero_le _, rfl, Below.refl _ _, OwnC_nil _ _, Nat.zero_le _, s.data.toList.length, by rw [size_data]; omega, by rw [List.drop_zero]; rfl⟩
  case round =>
    obtain ⟨k, acc, hk, rfl, hb, ho, hcc, hp⟩ := hrel
    obtain ⟨va, vc, hv, hv1, hv2, _⟩ := ho.out.sc
    subst hv
    obtain ⟨f, hf1, hf2⟩ := hp.out
    have HF1 := Lib.hid hf1; have HF2 := Lib.hid hf2
    clear hf1 hf2 hp
    have hac : acc.length ≤ 9223372036854775807 := by have := hcc.out; omega
    by_cases hlt : k < s.size
    rotate_left
    · obtain rfl : k = s.size := by omega
      have HP := Lib.hid (show parseT s.data.toList = (acc, 0, 0) by
        rw [HF2.out, ← size_data, List.drop_length]; exact parseG_nil)
      go_wp2_with fail
      refine bodyPost_ret (v := .tuple #[.slice va acc.length vc, .int .i64 0, .int .i64 0]) (by simp [results, Tryz.results26, go_sem]) rfl ?_
      exact retP HP.out ho.out.sc hb.out
    · have hne : s.data.toList.drop k ≠ [] := fun e => by have := congrArg List.length e; rw [List.length_drop, size_data] at this; simp at this; omega
      have HNE := Lib.hid hne; clear hne
      by_cases hfull : acc.length = 20000
      · have HP := Lib.hid (show parseT s.data.toList = ([], 4, (k : Int)) by
          rw [HF2.out]; exact parseG_long HNE.out (by have := HF1.out; omega) hfull)
        have hfb : ((acc.length : Int) == 20000) = true := by rw [beq_iff_eq]; omega
        clear hfull
        go_wp2_with fail
        refine bodyPost_ret (v := .tuple #[.slice none 0 0, .int .i64 4, .int .i64 k]) (by simp [results, Tryz.results26, go_sem]) rfl ?_
        exact retP HP.out (SC_nil _) hb.out
      · have hfb : ((acc.length : Int) == 20000) = false := by rw [beq_eq_false_iff_ne]; omega
        have HFU := Lib.hid hfull
        clear hfull
        go_wp2_with fail
        go_loop [7] (fun ev => ∃ e : Nat, k + e ≤ s.size ∧ ev = .int .i64 (k + e : Nat) ∧ Hid (∀ j, j < e → bi s (k + j) ≠ 10)) (fun ev => s.size - (intOf ev).toNat)
        case atStart => exact ⟨0, by omega, rfl, fun j hj => by omega⟩
        case round =>
          obtain ⟨e, he, rfl, hj⟩ := hrel
          obtain ⟨E, hE⟩ : ∃ E, E = k + e := ⟨_, rfl⟩
          have HE := Lib.hid hE
          rw [← hE] at he ⊢
          have hEi : (E : Int) ≤ s.size := by omega
          have hin : E < s.size → bi s E ≠ 10 → ∀ j, j < e + 1 → bi s (k + j) ≠ 10 := fun h1 h2 => upto hj.out (by rw [← hE]; exact h2)
          have HIN := Lib.hid hin
          by_cases hgo : E < s.size ∧ bi s E ≠ 10
          · obtain ⟨c1, c2⟩ := hgo
            have HN := Lib.hid (hin c1 c2)
            have hbE := bi_eq s c1
            have hdd : (((bi s E).toNat : Int) != 10) = true := by
              rw [bne_iff_ne]; intro h; exact c2 (UInt8.toNat_inj.1 (by show (bi s E).toNat = 10; omega))
            clear hin c2 hE
            go_wp2_with fail
            go_round
            case rel => exact ⟨e + 1, by have := HE.out; omega, by rw [show ((k + (e + 1) : Nat) : Int) = (E : Int) + 1 by have := HE.out; omega], HN.out⟩
            case measure => simp [intOf]; omega
          · have HLE : Hid ((lnL (s.data.toList.drop k)).length = e) := lnL_at (by omega) hj.out (fun h => by
              by_cases h10 : bi s (k + e) = 10
              · exact h10
              · exact absurd ⟨by omega, by rw [hE]; exact h10⟩ hgo)
            obtain ⟨x, hx⟩ : ∃ x, x = s.extract k E := ⟨_, rfl⟩
            have HX : Hid (x.data.toList = lnL (s.data.toList.drop k)) := by
              show _ = _
              rw [lnL_take, HLE.out, hx, ByteArray.data_extract, Array.toList_extract, List.extract_eq_take_drop, show E - k = e by omega]
            have hxs : x.size ≤ 1000000 := by rw [hx]; simp; omega
            have hkE : (k : Int) ≤ E := by omega
            have hsl : ∀ W : World, (Instr.slice 9 (.string s) (some (.int .i64 (k : Nat))) (some (.int .i64 (E : Nat))) none).run Tryz.prog W = .ok (.string x) W := fun W => by rw [hx]; exact run_slice_string (P := Tryz.prog) W 9 s .i64 .i64 k E Tryz.underlying9 (by omega) (by omega) (by omega)
            obtain ⟨dE, hdE⟩ : ∃ d, decide (E < s.size) = d := ⟨_, rfl⟩
            have hexit : ∃ dl db, True := ⟨0, 0, trivial⟩
            clear hx hin hexit
            have fin : Calls Tryz.prog 56 #[.string x] wr (CutE wr x.data.toList) := cutOf_any x wr hxs
            have HFN := Lib.hid fin
            clear fin
            by_cases c1 : E < s.size
            · have h10 : bi s E = 10 := by
                by_cases h : bi s E = 10
                · exact h
                · exact absurd ⟨c1, h⟩ hgo
              have hbE := bi_eq s c1
              have hdd : (((bi s E).toNat : Int) != 10) = false := by rw [bne_eq_false_iff_eq, h10]; rfl
              clear hgo hdE hE h10
              go_wp2_with fail
              refine HFN.out.mono ?_
              rintro e' w3 ⟨u, n, ok, rfl, ⟨up, un, uc, rfl⟩, hb3, hres⟩
              rw [HX.out] at hres
              have HRES := Lib.hid hres; have HB3 := Lib.hid (ext_trans hb.out hb3); have HO3 := Lib.hid (ho.out.below hb3)
              have HWS := Lib.hid hb.out.size
              clear hres hb3
              have HEND : Hid ((lnL (s.data.toList.drop k)).length ≠ (s.data.toList.drop k).length) := by
                show _ ≠ _
                rw [HLE.out, List.length_drop, size_data]; have := HE.out; omega
              have hnE : ((E : Int) == (s.size : Int)) = false := by rw [beq_eq_false_iff_ne]; omega
              have HC1 := Lib.hid c1
              have HLT := Lib.hid hlt
              cases ok
              · have HP := Lib.hid (show parseT s.data.toList = ([], 5, (k : Int)) by
                  rw [HF2.out]
                  exact parseG_bad HNE.out (by have := HF1.out; omega) HFU.out (.inr HRES.out))
                go_wp2_with fail
                refine bodyPost_ret (v := .tuple #[.slice none 0 0, .int .i64 5, .int .i64 k]) (by simp [results, Tryz.results26, go_sem]) rfl ?_
                exact retP HP.out (SC_nil _) (HB3.out.alloc HB3.out.size _)
              · obtain ⟨c, hc1, rfl, hc3⟩ := HRES.out
                have hstep := parseG_next (f := f) (k := k) HNE.out (by have := HF1.out; omega) HFU.out HEND.out hc1
                rw [HLE.out] at hstep
                have HST := Lib.hid hstep
                have HC3 := Lib.hid (show OwnI w3 w.heap.size (.slice up un uc) c.1 from hc3.mono HWS.out)
                have h3s := HB3.out.size
                clear hstep hc1 hc3 HRES
                go_wp2_with (at_builtin; refine wpList_app_cut rfl (.tmp 48) (.tmp 50) rfl w.heap.size _ acc rfl ((HO3.out.alloc _).alloc _) (w3.heap.size + 1) 1 (.slice up un uc) c rfl (cell_new (by simp) rfl) (cell_new (by simp) rfl) ((HC3.out.alloc _).alloc _) (by have := hcc.out; omega) (by simp; omega) ?_)
                intro v' w4 ho4 hg4 _
                have hb4 : Below w.heap.size w w4 := ((HB3.out.alloc h3s _).alloc (by simp; omega) _).grown hg4 (by simp; omega) (fun j hj => (HO3.out.lt j hj).1)
                have HB4 := Lib.hid hb4; have HO4 := Lib.hid ho4
                clear hb4 ho4 hg4
                have hE9 : (E : Int) + 1 ≤ 9223372036854775807 := by omega
                go_wp2_with fail
                go_roundw
                case rel => exact ⟨E + 1, acc ++ [c], by have := HC1.out; omega, by go_num, HB4, HO4, by have := hcc.out; have := HFU.out; show _ ≤ _; simp; omega, f - 1, by have := HF1.out; have := HC1.out; have := HE.out; omega, by rw [HF2.out, HST.out, List.drop_drop, HE.out, Nat.add_assoc]⟩
                case measure => simp [intOf]; have := HC1.out; have := HE.out; omega
            · clear hgo hdE hE
              go_wp2_with fail
              refine HFN.out.mono ?_
              rintro e' w3 ⟨u, n, ok, rfl, ⟨up, un, uc, rfl⟩, hb3, hres⟩
              rw [HX.out] at hres
              have HRES := Lib.hid hres; have HB3 := Lib.hid (ext_trans hb.out hb3); have HO3 := Lib.hid (ho.out.below hb3)
              have HWS := Lib.hid hb.out.size
              clear hres hb3
              have hnE : ((E : Int) == (s.size : Int)) = true := by rw [beq_iff_eq]; omega
              have HP := Lib.hid (show parseT s.data.toList = ([], 5, (k : Int)) by
                rw [HF2.out]
                exact parseG_bad HNE.out (by have := HF1.out; omega) HFU.out (.inl (by rw [HLE.out, List.length_drop, size_data]; have := HE.out; omega)))
              clear HRES
              cases ok
              · go_wp2_with fail
                refine bodyPost_ret (v := .tuple #[.slice none 0 0, .int .i64 5, .int .i64 k]) (by simp [results, Tryz.results26, go_sem]) rfl ?_
                exact retP HP.out (SC_nil _) (HB3.out.alloc HB3.out.size _)
              · go_wp2_with fail
                refine bodyPost_ret (v := .tuple #[.slice none 0 0, .int .i64 5, .int .i64 k]) (by simp [results, Tryz.results26, go_sem]) rfl ?_
                exact retP HP.out (SC_nil _) (HB3.out.alloc HB3.out.size _)
end Go.Proofs.YtehbnckdllbmgaaGreatDoor
