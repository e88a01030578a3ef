/- Contract: ordered of shop. -/
import Derived.Test.YtlmfcigabojbmaaGreatDoorShoX
import Derived.Test.YtlmfcigabojbmaaGreatDoorShoK
import Derived.BigRegion
import Derived.Laws.EntriesVeiled
set_option linter.unusedSimpArgs false
set_option linter.unusedVariables false

/- Contract: jobs of shop. -/
namespace Go.Proofs.YtlmfcigabojbmaaGreatDoor
open Go.RowKit

theorem sfrom_any (n a b : Int) (w : World) : Calls Tryz.prog 51 #[.int .i64 n, .int .i64 a, .int .i64 b] w fun e w' => e = .returned (.bool (decide (a ≤ n) && decide (n ≤ b))) ∧ w' = w := by
  obtain ⟨c1, h1⟩ : ∃ c, decide (a ≤ n) = c := ⟨_, rfl⟩
  obtain ⟨c2, h2⟩ : ∃ c, decide (n ≤ b) = c := ⟨_, rfl⟩
  have HV : Hid ((decide (a ≤ n) && decide (n ≤ b)) = (c1 && c2)) := by show _ = _; rw [h1, h2]
  cases c1 <;> cases c2
  all_goals
    go_enter Tryz.func51, Tryz.ntmps51
    go_wp2_with fail
    go_ret
    exact ⟨ret_bool HV.out.symm, rfl⟩
theorem zero_work (w : World) : (zeroValue 44).run Tryz.prog w = .ok (.agg #[.string ⟨#[]⟩, .int .i64 0, .int .i64 0, .int .i64 0, .slice none 0 0]) w := by kernel_rfl
/-- entries of jobs -/
def WkE (E : KV) : Prop := ∀ p ∈ E, ∃ m : MW, p.2 = .agg (wkN m)
theorem getE_form {E : KV} (h : WkE E) (s : List UInt8) : ∃ m : MW, getE E s (.agg #[.string ⟨#[]⟩, .int .i64 0, .int .i64 0, .int .i64 0, .slice none 0 0]) = .agg #[.string (bs m.w.id), .int .i64 m.w.hours, .int .i64 m.w.len, .int .i64 m.w.wid, .slice (sa m.av) (sn m.av) (sc m.av)] := by
  unfold getE
  cases hf : E.find? (fun p => p.1 == s) with
  | none => exact ⟨⟨⟨[], 0, 0, 0, []⟩, .slice none 0 0⟩, rfl⟩
  | some p =>
    obtain ⟨m, hm⟩ := h p (List.mem_of_find?_eq_some hf)
    exact ⟨m, hm⟩
/-- the map of the first k jobs -/
def MapJ (w : World) (b : Nat) (l : List MW) (k : Nat) : Prop := ∃ E, VM w b k E ∧ WkE E ∧ E.map (·.1) = (l.take k).map (·.w.id)
theorem MapJ.keep {w w' : World} {b : Nat} {l : List MW} {k : Nat} (h : MapJ w b l k) (hb : Below w.heap.size w w') : MapJ w' b l k := by
  obtain ⟨E, h1, h2, h3⟩ := h; exact ⟨E, h1.keep hb, h2, h3⟩
theorem MapJ.lt {w : World} {b : Nat} {l : List MW} {k : Nat} (h : MapJ w b l k) : b < w.heap.size := by obtain ⟨E, h1, _⟩ := h; exact h1.lt
theorem MapJ.look {w : World} {b : Nat} {l : List MW} {k : Nat} (h : MapJ w b l k) {s : List UInt8} (hs : s.length ≤ maxLen) : ∃ m : MW, (Instr.lookup 68 (.map (some b)) (.string (bs s)) true).run Tryz.prog w = .ok (.tuple #[.agg #[.string (bs m.w.id), .int .i64 m.w.hours, .int .i64 m.w.len, .int .i64 m.w.wid, .slice (sa m.av) (sn m.av) (sc m.av)], .bool ((l.take k).any fun x => x.w.id == s)]) w := by
  obtain ⟨E, h1, h2, h3⟩ := h
  obtain ⟨m, hm⟩ := getE_form h2 s
  refine ⟨m, ?_⟩
  have := h1.look Tryz.underlying68 (zero_work w) hs
  rw [hm] at this
  rw [this]
  have e : hasE E s = (l.take k).any fun x => x.w.id == s := by
    rw [Bool.eq_iff_iff, has_mem, h3, List.any_eq_true, List.mem_map]
    exact ⟨fun ⟨x, hx, e⟩ => ⟨x, hx, by simp [e]⟩, fun ⟨x, hx, e⟩ => ⟨x, hx, eq_of_beq e⟩⟩
  rw [e]
theorem MapJ.store {w : World} {b : Nat} {l : List MW} {k : Nat} (h : MapJ w b l k) (hk : k < l.length) (hl : l.length ≤ 128) (hs : (mri l k).w.id.length ≤ maxLen) (hn : (l.take k).any (fun x => x.w.id == (mri l k).w.id) = false) (hsl : IsSl (mri l k)) {a : Option Addr} {n c : Nat} (hav : (mri l k).av = .slice a n c) :
    ∃ w', (Instr.mapUpdate 68 (.map (some b)) (.string (bs (mri l k).w.id)) (.agg #[.string (bs (mri l k).w.id), .int .i64 (mri l k).w.hours, .int .i64 (mri l k).w.len, .int .i64 (mri l k).w.wid, .slice a n c])).run Tryz.prog w = .ok () w' ∧ MapJ w' b l (k + 1) ∧ w.mapTurned w' b := by
  obtain ⟨E, h1, h2, h3⟩ := h
  have e : hasE E (mri l k).w.id = false := by
    rw [not_has, h3]
    intro hm
    obtain ⟨x, hx, e⟩ := List.mem_map.1 hm
    have := List.any_eq_false.1 hn x hx
    rw [e] at this; simp at this
  obtain ⟨w', r1, r2, r3⟩ := h1.store Tryz.underlying68 (by unfold maxLen; omega) hs e (.agg #[.string (bs (mri l k).w.id), .int .i64 (mri l k).w.hours, .int .i64 (mri l k).w.len, .int .i64 (mri l k).w.wid, .slice a n c])
  refine ⟨w', r1, ⟨_, r2, fun p hp => ?_, ?_⟩, r3⟩
  · rcases List.mem_append.1 hp with hp | hp
    · exact h2 p hp
    · rw [List.mem_singleton] at hp
      subst hp
      refine ⟨mri l k, ?_⟩
      unfold wkN; rw [← hsl, hav]
  · rw [List.map_append, h3, take_mri hk, List.map_append]; rfl
set_option maxRecDepth 100000 in
set_option maxHeartbeats 2000000 in
theorem jobs_any (v : Value) (l : List MW) (w : World) (h : SWk w v l) (ha : Aft w l) (hm : MLen w) (hs : ∀ m ∈ l, m.w.id.length ≤ maxLen) (hs2 : ∀ m ∈ l, ∀ s ∈ m.w.after, s.length ≤ maxLen) : Calls Tryz.prog 27 #[v] w fun e w' => ∃ o, e = .returned (.tuple #[.map o, .int .i64 (jobsE (wl l))]) ∧ (jobsE (wl l) = 0 → ∃ b, o = some b ∧ MapJ w' b l l.length ∧ w.heap.size ≤ b) ∧ Below w.heap.size w w' := by
  have HS := Lib.hid h; have HA := Lib.hid ha; have HID := Lib.hid hs; have HID2 := Lib.hid hs2; have HM := Lib.hid hm
  obtain ⟨a, cap, rfl, h1, h2, h3⟩ := h
  have H3 := Lib.hid h3
  clear h3 ha hs hs2 hm
  have hm : l.length ≤ 9223372036854775807 := by unfold maxLen at h2; omega
  have hmm := @run_makeMap Tryz.prog
  by_cases hlong : 128 < l.length
  · have HV : Hid (jobsE (wl l) = 4) := by show _ = _; unfold jobsE; rw [wl_len, if_pos hlong]
    have i1 : (128 : Int) < l.length := by omega
    go_enter Tryz.func27, Tryz.ntmps27
    go_wp2_with fail
    go_ret2
    exact ⟨none, by rw [HV.out]; rfl, fun h => absurd (HV.out.symm.trans h) (by decide), Below.refl _ _⟩
  have HNL : Hid (¬ 128 < (wl l).length) := by show ¬ _; rw [wl_len]; exact hlong
  have i1 : ¬ (128 : Int) < l.length := by omega
  have hl128 : l.length ≤ 128 := by omega
  obtain ⟨W1, hW1⟩ : ∃ W1, w.alloc (.map #[] 0) = W1 := ⟨_, rfl⟩
  have HJ0 : Hid (MapJ W1 w.heap.size l 0) := by show MapJ ..; rw [← hW1]; exact ⟨[], VM.made w, (fun p hp => (by cases hp)), rfl⟩
  have HB0 : Hid (Below w.heap.size w W1) := by show Below ..; rw [← hW1]; exact (Below.refl _ _).alloc (Nat.le_refl _) _
  have HW1 := Lib.hid hW1
  clear hW1
  go_enter Tryz.func27, Tryz.ntmps27
  go_wp2_with fail
  rw [HW1.out]
  clear i1 hlong HW1 hmm
  go_loopw [21] (fun i wr => ∃ k : Nat, k ≤ l.length ∧ i = .int .i64 k ∧ Hid (Below w.heap.size w wr) ∧ Hid (MapJ wr w.heap.size l k) ∧ Hid (firstE (jobE (wl l)) k = 0)) (fun i _ => l.length - (intOf i).toNat)
  case atStart => exact ⟨0, Nat.zero_le _, rfl, HB0, HJ0, Lib.hid rfl⟩
  case round =>
    obtain ⟨k, hk, rfl, hb, hmj, hf⟩ := hrel
    by_cases hlt : k < l.length
    · obtain ⟨b, off, rfl, hc⟩ := H3.out k hlt
      obtain ⟨c0, c1, c2, c3, c4⟩ := hc.keep hb.out
      obtain ⟨va, vc, hav, _⟩ := HA.out.form hlt
      have HAV := Lib.hid hav
      rw [hav] at c4
      obtain ⟨W2, HO1, HC1, HW, _⟩ := copyW wr (mri l k) hav
      have HB1 := Lib.hid (ext_trans hb.out HC1.out)
      have HJE := Lib.hid (jobE_ml hlt)
      have HMJ1 := Lib.hid (hmj.out.keep HC1.out)
      clear hc hav
      go_upto_region 7 with fail
      rw [HW.out]
      clear c0 c1 c2 c3 c4 HW hmj
      obtain ⟨c0, c1, c2, c3, c4⟩ := wkC HO1.out
      rw [HAV.out] at c4
      go_wp2_with fail
      refine (IsId_any _ _ (by rw [bs_size]; exact HID.out _ (mri_mem hlt)) (HM.out.keep HB1.out)).mono ?_
      clear c0 c1 c2 c3 c4
      rintro e w2 ⟨rfl, h2⟩
      rw [bs_list]
      have HB2 := Lib.hid (ext_trans HB1.out h2)
      have HO2 := Lib.hid (HO1.out.keep h2)
      have HMJ2 := Lib.hid (HMJ1.out.keep h2)
      clear h2 HMJ1 HO1 HC1
      cases hid : idB (mri l k).w.id
      · have HV : Hid (jobsE (wl l) = 6) := by
          have e : jobE (wl l) k = 6 := by rw [HJE.out, if_pos hid]
          show _ = _; rw [jobsE_at HNL.out hf.out (by rw [wl_len]; exact hlt) (by rw [e]; decide), e]
        clear hid HJE
        go_wp2_with fail
        go_ret2
        exact ⟨none, by rw [HV.out]; rfl, fun h => absurd (HV.out.symm.trans h) (by decide), HB2.out⟩
      have HI := Lib.hid hid
      clear hid
      obtain ⟨mq, hlook⟩ := HMJ2.out.look (HID.out _ (mri_mem hlt))
      obtain ⟨c0, c1, c2, c3, c4⟩ := wkC HO2.out
      rw [HAV.out] at c4
      have HC3 : Hid (Below w2.heap.size w2 (w2.alloc (.cells #[.string (bs mq.w.id), .int .i64 mq.w.hours, .int .i64 mq.w.len, .int .i64 mq.w.wid, .slice (sa mq.av) (sn mq.av) (sc mq.av)] 44))) := (Below.refl _ _).alloc (Nat.le_refl _) _
      obtain ⟨W3, hW3⟩ : ∃ W3, w2.alloc (.cells #[.string (bs mq.w.id), .int .i64 mq.w.hours, .int .i64 mq.w.len, .int .i64 mq.w.wid, .slice (sa mq.av) (sn mq.av) (sc mq.av)] 44) = W3 := ⟨_, rfl⟩
      rw [hW3] at HC3
      have HW3 := Lib.hid hW3
      have HB3 := Lib.hid (ext_trans HB2.out HC3.out)
      have HO3 := Lib.hid (HO2.out.keep HC3.out)
      have HMJ3 := Lib.hid (HMJ2.out.keep HC3.out)
      clear hW3 HC3 HMJ2
      obtain ⟨kn, hkn⟩ : ∃ kn, (l.take k).any (fun x => x.w.id == (mri l k).w.id) = kn := ⟨_, rfl⟩
      rw [hkn] at hlook
      have HKN := Lib.hid hkn
      clear hkn
      go_upto_region 10 with fail
      rw [HW3.out]
      clear c0 c1 c2 c3 c4 hlook HW3 HO2
      cases kn
      rotate_left
      · have HV : Hid (jobsE (wl l) = 7) := by
          have e : jobE (wl l) k = 7 := by rw [HJE.out, if_neg (by rw [HI.out]; decide), if_pos HKN.out]
          show _ = _; rw [jobsE_at HNL.out hf.out (by rw [wl_len]; exact hlt) (by rw [e]; decide), e]
        clear HJE
        go_wp2_with fail
        go_ret2
        exact ⟨none, by rw [HV.out]; rfl, fun h => absurd (HV.out.symm.trans h) (by decide), HB3.out⟩
      go_upto_region 12 with fail
      refine wp_region_et skT skT_ok [wkO wr.heap.size 0 (mri l k)] (fun v => v = W3) [(6, 0)] [(39, .ret (.bool (decide (1 ≤ (mri l k).w.hours) && decide ((mri l k).w.hours ≤ 1048576)))), (44, .ret (.bool (sideB (mri l k).w.len))), (50, .ret (.bool (sideB (mri l k).w.wid)))] [(52, .bool (!rangeW (mri l k).w))] (by kernel_rfl) rfl (obs1 fun v hv => by subst hv; exact range_wk HO3.out) ⟨rfl, trivial⟩ ?_
      conv => whnf
      refine And.intro (under_of fun w' hw' => by subst hw'; exact sfrom_any _ _ _ _) ?_
      conv => whnf
      refine And.intro (under_of fun w' hw' => by subst hw'; exact sfrom_any _ _ _ _) ?_
      conv => whnf
      refine And.intro (under_of fun w' hw' => by subst hw'; exact sfrom_any _ _ _ _) ?_
      conv => whnf
      intro f1
      conv => whnf
      refine And.intro (congrArg Value.bool ?_) ?_
      · unfold rangeW
        simp only [Bool.not_and, Bool.or_assoc]
      conv => whnf
      intro w' hw'
      subst hw'
      obtain ⟨rg, hrg⟩ : ∃ rg, rangeW (mri l k).w = rg := ⟨_, rfl⟩
      rw [hrg]
      cases rg
      · have HV : Hid (jobsE (wl l) = 9) := by
          have e : jobE (wl l) k = 9 := by rw [HJE.out, if_neg (by rw [HI.out]; decide), if_neg (by rw [HKN.out]; decide), if_pos hrg]
          show _ = _; rw [jobsE_at HNL.out hf.out (by rw [wl_len]; exact hlt) (by rw [e]; decide), e]
        clear HJE hrg
        go_wp2_with fail
        go_ret2
        exact ⟨none, by rw [HV.out]; rfl, fun h => absurd (HV.out.symm.trans h) (by decide), HB3.out⟩
      · have HF2 : Hid (firstE (jobE (wl l)) (k + 1) = 0) := by
          show _ = _; rw [firstE_zero hf.out, HJE.out, if_neg (by rw [HI.out]; decide), if_neg (by rw [HKN.out]; decide), if_neg (by rw [hrg]; decide)]
        obtain ⟨w4, hst, hmj4, htn⟩ := HMJ3.out.store hlt hl128 (HID.out _ (mri_mem hlt)) HKN.out (IsSl.of HAV.out) HAV.out
        have HMJ4 := Lib.hid hmj4
        have HB4 := Lib.hid (turned_below HB3.out htn (Nat.le_refl _))
        obtain ⟨c0, c1, c2, c3, c4⟩ := wkC HO3.out
        rw [HAV.out] at c4
        clear HJE hrg hmj4 htn
        go_wp2_with fail
        go_roundw
        case rel => exact ⟨k + 1, by omega, by go_num, HB4, HMJ4, HF2⟩
        case measure => simp [intOf]; omega
    · obtain rfl : k = l.length := by omega
      have HF : Hid (firstE (jobE (wl l)) (wl l).length = 0) := by show _ = _; rw [wl_len]; exact hf.out
      clear hf
      go_wp2_with fail
      go_loopw [60] (fun i wr => ∃ k : Nat, k ≤ l.length ∧ i = .int .i64 k ∧ Hid (Below w.heap.size w wr) ∧ Hid (MapJ wr w.heap.size l l.length) ∧ Hid (∀ j, j < k → knownB (wl l) (mri l j).w = true)) (fun i _ => l.length - (intOf i).toNat)
      case atStart => exact ⟨0, Nat.zero_le _, rfl, hb, hmj, Lib.hid fun j hj => by omega⟩
      case round =>
        clear hb hmj
        obtain ⟨k, hk, rfl, hb, hmj, hj⟩ := hrel
        by_cases hlt : k < l.length
        · obtain ⟨b, off, rfl, hc⟩ := H3.out k hlt
          obtain ⟨c0, c1, c2, c3, c4⟩ := hc.keep hb.out
          obtain ⟨va, vc, hav, a1, a2, a3⟩ := HA.out.form hlt
          have HAV := Lib.hid hav
          have A3 := Lib.hid a3
          rw [hav] at c4
          obtain ⟨W2, HO1, HC1, HW, _⟩ := copyW wr (mri l k) hav
          have HB1 := Lib.hid (ext_trans hb.out HC1.out)
          have HMJ1 := Lib.hid (hmj.out.keep HC1.out)
          have hm3 : (mri l k).w.after.length ≤ 9223372036854775807 := by unfold maxLen at a2; omega
          clear hc hav a3
          go_upto_region 19 with fail
          rw [HW.out]
          clear c0 c1 c2 c3 c4 HW hmj
          obtain ⟨c0, c1, c2, c3, c4⟩ := wkC HO1.out
          rw [HAV.out] at c4
          go_wp2_with fail
          clear c0 c1 c2 c3 c4
          go_loopw [67] (fun i wr => ∃ m : Nat, m ≤ (mri l k).w.after.length ∧ i = .int .i64 m ∧ Hid (Below w.heap.size w wr) ∧ Hid (MapJ wr w.heap.size l l.length) ∧ Hid (∀ j, j < m → (wl l).any (fun u => u.id == (mri l k).w.after.getD j default) = true)) (fun i _ => (mri l k).w.after.length - (intOf i).toNat)
          case atStart => exact ⟨0, Nat.zero_le _, rfl, HB1, HMJ1, Lib.hid fun j hj => by omega⟩
          case round =>
            obtain ⟨m, hm2, rfl, hb2, hmj2, hj2⟩ := hrel
            by_cases hlt2 : m < (mri l k).w.after.length
            · obtain ⟨ab, ao, rfl, hc⟩ := A3.out m hlt2
              have hcc := cell_keep hb2.out hc
              obtain ⟨mq, hlook⟩ := hmj2.out.look (HID2.out _ (mri_mem hlt) _ (List.getElem_mem hlt2))
              rw [List.take_length, ← known_any] at hlook
              obtain ⟨W4, hW4⟩ : ∃ W4, wr.alloc (.cells #[.string (bs mq.w.id), .int .i64 mq.w.hours, .int .i64 mq.w.len, .int .i64 mq.w.wid, .slice (sa mq.av) (sn mq.av) (sc mq.av)] 44) = W4 := ⟨_, rfl⟩
              have HC4 : Hid (Below wr.heap.size wr W4) := by show Below ..; rw [← hW4]; exact (Below.refl _ _).alloc (Nat.le_refl _) _
              have HW4 := Lib.hid hW4
              have HB4 := Lib.hid (ext_trans hb2.out HC4.out)
              have HMJ4 := Lib.hid (hmj2.out.keep HC4.out)
              clear hc hW4 HC4
              obtain ⟨kn, hkn⟩ : ∃ kn, (wl l).any (fun u => u.id == (mri l k).w.after[m]) = kn := ⟨_, rfl⟩
              rw [hkn] at hlook
              have HKN := Lib.hid hkn
              clear hkn
              go_upto_region 23 with fail
              rw [HW4.out]
              clear hcc hlook HW4 hmj2
              cases kn
              · have HV : Hid (jobsE (wl l) = 8) := by
                  refine jobsE_un (k := k) HNL.out HF.out (by rw [wl_len]; exact hlt) ?_
                  have e : (wl l)[k]'(by rw [wl_len]; exact hlt) = (mri l k).w := by rw [mri_lt hlt]; simp [wl]
                  rw [e]
                  unfold knownB
                  rw [List.all_eq_false]
                  exact ⟨(mri l k).w.after[m], List.getElem_mem hlt2, by rw [HKN.out]; decide⟩
                go_wp2_with fail
                go_ret2
                exact ⟨none, by rw [HV.out]; rfl, fun h => absurd (HV.out.symm.trans h) (by decide), HB4.out⟩
              · have HJ := Lib.hid (upto (q := fun j => (wl l).any (fun u => u.id == (mri l k).w.after.getD j default) = true) hj2.out (by
                  simp only [List.getD_eq_getElem?_getD, List.getElem?_eq_getElem hlt2, Option.getD_some]
                  exact HKN.out))
                go_wp2_with fail
                go_roundw
                case rel => exact ⟨m + 1, by omega, by go_num, HB4, HMJ4, HJ⟩
                case measure => simp [intOf]; omega
            · obtain rfl : m = (mri l k).w.after.length := by omega
              have HJ := Lib.hid (upto (q := fun j => knownB (wl l) (mri l j).w = true) hj.out (by
                unfold knownB
                rw [List.all_eq_true]
                intro a ha
                obtain ⟨j, hj3, rfl⟩ := List.mem_iff_getElem.1 ha
                have := hj2.out j hj3
                simp only [List.getD_eq_getElem?_getD, List.getElem?_eq_getElem hj3, Option.getD_some] at this
                exact this))
              go_wp2_with fail
              go_roundw
              case rel => exact ⟨k + 1, by omega, by go_num, hb2, hmj2, HJ⟩
              case measure => simp [intOf]; omega
        · have HV : Hid (jobsE (wl l) = 0) := by
            refine jobsE_good HNL.out HF.out fun u hu => ?_
            unfold wl at hu
            obtain ⟨m, hm, rfl⟩ := List.mem_map.1 hu
            obtain ⟨j, hj3, rfl⟩ := mem_mri hm
            exact hj.out j (by omega)
          go_wp2_with fail
          go_ret2
          exact ⟨some w.heap.size, by rw [HV.out]; rfl, fun _ => ⟨_, rfl, hmj.out, Nat.le_refl _⟩, hb.out⟩
end Go.Proofs.YtlmfcigabojbmaaGreatDoor

/- Contracts: slices.IndexFunc and slices.ContainsFunc with shop's closures. -/
namespace Go.Proofs.YtlmfcigabojbmaaGreatDoor
open Go.RowKit

/-- a function value that answers a predicate on strings, in every world that keeps what W0 has -/
def FnS (fv : Value) (W0 : World) (q : List UInt8 → Prop) (p : List UInt8 → Bool) : Prop :=
  ∃ F caps, fv = .func (.func F) #[] caps ∧ (∀ args w, (callFunc F args).run Tryz.prog w = .ok (.enter F args) w) ∧
    ∀ (x : List UInt8) (w : World), q x → Below W0.heap.size W0 w → Calls Tryz.prog F (#[.string (bs x)] ++ caps) w (Ret w (.bool (p x)))
set_option maxHeartbeats 800000 in
theorem indexFunc_S (fv v : Value) (q : List UInt8 → Prop) (p : List UInt8 → Bool) (xs : List (List UInt8)) (w : World) (h : SZ w v (xs.map bs)) (hq : ∀ x ∈ xs, q x) (hf : FnS fv w q p) :
    Calls Tryz.prog 56 #[v, fv] w (Ret w (.int .i64 (findG p xs))) := by
  obtain ⟨F, caps, rfl, hcf, hf⟩ := hf
  obtain ⟨a, cap, rfl, h1, h2, h3⟩ := sz_form h
  rw [List.length_map] at h1
  rw [List.length_map] at h3
  rw [List.length_map]
  have HF := Lib.hid hf; clear hf
  have H3 := Lib.hid h3; clear h3
  have HQ := Lib.hid hq; clear hq
  have hm : xs.length ≤ 9223372036854775807 := by unfold maxLen at h2; omega
  go_enter Tryz.func56, Tryz.ntmps56
  go_wp2
  go_loopw [8] (fun i wr => ∃ k : Nat, k ≤ xs.length ∧ i = .int .i64 k ∧ Hid (Below w.heap.size w wr) ∧ Hid (∀ j, j < k → p (xs.getD j default) = false)) (fun i _ => xs.length - (intOf i).toNat)
  case atStart => exact ⟨0, Nat.zero_le _, rfl, Lib.hid (Below.refl _ _), Lib.hid fun j hj => by omega⟩
  case round =>
    obtain ⟨k, hk, rfl, hb, hj⟩ := hrel
    by_cases hlt : k < xs.length
    · obtain ⟨b, off, ha, hc⟩ := H3.out k hlt
      rw [ha]
      have c0 := cell_keep hb.out hc
      rw [zi_bs hlt] at c0
      clear hc
      go_wp2_with fail
      refine (HF.out xs[k] _ (HQ.out _ (List.getElem_mem hlt)) hb.out).mono ?_
      rintro e w1 ⟨rfl, hb1⟩
      have HB1 := Lib.hid (ext_trans hb.out hb1)
      clear hb1 c0
      generalize hx : p xs[k] = x
      have HX : Hid (p (xs.getD k default) = x) := by show _ = _; rw [← hx]; simp [hlt]
      clear hx
      cases x
      · go_wp2_with fail
        go_roundw
        case rel => exact ⟨k+1, by omega, by go_num, HB1, Lib.hid (upto (q := fun j => p (xs.getD j default) = false) hj.out HX.out)⟩
        case measure => simp [intOf]; omega
      · go_wp2_with fail
        go_ret
        exact ⟨ret_int (findG_hit p xs k hlt hj.out HX.out).symm, HB1.out⟩
    · go_wp2_with fail
      go_ret
      exact ⟨ret_int (findG_miss p xs (fun j h => hj.out j (by omega))).symm, hb.out⟩
theorem containsFunc_S (fv v : Value) (q : List UInt8 → Prop) (p : List UInt8 → Bool) (xs : List (List UInt8)) (w : World) (h : SZ w v (xs.map bs)) (hq : ∀ x ∈ xs, q x) (hf : FnS fv w q p) :
    Calls Tryz.prog 35 #[v, fv] w (Ret w (.bool (xs.any p))) := by
  have HI := Lib.hid (indexFunc_S fv v q p xs w h hq hf)
  have HV := Lib.hid (findG_any p xs)
  obtain ⟨F, caps, rfl, _, _⟩ := hf
  obtain ⟨a, n, c, rfl⟩ : ∃ a n c, v = .slice a n c := by obtain ⟨a, cap, rfl, _⟩ := h; exact ⟨_, _, _, rfl⟩
  clear h hq
  go_enter Tryz.func35, Tryz.ntmps35
  go_wp2_with fail
  refine HI.out.mono ?_
  rintro e w1 ⟨rfl, hb⟩
  have HB := Lib.hid hb; clear hb
  go_wp2_with fail
  go_ret
  exact ⟨ret_bool HV.out, HB.out⟩
/-- .. on jobs -/
def FnW (fv : Value) (W0 : World) (q : MW → Prop) (p : MW → Bool) : Prop :=
  ∃ F caps, fv = .func (.func F) #[] caps ∧ (∀ args w, (callFunc F args).run Tryz.prog w = .ok (.enter F args) w) ∧
    ∀ (x : MW) (w : World), q x → Below W0.heap.size W0 w → Calls Tryz.prog F (#[.agg (wkN x)] ++ caps) w (Ret w (.bool (p x)))
set_option maxHeartbeats 800000 in
theorem indexFunc_W (fv v : Value) (q : MW → Prop) (p : MW → Bool) (xs : List MW) (w : World) (h : SWk w v xs) (hsl : ∀ x ∈ xs, IsSl x) (hq : ∀ x ∈ xs, q x) (hf : FnW fv w q p) :
    Calls Tryz.prog 33 #[v, fv] w (Ret w (.int .i64 (findG p xs))) := by
  obtain ⟨F, caps, rfl, hcf, hf⟩ := hf
  obtain ⟨a, cap, rfl, h1, h2, h3⟩ := h
  have HF := Lib.hid hf; clear hf
  have H3 := Lib.hid h3; clear h3
  have HQ := Lib.hid hq; clear hq
  have HSL := Lib.hid hsl; clear hsl
  have hm : xs.length ≤ 9223372036854775807 := by unfold maxLen at h2; omega
  go_enter Tryz.func33, Tryz.ntmps33
  go_wp2
  go_loopw [8] (fun i wr => ∃ k : Nat, k ≤ xs.length ∧ i = .int .i64 k ∧ Hid (Below w.heap.size w wr) ∧ Hid (∀ j, j < k → p (mri xs j) = false)) (fun i _ => xs.length - (intOf i).toNat)
  case atStart => exact ⟨0, Nat.zero_le _, rfl, Lib.hid (Below.refl _ _), Lib.hid fun j hj => by omega⟩
  case round =>
    obtain ⟨k, hk, rfl, hb, hj⟩ := hrel
    by_cases hlt : k < xs.length
    · obtain ⟨b, off, ha, hc⟩ := H3.out k hlt
      rw [ha]
      obtain ⟨c0, c1, c2, c3, c4⟩ := hc.keep hb.out
      rw [HSL.out _ (mri_mem hlt)] at c4
      have hcall := HF.out (mri xs k) wr (HQ.out _ (mri_mem hlt)) hb.out
      unfold wkN at hcall
      have HCALL := Lib.hid hcall
      clear hc hcall
      go_wp2_with fail
      refine HCALL.out.mono ?_
      rintro e w1 ⟨rfl, hb1⟩
      have HB1 := Lib.hid (ext_trans hb.out hb1)
      clear hb1 c0 c1 c2 c3 c4 HCALL
      generalize hx : p (mri xs k) = x
      have HX := Lib.hid hx; clear hx
      cases x
      · go_wp2_with fail
        go_roundw
        case rel => exact ⟨k+1, by omega, by go_num, HB1, Lib.hid (upto (q := fun j => p (mri xs j) = false) hj.out HX.out)⟩
        case measure => simp [intOf]; omega
      · go_wp2_with fail
        go_ret
        exact ⟨ret_int (findG_hit p xs k hlt hj.out HX.out).symm, HB1.out⟩
    · go_wp2_with fail
      go_ret
      exact ⟨ret_int (findG_miss p xs (fun j h => hj.out j (by omega))).symm, hb.out⟩
/-- block b is the map of the jobs that are still waiting: those of D are done -/
def MapD (w : World) (b : Nat) (l : List MW) (D : List (List UInt8)) : Prop := ∃ E n, VM w b n E ∧ n ≤ 128 ∧ WkE E ∧ E.length + D.length = l.length ∧ ∀ s, hasE E s = ((wl l).any (fun u => u.id == s) && !D.contains s)
theorem MapD.start {w : World} {b : Nat} {l : List MW} (h : MapJ w b l l.length) (hl : l.length ≤ 128) : MapD w b l [] := by
  obtain ⟨E, h1, h2, h3⟩ := h
  rw [List.take_length] at h3
  refine ⟨E, _, h1, hl, h2, ?_, fun s => ?_⟩
  · have := congrArg List.length h3; simpa using this
  · have e : hasE E s = l.any (fun m => m.w.id == s) := by
      rw [Bool.eq_iff_iff, has_mem, h3, List.any_eq_true, List.mem_map]
      exact ⟨fun ⟨x, hx, e⟩ => ⟨x, hx, by simp [e]⟩, fun ⟨x, hx, e⟩ => ⟨x, hx, eq_of_beq e⟩⟩
    rw [known_any, e]; simp
theorem MapD.keep {w w' : World} {b : Nat} {l : List MW} {D : List (List UInt8)} (h : MapD w b l D) (hb : Below w.heap.size w w') : MapD w' b l D := by
  obtain ⟨E, n, h1, r⟩ := h; exact ⟨E, n, h1.keep hb, r⟩
theorem MapD.grown {w w' : World} {b : Nat} {l : List MW} {D : List (List UInt8)} {row : Option Nat} (h : MapD w b l D) (hg : w.grownBy w' row) (hne : some b ≠ row) : MapD w' b l D := by
  obtain ⟨E, n, h1, r⟩ := h; exact ⟨E, n, h1.kept hg hne, r⟩
theorem MapD.look {w : World} {b : Nat} {l : List MW} {D : List (List UInt8)} (h : MapD w b l D) {s : List UInt8} (hs : s.length ≤ maxLen) : ∃ m : MW, (Instr.lookup 68 (.map (some b)) (.string (bs s)) true).run Tryz.prog w = .ok (.tuple #[.agg #[.string (bs m.w.id), .int .i64 m.w.hours, .int .i64 m.w.len, .int .i64 m.w.wid, .slice (sa m.av) (sn m.av) (sc m.av)], .bool ((wl l).any (fun u => u.id == s) && !D.contains s)]) w := by
  obtain ⟨E, n, h1, _, h2, _, h3⟩ := h
  obtain ⟨m, hm⟩ := getE_form h2 s
  refine ⟨m, ?_⟩
  have := h1.look Tryz.underlying68 (zero_work w) hs
  rw [hm, h3] at this
  exact this
theorem MapD.len {w : World} {b : Nat} {l : List MW} {D : List (List UInt8)} (h : MapD w b l D) (ty : TypeId) : (Builtin.len_ #[68] ty #[.map (some b)]).run Tryz.prog w = .ok (.int .i64 ((l.length - D.length : Nat) : Int)) w := by
  obtain ⟨E, n, h1, _, _, h2, _⟩ := h
  rw [h1.len Tryz.underlying68 ty, show E.length = l.length - D.length by omega]
theorem MapD.drop {w : World} {b : Nat} {l : List MW} {D : List (List UInt8)} (h : MapD w b l D) {s : List UInt8} (hs : s.length ≤ maxLen) (hk : (wl l).any (fun u => u.id == s) = true) (hn : D.contains s = false) (ty : TypeId) :
    ∃ w', (Builtin.delete_ #[68, 9] ty #[.map (some b), .string (bs s)]).run Tryz.prog w = .ok (.tuple #[]) w' ∧ MapD w' b l (D ++ [s]) ∧ w.mapTurned w' b := by
  obtain ⟨E, n, h1, h0, h2, h3, h4⟩ := h
  have hh : hasE E s = true := by rw [h4, hk, hn]; rfl
  obtain ⟨w', r1, r2, r3⟩ := h1.drop Tryz.underlying68 hs hh ty
  obtain ⟨Dd, _, hvd⟩ := h1
  have hlen := (hvd.del hh).2
  refine ⟨w', r1, ⟨_, n, r2, h0, fun p hp => h2 p (List.mem_filter.1 hp).1, by rw [List.length_append]; simp only [List.length_singleton]; omega, fun t => ?_⟩, r3⟩
  have e1 : hasE (E.filter fun p => !(p.1 == s)) t = (hasE E t && !(t == s)) := by
    unfold hasE
    rw [Bool.eq_iff_iff]
    simp only [List.any_eq_true, List.mem_filter, Bool.and_eq_true, Bool.not_eq_true', beq_iff_eq, beq_eq_false_iff_ne]
    constructor
    · rintro ⟨p, ⟨hp, hne⟩, rfl⟩; exact ⟨⟨p, hp, rfl⟩, hne⟩
    · rintro ⟨⟨p, hp, rfl⟩, hne⟩; exact ⟨p, ⟨hp, hne⟩, rfl⟩
  rw [e1, h4, List.contains_append]
  have e2 : [s].contains t = (t == s) := by rw [List.contains_cons, List.contains_nil, Bool.or_false]
  rw [e2, Bool.not_or, Bool.and_assoc]
/-- waits: whether a job is still waiting -/
def waitB (l : List MW) (D : List (List UInt8)) (s : List UInt8) : Bool := (wl l).any (fun u => u.id == s) && !D.contains s
theorem waits_any (b4 mb : Nat) (l : List MW) (D : List (List UInt8)) (s : List UInt8) (w : World) (hc : w.cell? ⟨b4, 0, none⟩ = some (.map (some mb))) (hm : MapD w mb l D) (hs : s.length ≤ maxLen) :
    Calls Tryz.prog 32 #[.string (bs s), .pointer (some ⟨b4, 0, none⟩)] w (Ret w (.bool (waitB l D s))) := by
  obtain ⟨mq, hlook⟩ := hm.look hs
  have HV : Hid (((wl l).any (fun u => u.id == s) && !D.contains s) = waitB l D s) := rfl
  rw [HV.out] at hlook
  have HB : Hid (Below w.heap.size w (w.alloc (.cells #[.string (bs mq.w.id), .int .i64 mq.w.hours, .int .i64 mq.w.len, .int .i64 mq.w.wid, .slice (sa mq.av) (sn mq.av) (sc mq.av)] 44))) := (Below.refl _ _).alloc (Nat.le_refl _) _
  clear hm
  go_enter Tryz.func32, Tryz.ntmps32
  go_wp2_with fail
  go_ret
  exact ⟨rfl, HB.out⟩
theorem enter_waits : ∀ args w, (callFunc 32 args).run Tryz.prog w = .ok (.enter 32 args) w := enters_of Tryz.func32 (by kernel_rfl) rfl
theorem enter_next : ∀ args w, (callFunc 34 args).run Tryz.prog w = .ok (.enter 34 args) w := enters_of Tryz.func34 (by kernel_rfl) rfl
/-- may be planned: it waits, and none of those ahead of it does -/
def mayB (l : List MW) (D : List (List UInt8)) (m : MW) : Bool := waitB l D m.w.id && !m.w.after.any (waitB l D)
theorem may_ready {l : List MW} {D : List (List UInt8)} {m : MW} (hm : m ∈ l) (hk : knownB (wl l) m.w = true) : mayB l D m = readyW D m.w := by
  have h1 : (wl l).any (fun u => u.id == m.w.id) = true := by
    rw [List.any_eq_true]; exact ⟨m.w, by unfold wl; exact List.mem_map_of_mem hm, by simp⟩
  unfold mayB readyW
  have e1 : waitB l D m.w.id = !D.contains m.w.id := by unfold waitB; rw [h1]; rfl
  have e2 : (!m.w.after.any (waitB l D)) = m.w.after.all fun a => D.contains a := by
    rw [List.not_any_eq_all_not]
    refine Bool.eq_iff_iff.2 ?_
    rw [List.all_eq_true, List.all_eq_true]
    unfold knownB at hk
    rw [List.all_eq_true] at hk
    constructor
    · intro h a ha
      have := h a ha
      unfold waitB at this
      rw [hk a ha] at this
      simpa using this
    · intro h a ha
      unfold waitB
      rw [hk a ha, h a ha]; rfl
  rw [e1, e2]
set_option maxRecDepth 100000 in
set_option maxHeartbeats 800000 in
theorem next_any (b7 b4 mb : Nat) (l : List MW) (D : List (List UInt8)) (x : MW) (w : World) (h7 : w.cell? ⟨b7, 0, none⟩ = some (.func (.func 32) #[] #[.pointer (some ⟨b4, 0, none⟩)])) (hc : w.cell? ⟨b4, 0, none⟩ = some (.map (some mb))) (hm : MapD w mb l D) (hsl : IsSl x) (ha : SZ w x.av (x.w.after.map bs)) (hs : x.w.id.length ≤ maxLen) (hs2 : ∀ s ∈ x.w.after, s.length ≤ maxLen) :
    Calls Tryz.prog 34 (#[.agg (wkN x)] ++ #[.pointer (some ⟨b7, 0, none⟩)]) w (Ret w (.bool (mayB l D x))) := by
  have HC := Lib.hid hc; have HM := Lib.hid hm; have HA := Lib.hid ha; have HS := Lib.hid hs; have HS2 := Lib.hid hs2; have H7 := Lib.hid h7
  rw [hsl] at HA
  obtain ⟨W1, hW1⟩ : ∃ W1, w.alloc (.cells (wkN x) 44) = W1 := ⟨_, rfl⟩
  have HO1 : Hid (ObjAt W1 w.heap.size (wkN x) 44) := by show ObjAt ..; rw [← hW1]; exact ObjAt.new _ _ _
  have HB1 : Hid (Below w.heap.size w W1) := by show Below ..; rw [← hW1]; exact (Below.refl _ _).alloc (Nat.le_refl _) _
  have HW1 := Lib.hid hW1
  unfold wkN at HW1 HO1
  clear hW1 hc hm ha hs hs2 h7
  show Calls Tryz.prog 34 #[.agg (wkN x), .pointer (some ⟨b7, 0, none⟩)] w _
  unfold wkN
  go_enter Tryz.func34, Tryz.ntmps34
  go_upto_region 1 with fail
  rw [HW1.out]
  clear HW1
  have k7 := cell_keep HB1.out H7.out
  have o0 : W1.cell? ⟨w.heap.size, 0, none⟩ = some (.string (bs x.w.id)) := HO1.out.cell 0
  have o4 : W1.cell? ⟨w.heap.size, 4, none⟩ = some (.slice (sa x.av) (sn x.av) (sc x.av)) := HO1.out.cell 4
  go_wp2_with fail
  refine (waits_any b4 mb l D x.w.id W1 (cell_keep HB1.out HC.out) (HM.out.keep HB1.out) HS.out).mono ?_
  rintro e w2 ⟨rfl, h2⟩
  have HB2 := Lib.hid (ext_trans HB1.out h2)
  have k72 := cell_keep h2 k7
  have o42 := cell_keep h2 o4
  clear h2 k7 o0 o4
  obtain ⟨wt, hwt⟩ : ∃ wt, waitB l D x.w.id = wt := ⟨_, rfl⟩
  have HV : Hid (mayB l D x = (wt && !x.w.after.any (waitB l D))) := by show _ = _; unfold mayB; rw [hwt]
  rw [hwt]
  clear hwt
  cases wt
  · go_wp2_with fail
    go_ret
    exact ⟨ret_bool HV.out.symm, HB2.out⟩
  · go_wp2_with fail
    refine (containsFunc_S (.func (.func 32) #[] #[.pointer (some ⟨b4, 0, none⟩)]) _ (fun s => s.length ≤ maxLen) (waitB l D) x.w.after w2 (HA.out.keep HB2.out) HS2.out ⟨_, _, rfl, enter_waits, fun s w3 hs hb => waits_any b4 mb l D s w3 (cell_keep (ext_trans HB2.out hb) HC.out) (HM.out.keep (ext_trans HB2.out hb)) hs⟩).mono ?_
    rintro e w3 ⟨rfl, h3⟩
    have HB3 := Lib.hid (ext_trans HB2.out h3)
    clear h3 k72 o42
    go_wp2_with fail
    go_ret
    exact ⟨ret_bool HV.out.symm, HB3.out⟩
end Go.Proofs.YtlmfcigabojbmaaGreatDoor

/- Contract: ordered of shop. -/
namespace Go.Proofs.YtlmfcigabojbmaaGreatDoor
open Go.RowKit

theorem cell_turned {w w' : World} {b : Nat} (ht : w.mapTurned w' b) {p : Addr} {v : Value} (h : w.cell? p = some v) : w'.cell? p = some v := by
  obtain ⟨es, c, _, _, e, _⟩ := id ht
  have hne : p.block ≠ b := by
    intro e2
    unfold World.cell? at h
    rw [e2, e] at h
    simp at h
  have := ht.grown.block p.block (World.block_lt_of_cell? w _ h) (fun e3 => hne (Option.some.inj e3))
  unfold World.cell? at h ⊢
  rw [this]; exact h
theorem obj_turned {w w' : World} {b : Nat} (ht : w.mapTurned w' b) {q : Nat} {xs : Array Value} {e : TypeId} (h : ObjAt w q xs e) : ObjAt w' q xs e := by
  refine h.grown ht.grown fun e2 => ?_
  obtain ⟨es, c, _, _, e3, _⟩ := id ht
  cases e2
  rw [show w.heap[b]? = _ from h] at e3
  cases e3
theorem swk_turned {w w' : World} {b : Nat} (ht : w.mapTurned w' b) {v : Value} {l : List MW} (h : SWk w v l) : SWk w' v l := by
  obtain ⟨a, cap, rfl, h1, h2, h3⟩ := h
  refine ⟨a, cap, rfl, h1, h2, fun i hi => ?_⟩
  obtain ⟨b', off, e, hc⟩ := h3 i hi
  exact ⟨b', off, e, ⟨cell_turned ht hc.c0, cell_turned ht hc.c1, cell_turned ht hc.c2, cell_turned ht hc.c3, cell_turned ht hc.c4⟩⟩
theorem own_map {w : World} {B : Nat} {e : TypeId} {s n : Nat} {v : Value} {xs : List Value} (h : w.ownsRow B e s v n xs) {b : Nat} {es : Array MapEntry} {c : Nat} (hm : w.heap[b]? = some (.map es c)) : v.ownBlock ≠ some b := by
  rcases h.2 with ⟨rfl, _⟩ | ⟨g, cap, cur, rfl, _, hg, _⟩
  · simp [Value.ownBlock]
  · intro e2
    have : g = b := by simpa [Value.ownBlock] using e2
    subst this
    rw [hm] at hg; cases hg
theorem MapD.blk {w : World} {b : Nat} {l : List MW} {D : List (List UInt8)} (h : MapD w b l D) : ∃ es c, w.heap[b]? = some (.map es c) := by
  obtain ⟨E, n, ⟨Dd, ⟨es, c, h1, _⟩, _⟩, _⟩ := h; exact ⟨es, c, h1⟩
def OwnL (w : World) (B : Nat) (v : Value) (l : List MW) : Prop := w.ownsRow B 44 5 v l.length (l.flatMap wkL)
theorem SWk.grown {w w' : World} {row : Option Nat} {b off n c B : Nat} {l : List MW} (h : SWk w (.slice (some ⟨b, off, none⟩) n c) l) (hg : w.grownBy w' row) (hb : b < B) (hr : ∀ q, row = some q → B ≤ q) : SWk w' (.slice (some ⟨b, off, none⟩) n c) l := by
  obtain ⟨a, cap, e, h1, h2, h3⟩ := h
  refine ⟨a, cap, e, h1, h2, fun i hi => ?_⟩
  obtain ⟨b', off', e2, hc⟩ := h3 i hi
  subst e2
  simp only [Value.slice.injEq, Option.some.injEq, Addr.mk.injEq, and_true] at e
  obtain ⟨⟨rfl, rfl⟩, _, _⟩ := e
  have hn : some b ≠ row := fun e => by have := hr b e.symm; omega
  exact ⟨b, off, rfl, ⟨hg.cell hc.c0 hn, hg.cell hc.c1 hn, hg.cell hc.c2 hn, hg.cell hc.c3 hn, hg.cell hc.c4 hn⟩⟩
theorem OwnL.s {w : World} {B : Nat} {v : Value} {l : List MW} (h : OwnL w B v l) (hs : ∀ m ∈ l, IsSl m) : SWk w v l := by
  have e : l.flatMap wkL = l.flatMap wkCells := by
    clear h
    induction l with
    | nil => rfl
    | cons m l ih =>
      rw [List.flatMap_cons, List.flatMap_cons, ih fun x hx => hs x (List.mem_cons_of_mem _ hx)]
      congr 1
      unfold wkL wkN wkCells
      rw [← hs m (List.mem_cons_self ..)]
  unfold OwnL at h
  rw [e] at h
  exact OwnWk.s h
theorem wpList_app_W {ops : Array Oper} {rest : List Oper} {o : Oper} {a : Act} {Q : Exit → Act → World → Prop} {w : World} (hw : Region.wanted o (yielded ops a.tmps) = true) (s x : Operand)
    (ho : o.op = .call { callee := .builtin .append, args := #[s, x], argTypes := #[22, 22] }) (B : Nat) (v : Value) (l : List MW) (m : MW) (hs : a.eval s = v) (hown : OwnL w B v l)
    (ad : Addr) (hx : a.eval x = .slice (some ad) 1 1) (hy : ∀ j u, (wkL m)[j]? = some u → w.cell? (ad.add j) = some u) (hlen : l.length ≤ 1000000) (hb : B ≤ w.heap.size)
    (h : ∀ v' w', OwnL w' B v' (l ++ [m]) → w.grownBy w' v.ownBlock → (v'.ownBlock = v.ownBlock ∨ v'.ownBlock = some w.heap.size) → wpList Tryz.prog ops Q rest (a.put o.dst v') w') : wpList Tryz.prog ops Q (o :: rest) a w :=
  wpList_step fun K hK => by
    rw [if_pos hw]
    obtain ⟨i, hi, hz0, hz1, hz2⟩ := info_parts Tryz_infoWork
    refine wp_app_gen s x 22 44 ho i (.agg #[.string ⟨#[]⟩, .int .i64 0, .int .i64 0, .int .i64 0, .slice none 0 0]) 5 64 Tryz.underlying22 hi hz0 hz1 hz2 rfl (by decide) B v l.length (l.flatMap wkL) hs hown ad 1 1 hx (wkL m) rfl hy (wkN_one m) (by unfold maxLen; omega) (by omega) hb fun v' w' h1 h2 h3 => hK _ _ (h v' w' ?_ h2 h3)
    unfold OwnL
    rw [List.length_append, List.flatMap_append, List.flatMap_cons, List.flatMap_nil, List.append_nil]
    exact h1
theorem findG_next {l ms : List MW} (hu : Uniq (wl l)) (hp : ms.Perm l) (hs : ms.Pairwise fun a b => leI a.w.id b.w.id = true) (hk : ∀ w ∈ wl l, knownB (wl l) w = true) (D : List (List UInt8)) :
    (findG (mayB l D) ms < 0 ∧ nextF (wl l) D = none) ∨ ∃ i : Nat, i < ms.length ∧ findG (mayB l D) ms = i ∧ nextF (wl l) D = some (mri ms i).w ∧ mayB l D (mri ms i) = true := by
  have hm : ∀ m ∈ ms, mayB l D m = readyW D m.w := fun m hm => may_ready (hp.mem_iff.1 hm) (hk _ (by unfold wl; exact List.mem_map_of_mem (hp.mem_iff.1 hm)))
  have hn := find_next (ws := wl ms) hu (by unfold wl; exact hp.map _) (by unfold wl; rw [List.pairwise_map]; exact hs) D
  have e : (wl ms).find? (readyW D) = (ms.find? (mayB l D)).map (·.w) := by
    unfold wl
    rw [List.find?_map]
    congr 1
    clear hp hs hn
    induction ms with
    | nil => rfl
    | cons a ms ih =>
      rw [List.find?_cons, List.find?_cons, hm a (List.mem_cons_self ..), ih (fun m h => hm m (List.mem_cons_of_mem _ h))]
      rfl
  rw [e] at hn
  rw [← hn]
  unfold findG
  cases h : ms.findIdx? (mayB l D) with
  | none =>
    refine .inl ⟨by decide, ?_⟩
    rw [List.findIdx?_eq_none_iff] at h
    rw [List.find?_eq_none.2 (fun m hm2 => by rw [h m hm2]; decide)]; rfl
  | some i =>
    rw [List.findIdx?_eq_some_iff_getElem] at h
    obtain ⟨h1, h2, h3⟩ := h
    refine .inr ⟨i, h1, rfl, ?_, by rw [mri_lt h1]; exact h2⟩
    have : ms.find? (mayB l D) = some ms[i] := by
      rw [List.find?_eq_some_iff_getElem]
      exact ⟨h2, i, h1, rfl, fun j hj => by have := h3 j hj; simpa using this⟩
    rw [this, mri_lt h1]; rfl
def lenS (v : Value) : Nat := match v with | .slice _ n _ => n | _ => 0
/-- what ordered works with -/
structure OrdQ (w0 w : World) (B b4 b7 mb : Nat) (e7 : TypeId) (l ms outs : List MW) (n : Nat) (sv o : Value) : Prop where
  own : OwnL w b7 o outs
  ws : wl outs = ordF (wl l) n
  len : outs.length = n
  sub : ∀ m ∈ outs, m ∈ l
  map : MapD w mb l ((ordF (wl l) n).map (·.id))
  c4 : ObjAt w b4 #[.map (some mb)] 68
  c7 : ObjAt w b7 #[.func (.func 32) #[] #[.pointer (some ⟨b4, 0, none⟩)]] e7
  ss : SWk w sv ms
  bw : Below B w0 w
theorem OrdQ.below {w0 w w' : World} {B b4 b7 mb : Nat} {e7 : TypeId} {l ms outs : List MW} {n : Nat} {sv o : Value} (h : OrdQ w0 w B b4 b7 mb e7 l ms outs n sv o) (hb : Below w.heap.size w w') (hB : B ≤ w.heap.size) : OrdQ w0 w' B b4 b7 mb e7 l ms outs n sv o :=
  ⟨owns_below h.own hb, h.ws, h.len, h.sub, h.map.keep hb, h.c4.keep hb, h.c7.keep hb, h.ss.keep hb, h.bw.trans (hb.mono hB)⟩
set_option maxRecDepth 100000 in
set_option maxHeartbeats 2000000 in
theorem ordered_any (v : Value) (l : List MW) (w : World) (h : SWk w v l) (ha : Aft w l) (hm : MLen w) (hs : ∀ m ∈ l, m.w.id.length ≤ maxLen) (hs2 : ∀ m ∈ l, ∀ s ∈ m.w.after, s.length ≤ maxLen) (hlt : ∀ a n c, v = .slice (some a) n c → 0 < n → a.block < w.heap.size) :
    Calls Tryz.prog 12 #[v] w fun e w' => ∃ ov outs, e = .returned (.tuple #[ov, .int .i64 (ordE (wl l))]) ∧ (ordE (wl l) = 0 → SWk w' ov outs ∧ wl outs = ordF (wl l) l.length ∧ ∀ m ∈ outs, m ∈ l) ∧ Below w.heap.size w w' := by
  have HS := Lib.hid h; have HA := Lib.hid ha; have HID := Lib.hid hs; have HID2 := Lib.hid hs2; have HM := Lib.hid hm; have HLT := Lib.hid hlt
  obtain ⟨a, cap, rfl, h1, h2, h3⟩ := h
  clear h3 ha hs hs2 hm hlt
  have hm : l.length ≤ 9223372036854775807 := by unfold maxLen at h2; omega
  go_enter Tryz.func12, Tryz.ntmps12
  go_wp2_with fail
  refine (jobs_any _ l w HS.out HA.out HM.out HID.out HID2.out).mono ?_
  rintro e w1 ⟨mo, rfl, hmj, h1'⟩
  have HB1 := Lib.hid h1'
  clear h1'
  by_cases hj : jobsE (wl l) = 0
  rotate_left
  · have HV : Hid (ordE (wl l) = jobsE (wl l)) := by show _ = _; unfold ordE; rw [if_neg hj]
    have hne : (jobsE (wl l) != 0) = true := bne_iff_ne.2 hj
    have HJ := Lib.hid hj
    have HB2 : Hid (Below w.heap.size w (w1.alloc (.cells #[.map mo] 68))) := HB1.out.alloc HB1.out.size _
    clear hj hmj
    go_wp2_with fail
    go_ret2
    exact ⟨.slice none 0 0, [], by rw [HV.out]; rfl, fun h => absurd (HV.out.symm.trans h) HJ.out, HB2.out⟩
  obtain ⟨mb, rfl, hmj2, hmb⟩ := hmj hj
  rw [hj]
  obtain ⟨q1, q2, q3⟩ := jobs_first hj
  have HJ := Lib.hid hj
  have HU := Lib.hid (jobs_uniq q1)
  have HK := Lib.hid q3
  rw [wl_len] at q2
  have hn : l.length ≤ 128 := by omega
  obtain ⟨W2, hW2⟩ : ∃ W2, w1.alloc (.cells #[.map (some mb)] 68) = W2 := ⟨_, rfl⟩
  have HC2 : Hid (Below w1.heap.size w1 W2) := by show Below ..; rw [← hW2]; exact (Below.refl _ _).alloc (Nat.le_refl _) _
  have HO4 : Hid (ObjAt W2 w1.heap.size #[.map (some mb)] 68) := by show ObjAt ..; rw [← hW2]; exact ObjAt.new _ _ _
  have HMD2 := Lib.hid ((MapD.start hmj2 hn).keep HC2.out)
  have HB2 := Lib.hid (ext_trans HB1.out HC2.out)
  have HMB := Lib.hid hmb
  have HW2 := Lib.hid hW2
  clear hj hmj q1 q2 q3 hmj2 hmb hW2
  go_upto_region 4 with fail
  rw [HW2.out]
  clear HW2
  go_wp2_with fail
  refine (Values_any a l.length cap W2).mono ?_
  rintro e w3 ⟨rfl, hw3⟩
  have HB3 : Hid (Below W2.heap.size W2 w3) := by show Below ..; rw [hw3]; exact (Below.refl _ _).alloc (Nat.le_refl _) _
  have HC3 : Hid (w3.cell? ⟨W2.heap.size, 0, none⟩ = some (.slice a l.length cap)) := by
    show _ = _; rw [hw3, cell_of_row _ _ 0 _ _ _ (World.alloc_heap_new W2 _)]; rfl
  have HZ3 : Hid (W2.heap.size < w3.heap.size) := by show _ < _; rw [hw3]; simp
  have HB4 := Lib.hid (ext_trans HB2.out HB3.out)
  clear hw3
  go_wp2_with fail
  refine (HZ3.out |> fun hz => sorted_any W2.heap.size (.slice a l.length cap) l (fun m hm => HA.out.sl hm) (by omega) w3 hz HC3.out (HS.out.keep HB4.out) (fun a' n c e h0 => Nat.lt_of_lt_of_le (HLT.out a' n c e h0) HB4.out.size)).mono ?_
  rintro e w4 ⟨sv, ms, rfl, hp, hsrt, hsw, h4⟩
  have HPM := Lib.hid hp; have HSR := Lib.hid hsrt; have HSW := Lib.hid hsw
  have HB5 := Lib.hid (ext_trans HB4.out h4)
  have HO5 := Lib.hid ((HO4.out.keep HB3.out).keep h4)
  have HMD5 := Lib.hid ((HMD2.out.keep HB3.out).keep h4)
  have HSBL : Hid (∀ a n c, sv = .slice (some a) n c → 0 < ms.length → a.block < w4.heap.size) := fun a n c e h0 => by
    obtain ⟨b, off, cap', e2, _, _, hlt, _⟩ := HSW.out.form h0
    rw [e2] at e
    simp only [Value.slice.injEq, Option.some.injEq] at e
    rw [← e.1]; exact hlt
  obtain ⟨sa', sc', rfl, s1, s2, s3⟩ := hsw
  clear hp hsrt h4 HC2 HO4 HMD2 HC3 HZ3 HB3 HB4 s3
  obtain ⟨W6, hW6⟩ : ∃ W6, w4.alloc (.cells #[.func (.func 32) #[] #[.pointer (some ⟨w1.heap.size, 0, none⟩)]] 58) = W6 := ⟨_, rfl⟩
  have HC6 : Hid (Below w4.heap.size w4 W6) := by show Below ..; rw [← hW6]; exact (Below.refl _ _).alloc (Nat.le_refl _) _
  have HO7 : Hid (ObjAt W6 w4.heap.size #[.func (.func 32) #[] #[.pointer (some ⟨w1.heap.size, 0, none⟩)]] 58) := by show ObjAt ..; rw [← hW6]; exact ObjAt.new _ _ _
  have HP0 : Hid (OrdQ w W6 w.heap.size w1.heap.size w4.heap.size mb 58 l ms [] 0 (.slice sa' ms.length sc') (.slice none 0 0)) := ⟨World.ownsRow_nil _ _ _ _, rfl, rfl, (fun m hm => by cases hm), HMD5.out.keep HC6.out, HO5.out.keep HC6.out, HO7.out, HSW.out.keep HC6.out, ext_trans HB5.out HC6.out⟩
  have HW6 := Lib.hid hW6
  clear hW6
  have HMB6 := Lib.hid HMB.out
  have HZ1 : Hid (w.heap.size ≤ w1.heap.size) := HB1.out.size
  have HZ4 : Hid (w.heap.size ≤ w4.heap.size) := HB5.out.size
  go_upto_region 7 with fail
  rw [HW6.out]
  clear HW6 HC6 HO7 HSW HMD5 HO5
  go_loopw [8] (fun o wr => ∃ (n : Nat) (outs : List MW), n ≤ l.length ∧ (∃ oa oc, o = .slice oa n oc) ∧ Hid (OrdQ w wr w.heap.size w1.heap.size w4.heap.size mb 58 l ms outs n (.slice sa' ms.length sc') o)) (fun o _ => l.length - lenS o)
  case atStart => exact ⟨0, [], Nat.zero_le _, ⟨_, _, rfl⟩, HP0⟩
  case round =>
    obtain ⟨n, outs, hnl, ⟨oa, oc, rfl⟩, hp⟩ := hrel
    obtain ⟨D, hD⟩ : ∃ D, (ordF (wl l) n).map (·.id) = D := ⟨_, rfl⟩
    have HFL : Hid ((ordF (wl l) n).length = n) := by show _ = _; rw [← hp.out.ws, wl_len, hp.out.len]
    have hDl : D.length = n := by rw [← hD, List.length_map]; exact HFL.out
    have HD := Lib.hid hD
    have hmd := hp.out.map
    rw [hD] at hmd
    have hlen := fun ty => hmd.len ty
    rw [hDl] at hlen
    have k4 : wr.cell? ⟨w1.heap.size, 0, none⟩ = some (.map (some mb)) := hp.out.c4.cell 0
    have HMD := Lib.hid hmd
    clear hD hDl hmd
    by_cases hlt : n < l.length
    · have hpos : (0 : Int) < ((l.length - n : Nat) : Int) := by omega
      go_wp2_with fail
      clear hlen hpos k4
      refine (indexFunc_W (.func (.func 34) #[] #[.pointer (some ⟨w4.heap.size, 0, none⟩)]) _ (fun m => m ∈ l) (mayB l D) ms wr hp.out.ss (fun m hm => HA.out.sl (HPM.out.mem_iff.1 hm)) (fun m hm => HPM.out.mem_iff.1 hm) ⟨_, _, rfl, enter_next, fun x w' hx hb => next_any w4.heap.size w1.heap.size mb l D x w' ((hp.out.c7.keep hb).cell 0) ((hp.out.c4.keep hb).cell 0) (HMD.out.keep hb) (HA.out.sl hx) ((HA.out x hx).keep (ext_trans hp.out.bw hb)) (HID.out x hx) (HID2.out x hx)⟩).mono ?_
      rintro e w7 ⟨rfl, h7⟩
      have HP7 := Lib.hid (hp.out.below h7 hp.out.bw.size)
      have HMD7 := Lib.hid (HMD.out.keep h7)
      have HFN := Lib.hid (findG_next (l := l) (ms := ms) HU.out HPM.out HSR.out HK.out D)
      obtain ⟨F, hF⟩ : ∃ F, findG (mayB l D) ms = F := ⟨_, rfl⟩
      rw [hF] at HFN ⊢
      clear hF h7 hp HMD
      rcases HFN.out with ⟨hneg, hnf⟩ | ⟨i, hi, rfl, hnf, hmay⟩
      · have HV : Hid (ordE (wl l) = 20) := ordE_stuck (n := n) HJ.out (by rw [wl_len]; exact hlt) HFL.out (by rw [HD.out]; exact hnf)
        have HB := Lib.hid HP7.out.bw
        clear HFN hnf HP7
        go_wp2_with fail
        go_ret2
        exact ⟨.slice none 0 0, [], by rw [HV.out]; rfl, fun h => absurd (HV.out.symm.trans h) (by decide), HB.out⟩
      · have HNF : Hid (ordF (wl l) (n + 1) = ordF (wl l) n ++ [(mri ms i).w]) := ordF_next (by rw [HD.out]; exact hnf)
        have hmem : mri ms i ∈ l := HPM.out.mem_iff.1 (mri_mem hi)
        have HMEM := Lib.hid hmem
        have hkn : (wl l).any (fun u => u.id == (mri ms i).w.id) = true := by
          rw [List.any_eq_true]; exact ⟨(mri ms i).w, by unfold wl; exact List.mem_map_of_mem hmem, by simp⟩
        have hnc : D.contains (mri ms i).w.id = false := by
          unfold mayB waitB at hmay
          rw [hkn] at hmay
          cases hq : D.contains (mri ms i).w.id with
          | false => rfl
          | true => rw [hq] at hmay; simp at hmay
        obtain ⟨w8, hdel, hmd8, htn⟩ := (HMD7.out.keep (Below.refl _ _).drew).drop (HID.out _ hmem) hkn hnc 0
        have HMD8 := Lib.hid hmd8; have HTN := Lib.hid htn
        have k4 : w7.cell? ⟨w1.heap.size, 0, none⟩ = some (.map (some mb)) := HP7.out.c4.cell 0
        have hss := HP7.out.ss
        obtain ⟨sb, so, rfl, hsc⟩ : ∃ b o, sa' = some ⟨b, o, none⟩ ∧ WkAt w7 b (o + i * 5) (mri ms i) := by
          obtain ⟨a', c', e', q1, q2, q3⟩ := hss
          simp only [Value.slice.injEq] at e'
          obtain ⟨rfl, _, rfl⟩ := e'
          exact q3 i hi
        have HSC := Lib.hid hsc
        have c0 := hsc.c0
        have i1 : (i : Int) < ms.length := by omega
        clear HFN hnf hmay hmem hkn hnc hmd8 htn hsc hss
        go_upto_region 11 with fail
        go_region
        have hb78 : Below w.heap.size w w8 := turned_below (HP7.out.bw.trans ((Below.refl _ _).drew)) HTN.out HMB6.out
        obtain ⟨es8, ec8, hblk⟩ := (HMD7.out.keep (Below.refl _ _).drew).blk
        have HOWN8 : Hid (OwnL w8 w4.heap.size (.slice oa n oc) outs) := World.ownsRow.kept (owns_below HP7.out.own (Below.refl _ _).drew) HTN.out.grown (.inr (own_map (owns_below HP7.out.own (Below.refl _ _).drew) hblk))
        have HC48 := Lib.hid (obj_turned HTN.out (HP7.out.c4.keep (Below.refl _ _).drew))
        have HC78 := Lib.hid (obj_turned HTN.out (HP7.out.c7.keep (Below.refl _ _).drew))
        have HSS8 := Lib.hid (swk_turned HTN.out (HP7.out.ss.keep (Below.refl _ _).drew))
        have HB8 := Lib.hid hb78
        have HWS := Lib.hid HP7.out.ws; have HLEN := Lib.hid HP7.out.len; have HSUB := Lib.hid HP7.out.sub
        obtain ⟨e0, e1, e2, e3, e4⟩ := HSC.out.keep (Below.refl w7.heap.size w7).drew
        have d0 := cell_turned HTN.out e0
        have d1 := cell_turned HTN.out e1
        have d2 := cell_turned HTN.out e2
        have d3 := cell_turned HTN.out e3
        have d4 := cell_turned HTN.out e4
        rw [HA.out.sl HMEM.out] at d4
        clear e0 e1 e2 e3 e4 hb78 hblk hdel k4 c0 HP7 HMD7 HSC
        have hzw : w.heap.size ≤ w8.heap.size := HB8.out.size
        have hzw4 : w4.heap.size ≤ w8.heap.size := Nat.le_of_lt (HC78.out.lt)
        have HOA : Hid (OwnL (w8.alloc (.cells (wkN (mri ms i)) 44)) w4.heap.size (.slice oa n oc) outs) := World.ownsRow.alloc HOWN8.out _
        have HCN := Lib.hid (cells_new w8 (wkN (mri ms i)) 44)
        have HL1 : Hid (outs.length ≤ 1000000) := by show _ ≤ _; rw [HLEN.out]; omega
        unfold wkN at HOA HCN
        go_wp2_with (at_builtin; refine wpList_app_W rfl (.tmp 36) (.tmp 41) rfl w4.heap.size _ outs (mri ms i) rfl HOA.out ⟨w8.heap.size, 0, none⟩ rfl HCN.out HL1.out ?c4 ?_)
        case c4 => first | omega | (simp; omega)
        intro v9 w9 ho9 hg9 _
        have HB9 := Lib.hid (grown_below HB8.out (fun q hq => Nat.le_trans HZ4.out (World.ownsRow.lt HOWN8.out q hq).1) _ hg9)
        obtain ⟨a9, n9, c9, hv9, hn9⟩ : ∃ a n c, v9 = .slice a n c ∧ n = (outs ++ [mri ms i]).length := by
          rcases (show World.ownsRow _ _ _ _ _ _ _ from ho9).2 with ⟨_, h0⟩ | ⟨g, cap, cur, e, _⟩
          · simp at h0
          · exact ⟨_, _, _, e, rfl⟩
        have hn10 : n9 = n + 1 := by rw [hn9, List.length_append, HLEN.out]; rfl
        subst hv9
        subst hn10
        obtain ⟨es8, ec8, hblk⟩ := HMD8.out.blk
        have hsub : ∀ m ∈ outs ++ [mri ms i], m ∈ l := fun m hm => by
          rcases List.mem_append.1 hm with hm | hm
          · exact HSUB.out m hm
          · rw [List.mem_singleton.1 hm]; exact HMEM.out
        have HP9 : Hid (OrdQ w w9 w.heap.size w1.heap.size w4.heap.size mb 58 l ms (outs ++ [mri ms i]) (n + 1) (.slice (some ⟨sb, so, none⟩) ms.length sc') (.slice a9 (n + 1) c9)) := by
          refine ⟨ho9, ?_, by rw [List.length_append, HLEN.out]; rfl, hsub, ?_, ?_, ?_, ?_, HB9.out⟩
          · rw [HNF.out, ← HWS.out]; unfold wl; rw [List.map_append]; rfl
          · rw [HNF.out, List.map_append, HD.out]
            exact (HMD8.out.keep ((Below.refl _ _).alloc (Nat.le_refl _) _)).grown hg9 (fun e => own_map HOWN8.out hblk e.symm)
          · exact (HC48.out.alloc _).grown hg9 (HC48.out.ne HOWN8.out (by decide))
          · exact (HC78.out.alloc _).grown hg9 (HC78.out.ne HOWN8.out (by decide))
          · exact (HSS8.out.keep ((Below.refl _ _).alloc (Nat.le_refl _) _)).grown hg9 (HSBL.out ⟨sb, so, none⟩ _ _ rfl (by omega)) (fun q hq => (World.ownsRow.lt HOWN8.out q hq).1)
        clear d0 d1 d2 d3 d4 HOA HCN ho9 hg9 hblk hsub hn9 HMD8 HOWN8 HC48 HC78 HSS8
        go_wp2_with fail
        go_roundw
        case rel => exact ⟨n + 1, _, by omega, ⟨_, _, rfl⟩, HP9⟩
        case measure => simp [lenS]; omega
    · obtain rfl : n = l.length := by omega
      have HV : Hid (ordE (wl l) = 0) := ordE_full HJ.out (by rw [wl_len]; exact HFL.out)
      have HSO := Lib.hid (OwnL.s hp.out.own (fun m hm => HA.out.sl (hp.out.sub m hm)))
      have HWS := Lib.hid hp.out.ws
      have HSUB := Lib.hid hp.out.sub
      have HB := Lib.hid hp.out.bw
      have hz : ((l.length - l.length : Nat) : Int) = 0 := by omega
      clear hp
      go_wp2_with fail
      go_ret2
      exact ⟨.slice oa l.length oc, outs, by rw [HV.out]; rfl, fun _ => ⟨HSO.out, HWS.out, HSUB.out⟩, HB.out⟩
end Go.Proofs.YtlmfcigabojbmaaGreatDoor
