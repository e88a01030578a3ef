/- The frame of shops' row: jobs and bays that came in; what the bound on the arguments gives. -/
import Derived.Test.YtlmfcigabojbmaaGreatDoorShoR
import Derived.Test.YtlmfcigabojbmaaGreatDoorShoK
import Derived.BigQuiet
import Derived.Laws.StructEq
import Derived.Test.YtlmfcigabojbmaaGreatDoorRowL
import Derived.Deep.DeepHandedRow
set_option linter.unusedSimpArgs false
set_option linter.unusedVariables false

/- Contract: Plan of shop. -/
namespace Go.Proofs.YtlmfcigabojbmaaGreatDoor
open Go.RowKit

theorem zero_int (w : World) : (zeroValue 3).run Tryz.prog w = .ok (.int .i64 0) w := by kernel_rfl
def kvI (P : List (List UInt8 × Int)) : KV := P.map fun p => (p.1, Value.int .i64 p.2)
theorem kvI_get (P : List (List UInt8 × Int)) (s : List UInt8) : getE (kvI P) s (.int .i64 0) = .int .i64 (endI P s) := by
  unfold getE endI kvI
  rw [List.find?_map]
  have : ((fun p : List UInt8 × Value => p.1 == s) ∘ fun p : List UInt8 × Int => (p.1, Value.int .i64 p.2)) = fun p => p.1 == s := rfl
  rw [this]
  cases P.find? (fun p => p.1 == s) <;> rfl
/-- block b is a map of these numbers -/
def MapI (w : World) (b n : Nat) (P : List (List UInt8 × Int)) : Prop := VM w b n (kvI P)
theorem MapI.keep {w w' : World} {b n : Nat} {P : List (List UInt8 × Int)} (h : MapI w b n P) (hb : Below w.heap.size w w') : MapI w' b n P := VM.keep h hb
theorem MapI.look {w : World} {b n : Nat} {P : List (List UInt8 × Int)} (h : MapI w b n P) {s : List UInt8} (hs : s.length ≤ maxLen) : (Instr.lookup 42 (.map (some b)) (.string (bs s)) false).run Tryz.prog w = .ok (.int .i64 (endI P s)) w := by
  rw [VM.look1 h Tryz.underlying42 (zero_int w) hs, kvI_get]
theorem MapI.store {w : World} {b n : Nat} {P : List (List UInt8 × Int)} (h : MapI w b n P) (hn : n < 1000) {s : List UInt8} (hs : s.length ≤ maxLen) (hh : s ∉ P.map (·.1)) (v : Int) :
    ∃ w', (Instr.mapUpdate 42 (.map (some b)) (.string (bs s)) (.int .i64 v)).run Tryz.prog w = .ok () w' ∧ MapI w' b (n + 1) (P ++ [(s, v)]) ∧ w.mapTurned w' b := by
  have e : hasE (kvI P) s = false := by
    rw [not_has]
    unfold kvI
    rw [List.map_map]
    exact hh
  obtain ⟨w', r1, r2, r3⟩ := VM.store h Tryz.underlying42 (by unfold maxLen; omega) hs e (.int .i64 v)
  refine ⟨w', r1, ?_, r3⟩
  unfold MapI kvI
  rw [List.map_append]
  exact r2
theorem MapI.blk {w : World} {b n : Nat} {P : List (List UInt8 × Int)} (h : MapI w b n P) : ∃ es c, w.heap[b]? = some (.map es c) := by
  obtain ⟨Dd, ⟨es, c, h1, _⟩, _⟩ := h; exact ⟨es, c, h1⟩
theorem lookF_take {E : List (List UInt8 × Int)} {A : List (List UInt8)} {k : Nat} (hk : k < A.length) : lookF E (A.take (k + 1)) 0 = max (lookF E (A.take k) 0) (endI E A[k]) := by
  unfold lookF; rw [List.take_succ_eq_append_getElem hk, List.foldl_append]; rfl
theorem ends_nodup {bays : List DBay} {l : List Wrk} {n k : Nat} {out : List Ber} (h : StepP bays (ordF l n) k out) : ((endsE out).map (·.1)).Nodup := by
  have e : (endsE out).map (·.1) = ((ordF l n).take k).map (·.id) := by rw [← planW_ids h.w]; unfold endsE; rw [List.map_map]; rfl
  rw [e]
  exact ((ordW l n).new).sublist (List.Sublist.map _ (List.take_sublist _ _))
theorem ends_new {bays : List DBay} {l : List Wrk} {n k : Nat} {out : List Ber} (h : StepP bays (ordF l n) k out) (hk : k < (ordF l n).length) : (ordF l n)[k].id ∉ (endsE out).map (·.1) := by
  have e : (endsE out).map (·.1) = ((ordF l n).take k).map (·.id) := by rw [← planW_ids h.w]; unfold endsE; rw [List.map_map]; rfl
  rw [e]
  have hnd := (ordW l n).new
  rw [← List.take_append_drop k (ordF l n), List.map_append] at hnd
  intro hm
  have h2 := (List.nodup_append.1 hnd).2.2 _ hm ((ordF l n)[k].id) (List.mem_map.2 ⟨(ordF l n)[k], by rw [List.drop_eq_getElem_cons hk]; exact List.mem_cons_self .., rfl⟩)
  exact h2 rfl
theorem until_look {out : List Ber} (hd : ((endsE out).map (·.1)).Nodup) (A : List (List UInt8)) : lookF (endsE out) A 0 = untilF A out := by
  rw [lookF_max hd, until_max]
theorem endsE_snoc (out : List Ber) (y : Ber) : endsE (out ++ [y]) = endsE out ++ [(y.hull, y.b)] := by unfold endsE; rw [List.map_append]; rfl
theorem wl_at {outs : List MW} {ws : List Wrk} (h : wl outs = ws) {k : Nat} (hk : k < outs.length) (hk' : k < ws.length) : (mri outs k).w = ws[k] := by
  subst h; rw [mri_lt hk]; simp [wl]
theorem setRow_grown (w : World) (g : Nat) (cs : Array Value) : w.grownBy (w.setRow g cs) (some g) :=
  ⟨rfl, rfl, rfl, Nat.le_of_eq (size_setRow w g cs).symm, fun k _ hne => setRow_other w g k cs (fun e => hne (by rw [e]))⟩
set_option maxRecDepth 100000 in
set_option maxHeartbeats 2000000 in
theorem Plan_any (v bv : Value) (l : List MW) (bays : List DBay) (w : World) (h : SWk w v l) (ha : Aft w l) (hb : SD w bv bays) (hm : MLen w) (hsd : StrD bays maxLen) (hs : ∀ m ∈ l, m.w.id.length ≤ maxLen) (hs2 : ∀ m ∈ l, ∀ s ∈ m.w.after, s.length ≤ maxLen) (hlt : ∀ a n c, v = .slice (some a) n c → 0 < n → a.block < w.heap.size) :
    Calls Tryz.prog 4 #[v, bv] w fun e w' => ∃ a c, e = .returned (.tuple #[.slice a (planR (wl l) bays).2.length c, .int .i64 (planR (wl l) bays).1]) ∧ SB w' (.slice a (planR (wl l) bays).2.length c) (planR (wl l) bays).2 ∧ Below w.heap.size w w' := by
  have HS := Lib.hid h; have HA := Lib.hid ha; have HID := Lib.hid hs; have HID2 := Lib.hid hs2; have HM := Lib.hid hm; have HBV := Lib.hid hb; have HSD := Lib.hid hsd
  have HWM : Hid (0 < w.heap.size) := by obtain ⟨m, hm⟩ := hm; exact World.block_lt_of_cell? w _ hm
  have HORD := Lib.hid (ordered_any v l w h ha hm hs hs2 hlt)
  obtain ⟨a, cap, rfl, h1, h2, h3⟩ := h
  obtain ⟨da, dc, rfl, d1, d2, d3⟩ := hb
  clear h3 ha hs hs2 hm hlt d3 hsd
  unfold maxLen at d2
  have hm : l.length ≤ 9223372036854775807 := by unfold maxLen at h2; omega
  have hmm := @run_makeMap Tryz.prog
  go_enter Tryz.func4, Tryz.ntmps4
  go_wp2_with fail
  refine HORD.out.mono ?_
  rintro e w1 ⟨ov, outs, rfl, hov, h1'⟩
  have HB1 := Lib.hid h1'
  clear h1' HORD
  by_cases ho : ordE (wl l) = 0
  rotate_left
  · have HV : Hid (planR (wl l) bays = (ordE (wl l), [])) := planR_ord ho
    have hne : (ordE (wl l) != 0) = true := bne_iff_ne.2 ho
    clear ho hov
    go_wp2_with fail
    go_ret2
    exact ⟨none, 0, by rw [HV.out]; rfl, by rw [HV.out]; exact SB_nil _, HB1.out⟩
  obtain ⟨hsw, hws, hsub⟩ := hov ho
  rw [ho]
  have HSW := Lib.hid hsw; have HSUB := Lib.hid hsub
  obtain ⟨hj, hol⟩ := ordE_jobs ho
  obtain ⟨q1, q2, q3⟩ := jobs_first hj
  have HJR := Lib.hid (fun u hu => job_right q1 (w := u) hu)
  rw [wl_len] at hol q2
  have hn : l.length ≤ 128 := by omega
  have HST := Lib.hid (fun h1 h3 => planR_stop (l := wl l) (bays := bays) ho h1 (by rw [wl_len]; exact h3))
  have HFU := Lib.hid (fun h1 p h3 => planR_full (l := wl l) (bays := bays) (p := p) ho h1 (by rw [wl_len]; exact h3))
  have HPB := Lib.hid (fun h1 => planR_bays (l := wl l) (bays := bays) ho h1)
  have HHU := Lib.hid (fun k out (h : StepP bays (ordF (wl l) l.length) k out) => plan_hulls h HID.out)
  have HEN := Lib.hid (fun k out (h : StepP bays (ordF (wl l) l.length) k out) => ends_nodup h)
  have HEW := Lib.hid (fun k out (h : StepP bays (ordF (wl l) l.length) k out) hk => ends_new h hk)
  have hlo : outs.length = l.length := by have := congrArg List.length hws; rw [wl_len, hol] at this; exact this
  have HWA := Lib.hid (fun k hk hk' => wl_at hws (k := k) hk hk')
  obtain ⟨ws, hwse⟩ : ∃ ws, ordF (wl l) l.length = ws := ⟨_, rfl⟩
  rw [hwse] at hol HST HFU HHU HEN HEW HWA
  have HOL := Lib.hid hol; have HLO := Lib.hid hlo
  obtain ⟨oa, oc, rfl, o1, o2, o3⟩ := hsw
  have O3 := Lib.hid o3
  clear ho hov hj q1 q2 q3 hws hsub hwse hol o3
  have hlo2 : outs.length ≤ 9223372036854775807 := by omega
  go_wp2_with fail
  refine (Check_any _ _ bays [] w1 (HBV.out.keep HB1.out) (SB_nil _).y (HM.out.keep HB1.out) HSD.out ⟨fun u hu => by cases hu⟩).mono ?_
  rintro e w2 ⟨rfl, h2'⟩
  have HB2 := Lib.hid (ext_trans HB1.out h2')
  have HB12 := Lib.hid h2'
  clear h2' HSW
  by_cases hp : planE bays [] = 0
  rotate_left
  · have HV : Hid (planR (wl l) bays = (planE bays [], [])) := HPB.out hp
    have hne : (planE bays [] != 0) = true := bne_iff_ne.2 hp
    clear hp
    go_wp2_with fail
    go_ret2
    exact ⟨none, 0, by rw [HV.out]; rfl, by rw [HV.out]; exact SB_nil _, HB2.out⟩
  rw [hp]
  have HP := Lib.hid hp
  clear hp HPB
  obtain ⟨W3, hW3⟩ : ∃ W3, w2.alloc (.map #[] 0) = W3 := ⟨_, rfl⟩
  have HMI0 : Hid (MapI W3 w2.heap.size 0 (endsE [])) := by show MapI ..; rw [← hW3]; exact VM.made w2
  have HC3 : Hid (Below w2.heap.size w2 W3) := by show Below ..; rw [← hW3]; exact (Below.refl _ _).alloc (Nat.le_refl _) _
  have HW3 := Lib.hid hW3
  clear hW3
  go_wp2_with fail
  rw [HW3.out]
  clear HW3 hmm
  go_loopw [10, 34] (fun o i wr => ∃ k : Nat, k ≤ outs.length ∧ i = .int .i64 k ∧ (∃ oa n oc, o = .slice oa n oc) ∧ Hid (∃ out, StepP bays ws k out ∧ OwnB wr w2.heap.size o out ∧ MapI wr w2.heap.size k (endsE out)) ∧ Hid (Below w2.heap.size w2 wr)) (fun _ i _ => outs.length - (intOf i).toNat)
  case atStart => exact ⟨0, Nat.zero_le _, rfl, ⟨_, _, _, rfl⟩, Lib.hid ⟨[], StepP.zero ws HP.out, OwnB_nil _ _, HMI0.out⟩, HC3⟩
  case round =>
    obtain ⟨k, hk, rfl, ⟨pa, pn, pc, rfl⟩, hso, hbr⟩ := hrel
    obtain ⟨WR, hWR⟩ : ∃ WR, WR = wr := ⟨_, rfl⟩
    subst hWR
    obtain ⟨out, hst, hown, hmi⟩ := hso.out
    have HSTP := Lib.hid hst; have HOWN := Lib.hid hown; have HMI := Lib.hid hmi
    clear hst hown hmi hso
    by_cases hlt : k < outs.length
    · have hlt' : k < ws.length := by rw [HOL.out, ← HLO.out]; exact hlt
      have HKW := Lib.hid (HWA.out k hlt hlt')
      obtain ⟨b, off, rfl, hc⟩ := O3.out k hlt
      have HBW := Lib.hid (ext_trans HB2.out hbr.out)
      have hml : mri outs k ∈ l := HSUB.out _ (mri_mem hlt)
      have HML := Lib.hid hml
      have hsl := HA.out.sl hml
      obtain ⟨va, vc, hav, a1, a2, a3⟩ : ∃ a c, (mri outs k).av = .slice a (mri outs k).w.after.length c ∧ (mri outs k).w.after.length ≤ c ∧ c ≤ maxLen ∧ ∀ i (hi : i < (mri outs k).w.after.length), ∃ b off, a = some ⟨b, off, none⟩ ∧ w.cell? ⟨b, off + i, none⟩ = some (.string (bs (mri outs k).w.after[i])) := by
        obtain ⟨j, hj, hjm⟩ := mem_mri hml
        rw [← hjm]; exact HA.out.form hj
      have A3 := Lib.hid a3
      have HAV := Lib.hid hav
      obtain ⟨c0, c1, c2, c3, c4⟩ := (hc.keep HB12.out).keep hbr.out
      rw [hav] at c4
      obtain ⟨W2, HO1, HC1, HW, _⟩ := copyW WR (mri outs k) hav
      have hm3 : (mri outs k).w.after.length ≤ 9223372036854775807 := by unfold maxLen at a2; omega
      have HN := Lib.hid (HEN.out k out HSTP.out)
      have HMI2 := Lib.hid (HMI.out.keep HC1.out)
      clear hc hav a3 hml hsl
      go_upto_region 13 with fail
      rw [HW.out]
      clear c0 c1 c2 c3 c4 HW
      obtain ⟨c0, c1, c2, c3, c4⟩ := wkC HO1.out
      rw [HAV.out] at c4
      go_wp2_with fail
      clear c0 c1 c2 c3 c4
      go_loopw [13, 41] (fun t i w' => ∃ m : Nat, m ≤ (mri outs k).w.after.length ∧ i = .int .i64 m ∧ t = .int .i64 (lookF (endsE out) ((mri outs k).w.after.take m) 0) ∧ W2 = w') (fun _ i _ => (mri outs k).w.after.length - (intOf i).toNat)
      case atStart => exact ⟨0, Nat.zero_le _, rfl, rfl, rfl⟩
      case round =>
        obtain ⟨m, hm2, rfl, rfl, rfl⟩ := hrel
        by_cases hlt2 : m < (mri outs k).w.after.length
        · obtain ⟨ab, ao, rfl, hac⟩ := A3.out m hlt2
          have hcc := cell_keep (ext_trans HBW.out HC1.out) hac
          have hlook := HMI2.out.look (HID2.out _ HML.out _ (List.getElem_mem hlt2))
          have HT := Lib.hid (lookF_take (E := endsE out) hlt2)
          obtain ⟨q, hq⟩ : ∃ q, lookF (endsE out) ((mri outs k).w.after.take m) 0 = q := ⟨_, rfl⟩
          rw [hq] at HT ⊢
          clear hac hq
          go_wp2_with fail
          go_roundw
          case rel => exact ⟨m + 1, by omega, by go_num, by rw [HT.out], by first | rfl | trivial⟩
          case measure => simp [intOf]; omega
        · obtain rfl : m = (mri outs k).w.after.length := by omega
          have HT : Hid (lookF (endsE out) ((mri outs k).w.after.take (mri outs k).w.after.length) 0 = untilF (mri outs k).w.after out) := by show _ = _; rw [List.take_length, until_look HN.out]
          rw [HT.out]
          obtain ⟨T, hT⟩ : ∃ T, untilF (mri outs k).w.after out = T := ⟨_, rfl⟩
          have hTr := HSTP.out.until_range (mri outs k).w.after
          rw [hT] at hTr ⊢
          have HTT := Lib.hid hT
          clear hT HT
          obtain ⟨y, e, hfv, hye⟩ := fitV_form bays out (wrkBer (mri outs k).w T) (mri outs k).w.hours
          have HFV := Lib.hid hfv; have HYE := Lib.hid hye
          have hjr := HJR.out (mri outs k).w (by unfold wl; exact List.mem_map_of_mem HML.out)
          have HAK := Lib.hid (ask_wrk hjr.2 hTr.1 hTr.2)
          have HIB := Lib.hid hjr.1
          have HOK := Lib.hid ((planE_iff bays out).2 HSTP.out.ok)
          have HSB := Lib.hid (HHU.out k out HSTP.out)
          have HLE := Lib.hid HSTP.out.len
          have HOWN2 := Lib.hid (HOWN.out.below HC1.out)
          obtain ⟨W5, hW5⟩ : ∃ W5, W2.alloc (.cells (syCs (wrkBer (mri outs k).w T)) 50) = W5 := ⟨_, rfl⟩
          have HC5 : Hid (Below W2.heap.size W2 W5) := by show Below ..; rw [← hW5]; exact (Below.refl _ _).alloc (Nat.le_refl _) _
          have HY5 : Hid (ObjAt W5 W2.heap.size (syCs (wrkBer (mri outs k).w T)) 50) := by show ObjAt ..; rw [← hW5]; exact ObjAt.new _ _ _
          have HW5 : Hid (W2.alloc (.cells #[.string (bs (mri outs k).w.id), .string ⟨#[]⟩, .int .i64 0, .int .i64 0, .int .i64 (mri outs k).w.len, .int .i64 (mri outs k).w.wid, .int .i64 T, .int .i64 0] 50) = W5) := hW5
          obtain ⟨c0, c1, c2, c3, c4⟩ := wkC HO1.out
          rw [HAV.out] at c4
          clear hfv hye hjr hTr hW5 HN HMI2 hm2 hlt2
          go_upto_region 19 with fail
          rw [HW5.out]
          clear c0 c1 c2 c3 c4 HW5
          have HBW5 := Lib.hid (ext_trans HBW.out (ext_trans HC1.out HC5.out))
          have HBR5 := Lib.hid (ext_trans HC1.out HC5.out)
          obtain ⟨c0, c1, c2, c3, c4⟩ := wkC (HO1.out.keep HC5.out)
          rw [HAV.out] at c4
          obtain ⟨p0, p1, p2, p3, p4, p5, p6, p7⟩ := syC HY5.out
          go_wp2_with fail
          clear c0 c1 c2 c3 c4 p0 p1 p2 p3 p4 p5 p6 p7
          refine (Fit_any _ _ bays out (wrkBer (mri outs k).w T) (mri outs k).w.hours W5 (HBV.out.keep HBW5.out) (HOWN2.out.below HC5.out).s (HM.out.keep HBW5.out) HSD.out HSB.out (HID.out _ HML.out) (by rw [HLE.out]; omega) HOK.out HIB.out HAK.out rfl rfl (Nat.lt_of_lt_of_le HWM.out HBW5.out.size)).mono ?_
          rintro e' w6 ⟨rfl, h6⟩
          rw [HFV.out]
          have HY6 := Lib.hid (HY5.out.keep h6)
          have HBR6 := Lib.hid (ext_trans HBR5.out h6)
          have HO6 := Lib.hid ((HO1.out.keep HC5.out).keep h6)
          obtain ⟨W7, hW7⟩ : ∃ W7, w6.setRow W2.heap.size (syCs y) = W7 := ⟨_, rfl⟩
          have HBR7 : Hid (Below WR.heap.size WR W7) := by show Below ..; rw [← hW7]; exact below_setRow HBR6.out HC1.out.size _
          have HY7 : Hid (ObjAt W7 W2.heap.size (syCs y) 50) := by show ObjAt ..; rw [← hW7]; exact setRow_heap _ _ _ _ _ _ HY6.out
          have HO7 : Hid (ObjAt W7 WR.heap.size (wkA (mri outs k)) 44) := by
            show ObjAt ..
            rw [← hW7]
            exact HO6.out.grown (setRow_grown w6 W2.heap.size (syCs y)) (fun e => by have := Option.some.inj e; have := HO1.out.lt; omega)
          have HW7 := Lib.hid hW7
          clear h6 hW7 HAK HIB HOK HSB HC5 HY5 HBR5 HOWN2
          go_upto_region 20 with ((refine wpList_store_row (o := ⟨none, .store _ _ _, _, _, _, _⟩) rfl 50 (.tmp 16) (.tmp 67) rfl W2.heap.size (syCs y) rfl rfl 50 _ HY6.out info_Berth rfl (one_ber _) ?_); (rw [HW7.out]))
          clear HW7 HY6 HBR6 HO6 HO1 HC1
          have HBW7 := Lib.hid (ext_trans HBW.out HBR7.out)
          have HB27 := Lib.hid (ext_trans hbr.out HBR7.out)
          rcases HYE.out with ⟨rfl, hfit⟩ | ⟨rfl, hfit⟩
          rotate_left
          · have HV : Hid (planR (wl l) bays = (18, [])) := HST.out HP.out (plan_stop hlt' HSTP.out.f (by rw [← HKW.out, HTT.out]; exact hfit))
            clear hfit HYE HFV
            go_wp2_with fail
            go_ret2
            exact ⟨none, 0, by rw [HV.out]; rfl, by rw [HV.out]; exact SB_nil _, HBW7.out⟩
          · have HS2 := Lib.hid (HSTP.out.more HP.out hlt' (by rw [HOL.out]; exact hn) (y := y) (by rw [← HKW.out, HTT.out]; exact hfit))
            have HYH : Hid (y.hull = (mri outs k).w.id) := (fitF_some hfit).2.1
            have hnew := HEW.out k out HSTP.out hlt'
            rw [← HKW.out] at hnew
            obtain ⟨w8, hst, hmi8, htn⟩ := (HMI.out.keep HBR7.out).store (by omega) (HID.out _ HML.out) hnew y.b
            have HMI8 := Lib.hid hmi8; have HTN := Lib.hid htn
            have HB8 := Lib.hid (turned_below HB27.out htn (Nat.le_refl _))
            obtain ⟨es7, ec7, hblk⟩ := (HMI.out.keep HBR7.out).blk
            have HOWN8 : Hid (OwnB w8 w2.heap.size (.slice pa pn pc) out) := World.ownsRow.kept (HOWN.out.below HBR7.out) htn.grown (.inr (own_map (HOWN.out.below HBR7.out) hblk))
            have HY8 := Lib.hid (obj_turned htn HY7.out)
            obtain ⟨c0, c1, c2, c3, c4⟩ := wkC HO7.out
            have p7 := (syC HY7.out).c7
            clear hfit HYE HFV hnew hmi8 htn hblk c1 c2 c3 c4
            go_upto_region 23 with fail
            clear c0 p7 hst
            obtain ⟨p0, p1, p2, p3, p4, p5, p6, p7⟩ := syC HY8.out
            have hzw : w2.heap.size ≤ w8.heap.size := HB8.out.size
            have HOA := Lib.hid (HOWN8.out.alloc (.cells #[.string (bs y.hull), .string (bs y.dock), .int .i64 y.x, .int .i64 y.y, .int .i64 y.len, .int .i64 y.wid, .int .i64 y.a, .int .i64 y.b] 50))
            have HSA := Lib.hid (sB_one (bAt_new w8 y 50))
            unfold syCs at HSA
            have HL1 : Hid (out.length + ([y] : List Ber).length ≤ 1000000) := by show _ ≤ _; rw [HLE.out]; simp only [List.length_singleton]; omega
            go_wp2_with (at_builtin; refine wpList_app_B rfl (.tmp 77) (.tmp 79) rfl w2.heap.size _ out [y] rfl HOA.out ⟨w8.heap.size, 0, none⟩ 1 1 rfl HSA.out HL1.out ?c4 ?_)
            case c4 => first | omega | (simp; omega)
            intro v9 w9 ho9 hg9 _
            have HB9 := Lib.hid (grown_below HB8.out (fun q hq => (OwnB.lt HOWN8.out q hq).1) _ hg9)
            obtain ⟨a9, n9, c9, rfl⟩ : ∃ a n c, v9 = .slice a n c := by obtain ⟨a, c, e, _⟩ := ho9.s; exact ⟨_, _, _, e⟩
            obtain ⟨es8, ec8, hblk⟩ := HMI8.out.blk
            have HO9 : Hid (∃ out, StepP bays ws (k + 1) out ∧ OwnB w9 w2.heap.size (.slice a9 n9 c9) out ∧ MapI w9 w2.heap.size (k + 1) (endsE out)) := by
              refine ⟨out ++ [y], HS2.out, ho9, ?_⟩
              have e1 : endsE (out ++ [y]) = endsE out ++ [((mri outs k).w.id, y.b)] := by rw [endsE_snoc, HYH.out]
              rw [e1]
              exact VM.kept (VM.keep HMI8.out ((Below.refl _ _).alloc (Nat.le_refl _) _)) hg9 (fun e => own_map HOWN8.out hblk e.symm)
            clear ho9 hg9 HOA HSA p0 p1 p2 p3 p4 p5 p6 p7 hblk
            go_wp2_with fail
            go_roundw
            case rel => exact ⟨k + 1, by omega, by go_num, ⟨_, _, _, rfl⟩, HO9, HB9⟩
            case measure => simp [intOf]; omega
    · obtain rfl : k = outs.length := by omega
      have HV : Hid (planR (wl l) bays = (0, out)) := HFU.out HP.out out (by have := HSTP.out.f; rw [List.take_of_length_le (by rw [HOL.out, HLO.out]; exact Nat.le_refl _)] at this; exact this)
      have HBW := Lib.hid (ext_trans HB2.out hbr.out)
      have HSO := Lib.hid HOWN.out.s
      have HPN := Lib.hid HSO.out.n
      go_wp2_with fail
      go_ret2
      exact ⟨pa, pc, by rw [HV.out, ← HPN.out]; rfl, by rw [HV.out, ← HPN.out]; exact HSO.out, HBW.out⟩
end Go.Proofs.YtlmfcigabojbmaaGreatDoor

/- Contract: Critical of shop. -/
namespace Go.Proofs.YtlmfcigabojbmaaGreatDoor
open Go.RowKit

theorem critE_take {ws : List Wrk} {k : Nat} (hk : k < ws.length) : critE (ws.take (k + 1)) = critE (ws.take k) ++ [(ws[k].id, maxA (critE (ws.take k)) ws[k].after + ws[k].hours)] := by
  rw [List.take_succ_eq_append_getElem hk, critE_snoc]
theorem critE_keys (ws : List Wrk) : ∀ k, k ≤ ws.length → (critE (ws.take k)).map (·.1) = (ws.take k).map (·.id)
  | 0, _ => rfl
  | k + 1, h => by rw [critE_take (by omega), List.map_append, critE_keys ws k (by omega), List.take_succ_eq_append_getElem (by omega), List.map_append]; rfl
theorem critE_le (ws : List Wrk) (h : ∀ w ∈ ws, 1 ≤ w.hours ∧ w.hours ≤ 1048576) : ∀ k, k ≤ ws.length → ∀ p ∈ critE (ws.take k), p.2 ≤ k * 1048576
  | 0, _ => fun p hp => by cases hp
  | k + 1, hk => fun p hp => by
    rw [critE_take (by omega)] at hp
    have ih := critE_le ws h k (by omega)
    rcases List.mem_append.1 hp with hp | hp
    · have := ih p hp; omega
    · rw [List.mem_singleton] at hp
      subst hp
      have h1 : maxA (critE (ws.take k)) ws[k].after ≤ k * 1048576 := maxA_le _ 0 (by omega) fun q hq _ => ih q hq
      have := h ws[k] (List.getElem_mem _)
      show maxA (critE (ws.take k)) ws[k].after + ws[k].hours ≤ _
      omega
theorem maxA_nonneg (E : List (List UInt8 × Int)) (A : List (List UInt8)) : 0 ≤ maxA E A := by
  have := (fold_le (fun p : List UInt8 × Int => A.contains p.1) (·.2) E 0 (maxA E A)).1 (Int.le_refl _)
  exact this.1
theorem critL_take {ws : List Wrk} {k : Nat} (hk : k < ws.length) : critL (ws.take (k + 1)) = max (critL (ws.take k)) (maxA (critE (ws.take k)) ws[k].after + ws[k].hours) := by
  unfold critL; rw [critE_take hk, List.foldl_append]; rfl
theorem endI_snoc {E : List (List UInt8 × Int)} {s : List UInt8} (h : s ∉ E.map (·.1)) (v : Int) : endI (E ++ [(s, v)]) s = v := by
  unfold endI
  rw [List.find?_append, List.find?_eq_none.2 (fun p hp => by
    intro e; exact h (List.mem_map.2 ⟨p, hp, eq_of_beq e⟩))]
  simp
theorem ids_nodup (l : List Wrk) (n k : Nat) : (((ordF l n).take k).map (·.id)).Nodup := ((ordW l n).new).sublist (List.Sublist.map _ (List.take_sublist _ _))
theorem ids_new {l : List Wrk} {n k : Nat} (hk : k < (ordF l n).length) : (ordF l n)[k].id ∉ ((ordF l n).take k).map (·.id) := by
  have hnd := (ordW l n).new
  rw [← List.take_append_drop k (ordF l n), List.map_append] at hnd
  intro hm
  have h2 := (List.nodup_append.1 hnd).2.2 _ hm ((ordF l n)[k].id) (List.mem_map.2 ⟨(ordF l n)[k], by rw [List.drop_eq_getElem_cons hk]; exact List.mem_cons_self .., rfl⟩)
  exact h2 rfl
set_option maxRecDepth 100000 in
set_option maxHeartbeats 2000000 in
theorem Critical_any (v : Value) (l : List MW) (w : World) (h : SWk w v l) (ha : Aft w l) (hm : MLen w) (hs : ∀ m ∈ l, m.w.id.length ≤ maxLen) (hs2 : ∀ m ∈ l, ∀ s ∈ m.w.after, s.length ≤ maxLen) (hlt : ∀ a n c, v = .slice (some a) n c → 0 < n → a.block < w.heap.size) (ho : ordE (wl l) = 0) :
    Calls Tryz.prog 7 #[v] w (Ret w (.tuple #[.int .i64 (critL (ordF (wl l) l.length)), .int .i64 0])) := by
  have HS := Lib.hid h; have HA := Lib.hid ha; have HID := Lib.hid hs; have HID2 := Lib.hid hs2
  have HORD := Lib.hid (ordered_any v l w h ha hm hs hs2 hlt)
  obtain ⟨a, cap, rfl, h1, h2, h3⟩ := h
  clear h3 ha hs hs2 hm hlt
  have hm : l.length ≤ 9223372036854775807 := by unfold maxLen at h2; omega
  have hmm := @run_makeMap Tryz.prog
  go_enter Tryz.func7, Tryz.ntmps7
  go_wp2_with fail
  refine HORD.out.mono ?_
  rintro e w1 ⟨ov, outs, rfl, hov, h1'⟩
  have HB1 := Lib.hid h1'
  obtain ⟨hsw, hws, hsub⟩ := hov ho
  rw [ho]
  have HSW := Lib.hid hsw; have HSUB := Lib.hid hsub
  obtain ⟨hj, hol⟩ := ordE_jobs ho
  obtain ⟨q1, q2, q3⟩ := jobs_first hj
  have HJR := Lib.hid (fun u hu => job_right q1 (w := u) hu)
  rw [wl_len] at hol q2
  have hn : l.length ≤ 128 := by omega
  have hlo : outs.length = l.length := by have := congrArg List.length hws; rw [wl_len, hol] at this; exact this
  have HWA := Lib.hid (fun k hk hk' => wl_at hws (k := k) hk hk')
  have HND := Lib.hid (ids_nodup (wl l) l.length)
  have HNW := Lib.hid (fun k => ids_new (l := wl l) (n := l.length) (k := k))
  have HWE := Lib.hid (ordW (wl l) l.length).mem
  obtain ⟨ws, hwse⟩ : ∃ ws, ordF (wl l) l.length = ws := ⟨_, rfl⟩
  rw [hwse] at hol HWA HND HNW HWE ⊢
  have HWSE := Lib.hid hwse
  have HOL := Lib.hid hol; have HLO := Lib.hid hlo
  have HLE := Lib.hid (critE_le ws (fun u hu => (rangeW_iff.1 (HJR.out u (HWE.out u hu)).2).1))
  have HKY := Lib.hid (critE_keys ws)
  obtain ⟨oa, oc, rfl, o1, o2, o3⟩ := hsw
  have O3 := Lib.hid o3
  clear h1' hov hj q1 q2 q3 hws hsub hwse hol o3 HORD
  have hlo2 : outs.length ≤ 9223372036854775807 := by omega
  obtain ⟨W3, hW3⟩ : ∃ W3, w1.alloc (.map #[] 0) = W3 := ⟨_, rfl⟩
  have HMI0 : Hid (MapI W3 w1.heap.size 0 (critE (ws.take 0))) := by show MapI ..; rw [← hW3]; exact VM.made w1
  have HC3 : Hid (Below w1.heap.size w1 W3) := by show Below ..; rw [← hW3]; exact (Below.refl _ _).alloc (Nat.le_refl _) _
  have HW3 := Lib.hid hW3
  clear hW3
  go_wp2_with fail
  rw [HW3.out]
  clear HW3 hmm
  go_loopw [6, 24] (fun t i wr => ∃ k : Nat, k ≤ outs.length ∧ i = .int .i64 k ∧ t = .int .i64 (critL (ws.take k)) ∧ Hid (MapI wr w1.heap.size k (critE (ws.take k))) ∧ Hid (Below w1.heap.size w1 wr)) (fun _ i _ => outs.length - (intOf i).toNat)
  case atStart => exact ⟨0, Nat.zero_le _, rfl, rfl, HMI0, HC3⟩
  case round =>
    obtain ⟨k, hk, rfl, rfl, hmi, hbr⟩ := hrel
    by_cases hlt : k < outs.length
    · have hlt' : k < ws.length := by rw [HOL.out, ← HLO.out]; exact hlt
      have HKW := Lib.hid (HWA.out k hlt hlt')
      obtain ⟨b, off, rfl, hc⟩ := O3.out k hlt
      have HBW := Lib.hid (ext_trans HB1.out hbr.out)
      have hml : mri outs k ∈ l := HSUB.out _ (mri_mem hlt)
      have HML := Lib.hid hml
      obtain ⟨va, vc, hav, a1, a2, a3⟩ : ∃ a c, (mri outs k).av = .slice a (mri outs k).w.after.length c ∧ (mri outs k).w.after.length ≤ c ∧ c ≤ maxLen ∧ ∀ i (hi : i < (mri outs k).w.after.length), ∃ b off, a = some ⟨b, off, none⟩ ∧ w.cell? ⟨b, off + i, none⟩ = some (.string (bs (mri outs k).w.after[i])) := by
        obtain ⟨j, hj, hjm⟩ := mem_mri hml
        rw [← hjm]; exact HA.out.form hj
      have A3 := Lib.hid a3
      have HAV := Lib.hid hav
      obtain ⟨c0, c1, c2, c3, c4⟩ := hc.keep hbr.out
      rw [hav] at c4
      obtain ⟨WR, hWR⟩ : ∃ WR, WR = wr := ⟨_, rfl⟩
      subst hWR
      obtain ⟨W2, HO1, HC1, HW, _⟩ := copyW WR (mri outs k) hav
      have hm3 : (mri outs k).w.after.length ≤ 9223372036854775807 := by unfold maxLen at a2; omega
      have HMI2 := Lib.hid (hmi.out.keep HC1.out)
      have HB2 := Lib.hid (ext_trans hbr.out HC1.out)
      have HCT := Lib.hid (critE_take hlt')
      have HCL := Lib.hid (critL_take hlt')
      rw [← HKW.out] at HCT HCL
      have HNE : Hid ((mri outs k).w.id ∉ (critE (ws.take k)).map (·.1)) := by show _ ∉ _; rw [HKW.out, HKY.out k (by omega)]; exact HNW.out k hlt'
      have HNDE : Hid (((critE (ws.take k)).map (·.1)).Nodup) := by show List.Nodup _; rw [HKY.out k (by omega)]; exact HND.out k
      have HLK := Lib.hid (HLE.out k (by omega))
      obtain ⟨E, hE⟩ : ∃ E, critE (ws.take k) = E := ⟨_, rfl⟩
      rw [hE] at HMI2 HCT HCL HNE HNDE HLK
      obtain ⟨CL, hCL⟩ : ∃ CL, critL (ws.take k) = CL := ⟨_, rfl⟩
      rw [hCL] at HCL ⊢
      clear hc hav a3 hml hmi hE hCL
      go_upto_region 10 with fail
      rw [HW.out]
      clear c0 c1 c2 c3 c4 HW
      obtain ⟨c0, c1, c2, c3, c4⟩ := wkC HO1.out
      rw [HAV.out] at c4
      go_wp2_with fail
      clear c0 c1 c2 c3 c4
      go_loopw [10, 31] (fun t i w' => ∃ m : Nat, m ≤ (mri outs k).w.after.length ∧ i = .int .i64 m ∧ t = .int .i64 (lookF E ((mri outs k).w.after.take m) 0) ∧ W2 = w') (fun _ i _ => (mri outs k).w.after.length - (intOf i).toNat)
      case atStart => exact ⟨0, Nat.zero_le _, rfl, rfl, rfl⟩
      case round =>
        obtain ⟨m, hm2, rfl, rfl, rfl⟩ := hrel
        by_cases hlt2 : m < (mri outs k).w.after.length
        · obtain ⟨ab, ao, rfl, hac⟩ := A3.out m hlt2
          have hcc := cell_keep (ext_trans HBW.out HC1.out) hac
          have hlook := HMI2.out.look (HID2.out _ HML.out _ (List.getElem_mem hlt2))
          have HT := Lib.hid (lookF_take (E := E) hlt2)
          obtain ⟨q, hq⟩ : ∃ q, lookF E ((mri outs k).w.after.take m) 0 = q := ⟨_, rfl⟩
          rw [hq] at HT ⊢
          clear hac hq
          go_wp2_with fail
          go_roundw
          case rel => exact ⟨m + 1, by omega, by go_num, by rw [HT.out], by first | rfl | trivial⟩
          case measure => simp [intOf]; omega
        · obtain rfl : m = (mri outs k).w.after.length := by omega
          have HT : Hid (lookF E ((mri outs k).w.after.take (mri outs k).w.after.length) 0 = maxA E (mri outs k).w.after) := by show _ = _; rw [List.take_length, lookF_max HNDE.out]
          rw [HT.out]
          have hT0 := maxA_nonneg E (mri outs k).w.after
          have hT1 : maxA E (mri outs k).w.after ≤ k * 1048576 := maxA_le E 0 (by omega) fun q hq _ => HLK.out q hq
          obtain ⟨T, hT⟩ : ∃ T, maxA E (mri outs k).w.after = T := ⟨_, rfl⟩
          rw [hT] at hT0 hT1 HCT HCL ⊢
          have hhr := (rangeW_iff.1 (HJR.out (mri outs k).w (by unfold wl; exact List.mem_map_of_mem HML.out)).2).1
          obtain ⟨w8, hst, hmi8, htn⟩ := HMI2.out.store (by omega) (HID.out _ HML.out) HNE.out (T + (mri outs k).w.hours)
          have HMI8 := Lib.hid hmi8; have HTN := Lib.hid htn
          have HB8 := Lib.hid (turned_below HB2.out htn (Nat.le_refl _))
          have HO8 := Lib.hid (obj_turned htn HO1.out)
          have hlook := hmi8.look (HID.out _ HML.out)
          rw [endI_snoc HNE.out] at hlook
          obtain ⟨c0, c1, c2, c3, c4⟩ := wkC HO1.out
          obtain ⟨e0, e1, e2, e3, e4⟩ := wkC HO8.out
          have hkb : (k : Int) ≤ 128 := by omega
          clear hT HT hmi8 htn c2 c3 c4 e1 e2 e3 e4 hm2 hlt2
          go_wp2_with fail
          go_roundw
          case rel => exact ⟨k + 1, by omega, by go_num, by rw [HCL.out], by show MapI ..; rw [HCT.out]; exact HMI8.out, HB8⟩
          case measure => simp [intOf]; omega
    · obtain rfl : k = outs.length := by omega
      have HV : Hid (critL (ws.take outs.length) = critL ws) := by show _ = _; rw [List.take_of_length_le (by rw [HOL.out, HLO.out]; exact Nat.le_refl _)]
      rw [HV.out]
      have HBW := Lib.hid (ext_trans HB1.out hbr.out)
      go_wp2_with fail
      go_ret2
      exact ⟨by rw [HWSE.out]; rfl, HBW.out⟩
end Go.Proofs.YtlmfcigabojbmaaGreatDoor

/- Contract: Area of bay. -/
namespace Go.Proofs.YtlmfcigabojbmaaGreatDoor
open Go.RowKit

theorem hereL_snoc (l : List Ber) (u : Ber) (bay : List UInt8) (t : Int) : areaL (hereL (l ++ [u]) bay t) = areaL (hereL l bay t) + (if (u.dock == bay && decide (u.a ≤ t) && decide (t < u.b) && sideB u.len && sideB u.wid) = true then u.len * u.wid else 0) := by
  unfold hereL areaL
  rw [List.filter_append, List.map_append, List.sum_append]
  congr 1
  cases h : (u.dock == bay && decide (u.a ≤ t) && decide (t < u.b) && sideB u.len && sideB u.wid)
  · rw [List.filter_cons, if_neg (by rw [h]; decide)]; rfl
  · rw [List.filter_cons, if_pos h, if_pos rfl]; simp
theorem mul_side {a b : Int} (h : (sideB a && sideB b) = true) : 0 ≤ a * b ∧ a * b ≤ 274877906944 := by
  rw [Bool.and_eq_true] at h
  unfold sideB at h
  simp only [Bool.and_eq_true, decide_eq_true_eq] at h
  obtain ⟨⟨h1, h2⟩, h3, h4⟩ := h
  refine ⟨Int.mul_nonneg (by omega) (by omega), ?_⟩
  calc a * b ≤ 524288 * b := Int.mul_le_mul_of_nonneg_right h2 (by omega)
    _ ≤ 524288 * 524288 := Int.mul_le_mul_of_nonneg_left h4 (by omega)
    _ = 274877906944 := by decide
theorem here_range (bay : List UInt8) (t : Int) : ∀ l : List Ber, 0 ≤ areaL (hereL l bay t) ∧ areaL (hereL l bay t) ≤ l.length * 274877906944 := by
  intro l
  induction l with
  | nil => exact ⟨Int.le_refl _, Int.le_refl _⟩
  | cons u l ih =>
    unfold hereL areaL at *
    rw [List.filter_cons]
    have hl : ((u :: l).length : Int) = l.length + 1 := by simp
    rw [hl]
    split
    · rename_i h
      rw [List.map_cons, List.sum_cons]
      have := mul_side (a := u.len) (b := u.wid) (by simp only [Bool.and_eq_true] at h ⊢; exact ⟨h.1.2, h.2⟩)
      omega
    · omega
set_option maxRecDepth 100000 in
set_option maxHeartbeats 1000000 in
theorem Area_any (v : Value) (l : List Ber) (bay : List UInt8) (t : Int) (w : World) (h : SB w v l) (hl : l.length ≤ 128) : Calls Tryz.prog 11 #[v, .string (bs bay), .int .i64 t] w (Ret w (.int .i64 (areaL (hereL l bay t)))) := by
  obtain ⟨a, cap, rfl, h1, h2, h3⟩ := h
  have H3 := Lib.hid h3; clear h3
  have hm : l.length ≤ 9223372036854775807 := by unfold maxLen at h2; omega
  go_enter Tryz.func11, Tryz.ntmps11
  go_wp2_with fail
  go_loopw [6, 11] (fun s i wr => ∃ k : Nat, k ≤ l.length ∧ i = .int .i64 k ∧ s = .int .i64 (areaL (hereL (l.take k) bay t)) ∧ Hid (Below w.heap.size w wr)) (fun _ i _ => l.length - (intOf i).toNat)
  case atStart => exact ⟨0, Nat.zero_le _, rfl, rfl, Lib.hid (Below.refl _ _)⟩
  case round =>
    obtain ⟨k, hk, rfl, rfl, hb⟩ := hrel
    by_cases hlt : k < l.length
    · obtain ⟨b, off, rfl, hc⟩ := H3.out k hlt
      obtain ⟨c0, c1, c2, c3, c4, c5, c6, c7⟩ := hc.keep hb.out
      obtain ⟨W2, HO2, HC2, HW, HZ2⟩ := copyB wr (bri l k)
      have HB2 := Lib.hid (ext_trans hb.out HC2.out)
      have HS := Lib.hid (hereL_snoc (l.take k) (bri l k) bay t)
      rw [← take_bri hlt] at HS
      have HR := here_range bay t (l.take k)
      have hkl : ((l.take k).length : Int) ≤ 128 := by rw [List.length_take]; omega
      have hkz : 0 ≤ areaL (hereL (l.take k) bay t) ∧ areaL (hereL (l.take k) bay t) ≤ 128 * 274877906944 := ⟨HR.1, by omega⟩
      obtain ⟨S, hS⟩ : ∃ S, areaL (hereL (l.take k) bay t) = S := ⟨_, rfl⟩
      rw [hS] at HS hkz ⊢
      clear hc HR hS hkl
      go_upto_region 4 with fail
      rw [HW.out]
      clear c0 c1 c2 c3 c4 c5 c6 c7 HW
      refine wp_region_et dkT dkT_ok [berO wr.heap.size 0 (bri l k)] (fun v => v = W2) [(8, 0)] [(36, .ret (.bool (sideB (bri l k).len))), (41, .ret (.bool (sideB (bri l k).wid)))] [(42, .bool ((bri l k).dock == bay && decide ((bri l k).a ≤ t) && decide (t < (bri l k).b) && sideB (bri l k).len && sideB (bri l k).wid))] (by kernel_rfl) rfl (obs1 (fun v hv => by subst hv; exact range_new HO2.out)) ⟨rfl, trivial⟩ ?_
      conv => whnf
      refine And.intro (under_of fun w' hw' => by subst hw'; exact side_any _ _) ?_
      conv => whnf
      refine And.intro (under_of fun w' hw' => by subst hw'; exact side_any _ _) ?_
      conv => whnf
      intro f
      conv => whnf
      refine And.intro ?_ ?_
      · refine congrArg Value.bool ?_
        rw [bs_eq]
      conv => whnf
      intro w' hw'
      subst hw'
      obtain ⟨cc, hcc⟩ : ∃ cc, ((bri l k).dock == bay && decide ((bri l k).a ≤ t) && decide (t < (bri l k).b) && sideB (bri l k).len && sideB (bri l k).wid) = cc := ⟨_, rfl⟩
      rw [hcc] at HS ⊢
      have HCC := Lib.hid hcc
      clear hcc
      cases cc
      · have HS' : Hid (areaL (hereL (l.take (k + 1)) bay t) = S) := by show _ = _; rw [HS.out, if_neg (by decide)]; omega
        clear HCC
        go_wp2_with fail
        go_roundw
        case rel => exact ⟨k + 1, by omega, by go_num, by rw [HS'.out], HB2⟩
        case measure => simp [intOf]; omega
      · have HS' : Hid (areaL (hereL (l.take (k + 1)) bay t) = S + (bri l k).len * (bri l k).wid) := by show _ = _; rw [HS.out, if_pos rfl]
        have hmr := mul_side (a := (bri l k).len) (b := (bri l k).wid) (by have := HCC.out; simp only [Bool.and_eq_true] at this ⊢; exact ⟨this.1.2, this.2⟩)
        have w1 : IntKind.i64.wrap ((bri l k).len * (bri l k).wid) = (bri l k).len * (bri l k).wid := IntWalk.i64_in _ (by omega)
        have w2 : IntKind.i64.wrap (S + (bri l k).len * (bri l k).wid) = S + (bri l k).len * (bri l k).wid := IntWalk.i64_in _ (by omega)
        obtain ⟨p0, p1, p2, p3, p4, p5, p6, p7⟩ := syC HO2.out
        clear HCC hmr hkz
        go_wp2_with fail
        go_roundw
        case rel => exact ⟨k + 1, by omega, by go_num, by rw [HS'.out], HB2⟩
        case measure => simp [intOf]; omega
    · obtain rfl : k = l.length := by omega
      have HV : Hid (areaL (hereL (l.take l.length) bay t) = areaL (hereL l bay t)) := by show _ = _; rw [List.take_length]
      rw [HV.out]
      go_wp2_with fail
      go_ret
      exact ⟨rfl, hb.out⟩
end Go.Proofs.YtlmfcigabojbmaaGreatDoor

/- Contracts: cmp.Compare of ints, slices.MaxFunc of stays, Span of shop. -/
namespace Go.Proofs.YtlmfcigabojbmaaGreatDoor
open Go.RowKit

def cI (x y : Int) : Int := if x < y then -1 else if y < x then 1 else 0
theorem isNaN_int (x : Int) (w : World) : Calls Tryz.prog 50 #[.int .i64 x] w fun e w' => e = .returned (.bool false) ∧ w' = w := by
  have hx : (x != x) = false := by simp
  go_enter Tryz.func50, Tryz.ntmps50
  go_wp2_with fail
  go_ret
  exact ⟨rfl, rfl⟩
theorem compare_int (a b : Int) (w : World) : Calls Tryz.prog 26 #[.int .i64 a, .int .i64 b] w fun e w' => e = .returned (.int .i64 (cI a b)) ∧ w' = w := by
  go_enter Tryz.func26, Tryz.ntmps26
  go_wp2_with fail
  refine (isNaN_int a w).mono ?_
  rintro e w1 ⟨rfl, rfl⟩
  go_wp2_with fail
  refine (isNaN_int b _).mono ?_
  rintro e w1 ⟨rfl, rfl⟩
  by_cases h1 : a < b
  · have C : Hid (cI a b = -1) := by show cI a b = -1; unfold cI; rw [if_pos h1]
    go_wp2_with fail
    go_ret
    exact ⟨ret_int C.out.symm, rfl⟩
  · by_cases h2 : b < a
    · have C : Hid (cI a b = 1) := by show cI a b = 1; unfold cI; rw [if_neg h1, if_pos h2]
      go_wp2_with fail
      go_ret
      exact ⟨ret_int C.out.symm, rfl⟩
    · have C : Hid (cI a b = 0) := by show cI a b = 0; unfold cI; rw [if_neg h1, if_neg h2]
      go_wp2_with fail
      go_ret
      exact ⟨ret_int C.out.symm, rfl⟩
theorem enter_Span1 : ∀ args w, (callFunc 25 args).run Tryz.prog w = .ok (.enter 25 args) w := enters_of Tryz.func25 (by kernel_rfl) rfl
theorem gr_two (w : World) (o o' : Obj) : GR w ((w.alloc o).alloc o') := ((GR.refl w).alloc o).alloc o'
theorem gr_of (w : World) (n : Nat) (os : Array Obj) : GR w (Sort.grow (w.drewN n) os) := ⟨n, os, rfl⟩
theorem Span1_any (x y : Ber) (w : World) :
    Calls Tryz.prog 25 #[.agg #[.string (bs x.hull), .string (bs x.dock), .int .i64 x.x, .int .i64 x.y, .int .i64 x.len, .int .i64 x.wid, .int .i64 x.a, .int .i64 x.b], .agg #[.string (bs y.hull), .string (bs y.dock), .int .i64 y.x, .int .i64 y.y, .int .i64 y.len, .int .i64 y.wid, .int .i64 y.a, .int .i64 y.b]] w
      fun e w' => e = .returned (.int .i64 (cI x.b y.b)) ∧ GR w w' := by
  go_enter Tryz.func25, Tryz.ntmps25
  go_wp2_with fail
  refine (compare_int _ _ _).mono ?_
  rintro e w1 ⟨rfl, rfl⟩
  go_wp2_with fail
  go_ret
  exact ⟨rfl, gr_two _ _ _⟩
/-- the greatest end of the first k, where there is one -/
theorem span_take {l : List Ber} {k : Nat} (hk : k < l.length) : spanL (l.take (k + 1)) = max (spanL (l.take k)) (bri l k).b := by
  unfold spanL
  rw [take_bri hk, List.foldl_append]; rfl
theorem results_one {fn : Func} {p : Tmp} {ty : TypeId} (h : fn.results = #[.cell p ty]) {tmps : Array Value} {w : World} {g : Nat} {cs : Array Value}
    (hp : tmps.getD p undef = .pointer (some ⟨g, 0, none⟩)) (hl : (loadVar ty ⟨g, 0, none⟩).run Tryz.prog w = .ok (.agg cs) w) :
    (results fn tmps).run Tryz.prog w = .ok (.agg cs) w := by
  have hp' : tmps[p]?.getD undef = .pointer (some ⟨g, 0, none⟩) := by simpa using hp
  simp [results, h, hp', asAddr, hl]
set_option maxRecDepth 100000 in
set_option maxHeartbeats 2000000 in
theorem MaxFunc_any (v : Value) (l : List Ber) (w : World) (h : SB w v l) (h1 : 1 ≤ l.length) (hp : ∀ u ∈ l, 0 ≤ u.b) :
    Calls Tryz.prog 24 #[v, .func (.func 25) #[] #[]] w fun e w' => ∃ p : Ber, e = .returned (.agg (syCs p)) ∧ p.b = spanL l ∧ Below w.heap.size w w' := by
  have mxd : Tryz.prog.follows .mixedOrders = true := mixed
  have en := enter_Span1
  have HP := Lib.hid hp
  obtain ⟨b, off, cap, rfl, n1, n2, n3, n4⟩ := h.form h1
  unfold maxLen at n2
  have H4 := Lib.hid n4
  obtain ⟨c0, c1, c2, c3, c4, c5, c6, c7⟩ := n4 0 (by omega)
  rw [Nat.zero_mul, Nat.add_zero] at c0 c1 c2 c3 c4 c5 c6 c7
  clear n4 hp
  go_enter Tryz.func24, Tryz.ntmps24
  go_wp2_with fail
  obtain ⟨N, hN⟩ : ∃ N, N = w.heap.size := ⟨_, rfl⟩
  obtain ⟨W, hW⟩ : ∃ W, W = (w.alloc (.cells #[.string ⟨#[]⟩, .string ⟨#[]⟩, .int .i64 0, .int .i64 0, .int .i64 0, .int .i64 0, .int .i64 0, .int .i64 0] 50)).alloc (.cells #[.string (bs (bri l 0).hull), .string (bs (bri l 0).dock), .int .i64 (bri l 0).x, .int .i64 (bri l 0).y, .int .i64 (bri l 0).len, .int .i64 (bri l 0).wid, .int .i64 (bri l 0).a, .int .i64 (bri l 0).b] 50) := ⟨_, rfl⟩
  have HBW : Hid (Below w.heap.size w W) := by show Below _ _ _; rw [hW]; exact ((Below.refl _ _).alloc (Nat.le_refl _) _).alloc (by simp) _
  have HW0 : Hid (ObjAt W N (syCs default) 50) := by
    show ObjAt ..
    rw [hW, hN]
    exact (ObjAt.new w (syCs default) 50).alloc _
  have HW1 : Hid (ObjAt W (N + 1) (syCs (bri l 0)) 50) := by
    show ObjAt ..
    rw [hW, hN]
    exact (obj_two w (syCs default) (syCs (bri l 0)) 50 50).2
  have hwN : w.heap.size ≤ N := by omega
  rw [← hW, ← hN]
  clear hW hN c0 c1 c2 c3 c4 c5 c6 c7
  go_loopw [6] (fun i wr => ∃ (k : Nat) (p : Ber), 1 ≤ k ∧ k ≤ l.length ∧ i = .int .i64 k ∧ Hid (Below w.heap.size w wr) ∧ Hid (ObjAt wr N (syCs default) 50) ∧ Hid (ObjAt wr (N + 1) (syCs p) 50) ∧ Hid (p.b = spanL (l.take k))) (fun i _ => l.length - (intOf i).toNat)
  case atStart => exact ⟨1, bri l 0, Nat.le_refl _, h1, rfl, HBW, HW0, HW1, Lib.hid (by rw [span_take (by omega)]; have := HP.out _ (bri_mem (show 0 < l.length by omega)); show _ = max 0 _; omega)⟩
  case round =>
    clear HW0 HW1 HBW
    obtain ⟨k, p, hk1, hk, rfl, hb, hx0, hx1, hm⟩ := hrel
    by_cases hlt : k < l.length
    · have hat := (H4.out k hlt).keep hb.out
      have HAT := Lib.hid hat
      have hsz := hx1.out.lt
      have hG : ∀ n os, Below wr.heap.size wr (Sort.grow (wr.drewN n) os) := fun n os => below_grow _ n os
      have a0 := fun n os => (hat.keep (hG n os)).c0
      have a1 := fun n os => (hat.keep (hG n os)).c1
      have a2 := fun n os => (hat.keep (hG n os)).c2
      have a3 := fun n os => (hat.keep (hG n os)).c3
      have a4 := fun n os => (hat.keep (hG n os)).c4
      have a5 := fun n os => (hat.keep (hG n os)).c5
      have a6 := fun n os => (hat.keep (hG n os)).c6
      have a7 := fun n os => (hat.keep (hG n os)).c7
      have b0 := fun n os => (syC (hx1.out.keep (hG n os))).c0
      have b1 := fun n os => (syC (hx1.out.keep (hG n os))).c1
      have b2 := fun n os => (syC (hx1.out.keep (hG n os))).c2
      have b3 := fun n os => (syC (hx1.out.keep (hG n os))).c3
      have b4 := fun n os => (syC (hx1.out.keep (hG n os))).c4
      have b5 := fun n os => (syC (hx1.out.keep (hG n os))).c5
      have b6 := fun n os => (syC (hx1.out.keep (hG n os))).c6
      have b7 := fun n os => (syC (hx1.out.keep (hG n os))).c7
      have HC := Lib.hid (fun W' => Span1_any (bri l k) p W')
      have HS := Lib.hid (span_take hlt)
      clear hat hG
      generalize bri l k = q at *
      have i1 : (k : Int) < l.length := by omega
      have i2 : (k : Int) < cap := by omega
      have i0 : (0 : Int) ≤ k := by omega
      cases hc : decide (0 < cI q.b p.b)
      · have HF : Hid (p.b = spanL (l.take (k + 1))) := by
          rw [decide_eq_false_iff_not] at hc
          show _ = _
          rw [HS.out, ← hm.out]
          unfold cI at hc
          omega
        go_wp2_with fail
        go_quiet_grown (exact Calls.grown_of (HC.out _))
        have HG := Lib.hid (gr_of wr nq osq)
        generalize Sort.grow (wr.drewN nq) osq = wq at *
        go_wp2_with fail
        go_roundw
        case rel => exact ⟨k + 1, p, by omega, by omega, by go_num, Lib.hid (ext_trans hb.out HG.out.below), Lib.hid (hx0.out.keep HG.out.below), Lib.hid (hx1.out.keep HG.out.below), HF⟩
        case measure => simp [intOf]; omega
      · have HF : Hid (q.b = spanL (l.take (k + 1))) := by
          rw [decide_eq_true_eq] at hc
          show _ = _
          rw [HS.out, ← hm.out]
          unfold cI at hc
          omega
        go_wp2_with fail
        go_quiet_grown (exact Calls.grown_of (HC.out _))
        have HG := Lib.hid (gr_of wr nq osq)
        generalize Sort.grow (wr.drewN nq) osq = wq at *
        clear a0 a1 a2 a3 a4 a5 a6 a7 b0 b1 b2 b3 b4 b5 b6 b7
        obtain ⟨a0, a1, a2, a3, a4, a5, a6, a7⟩ := HAT.out.keep HG.out.below
        have HX0 := Lib.hid (hx0.out.keep HG.out.below)
        have HX1 := Lib.hid (hx1.out.keep HG.out.below)
        have HBQ := Lib.hid (ext_trans hb.out HG.out.below)
        go_wp2_with (refine wpList_store_row (o := ⟨none, .store _ _ _, _, _, _, _⟩) rfl 50 (.tmp 5) (.tmp 31) rfl (N + 1) (syCs q) rfl rfl 50 _ HX1.out info_Berth rfl (one_ber _) ?_)
        have HB9 := Lib.hid (below_setRow HBQ.out (show w.heap.size ≤ N + 1 by omega) (syCs q))
        have HY1 : Hid (ObjAt (wq.setRow (N + 1) (syCs q)) (N + 1) (syCs q) 50) := setRow_heap _ _ _ _ _ _ HX1.out
        have HY0 : Hid (ObjAt (wq.setRow (N + 1) (syCs q)) N (syCs default) 50) := HX0.out.grown (setRow_grown _ _ _) (by simp)
        generalize wq.setRow (N + 1) (syCs q) = w9 at *
        clear a0 a1 a2 a3 a4 a5 a6 a7
        go_wp2_with fail
        go_roundw
        case rel => exact ⟨k + 1, q, by omega, by omega, by go_num, HB9, HY0, HY1, HF⟩
        case measure => simp [intOf]; omega
    · obtain rfl : k = l.length := by omega
      have HF : Hid (p.b = spanL l) := by show _ = _; rw [hm.out, List.take_length]
      obtain ⟨a0, a1, a2, a3, a4, a5, a6, a7⟩ := syC hx1.out
      go_wp2_with (refine wpList_store_row (o := ⟨none, .store _ _ _, _, _, _, _⟩) rfl 50 (.tmp 4) (.tmp 32) rfl N (syCs p) rfl rfl 50 _ hx0.out info_Berth rfl (one_ber _) ?_)
      refine bodyPost_ret (v := .agg (syCs p)) (results_one Tryz.results24 rfl (load_Ber (setRow_heap _ _ _ _ _ _ hx0.out))) rfl ⟨p, rfl, HF.out, below_setRow hb.out hwN _⟩
theorem field_time (a b : ByteArray) (c d e f g h : Int) (w : World) : Sem.run Tryz.prog (Instr.field 50 (.agg #[.string a, .string b, .int .i64 c, .int .i64 d, .int .i64 e, .int .i64 f, .int .i64 g, .int .i64 h]) 5) w = .ok (.agg #[.int .i64 g, .int .i64 h]) w := by kernel_rfl
theorem field_A (g h : Int) (w : World) : Sem.run Tryz.prog (Instr.field 46 (.agg #[.int .i64 g, .int .i64 h]) 0) w = .ok (.int .i64 g) w := by kernel_rfl
theorem field_B (g h : Int) (w : World) : Sem.run Tryz.prog (Instr.field 46 (.agg #[.int .i64 g, .int .i64 h]) 1) w = .ok (.int .i64 h) w := by kernel_rfl
set_option maxRecDepth 100000 in
set_option maxHeartbeats 2000000 in
theorem Span_any (v : Value) (l : List Ber) (w : World) (h : SB w v l) (hp : ∀ u ∈ l, 0 ≤ u.b) : Calls Tryz.prog 10 #[v] w (Ret w (.int .i64 (spanL l))) := by
  by_cases h0 : l.length = 0
  · have hl : l = [] := List.eq_nil_of_length_eq_zero h0
    subst hl
    obtain ⟨a, cap, rfl, _⟩ := h
    go_enter Tryz.func10, Tryz.ntmps10
    go_wp2_with fail
    go_ret
    exact ⟨rfl, Below.refl _ _⟩
  · have HM := Lib.hid (MaxFunc_any v l w h (by omega) hp)
    have f1 := field_time
    have f2 := field_B
    obtain ⟨a, cap, rfl, _⟩ := h
    have hb : ((l.length : Int) == 0) = false := by rw [beq_eq_false_iff_ne]; omega
    go_enter Tryz.func10, Tryz.ntmps10
    go_wp2_with fail
    refine HM.out.mono ?_
    rintro e w1 ⟨p, rfl, hp, hb1⟩
    have HP := Lib.hid hp
    have HB := Lib.hid hb1
    clear hp hb1
    unfold syCs
    go_wp2_with fail
    go_ret
    exact ⟨ret_int HP.out, HB.out⟩
end Go.Proofs.YtlmfcigabojbmaaGreatDoor

/- Contract: Check of shop, for a plan that is right. -/
namespace Go.Proofs.YtlmfcigabojbmaaGreatDoor
open Go.RowKit

theorem zero_stay (w : World) : (zeroValue 50).run Tryz.prog w = .ok (.agg (syCs default)) w := by kernel_rfl
def kvY (P : List Ber) : KV := P.map fun y => (y.hull, Value.agg (syCs y))
/-- block b is a map of these stays -/
def MapY (w : World) (b n : Nat) (P : List Ber) : Prop := VM w b n (kvY P)
theorem kvY_keys (P : List Ber) : (kvY P).map (·.1) = P.map (·.hull) := by unfold kvY; rw [List.map_map]; rfl
theorem kvY_get {P : List Ber} (hd : (P.map (·.hull)).Nodup) {u : Ber} (hu : u ∈ P) : getE (kvY P) u.hull (.agg (syCs default)) = .agg (syCs u) ∧ hasE (kvY P) u.hull = true := by
  refine ⟨?_, by rw [has_mem, kvY_keys]; exact List.mem_map_of_mem hu⟩
  induction P with
  | nil => cases hu
  | cons v P ih =>
    rw [List.map_cons, List.nodup_cons] at hd
    unfold getE kvY
    rw [List.map_cons, List.find?_cons]
    rcases List.mem_cons.1 hu with rfl | hu
    · simp
    · have hne : v.hull ≠ u.hull := fun e => hd.1 (by rw [e]; exact List.mem_map_of_mem hu)
      rw [show ((v.hull, Value.agg (syCs v)).1 == u.hull) = false from beq_eq_false_iff_ne.2 hne]
      exact ih hd.2 hu
section
variable {w w' : World} {b n : Nat} {P : List Ber}
theorem MapY.keep (h : MapY w b n P) (hb : Below w.heap.size w w') : MapY w' b n P := VM.keep h hb
theorem MapY.nd (h : MapY w b n P) : (P.map (·.hull)).Nodup := by have := VM.nd h; rwa [kvY_keys] at this
theorem MapY.look (h : MapY w b n P) {s : List UInt8} (hs : s.length ≤ maxLen) {u : Ber} (hu : u ∈ P) (he : u.hull = s) : (Instr.lookup 63 (.map (some b)) (.string (bs s)) true).run Tryz.prog w = .ok (.tuple #[.agg #[.string (bs u.hull), .string (bs u.dock), .int .i64 u.x, .int .i64 u.y, .int .i64 u.len, .int .i64 u.wid, .int .i64 u.a, .int .i64 u.b], .bool true]) w := by
  subst he
  rw [VM.look h Tryz.underlying63 (zero_stay w) hs, (kvY_get (MapY.nd h) hu).1, (kvY_get (MapY.nd h) hu).2]; rfl
theorem MapY.look1 (h : MapY w b n P) {s : List UInt8} (hs : s.length ≤ maxLen) {u : Ber} (hu : u ∈ P) (he : u.hull = s) : (Instr.lookup 63 (.map (some b)) (.string (bs s)) false).run Tryz.prog w = .ok (.agg #[.string (bs u.hull), .string (bs u.dock), .int .i64 u.x, .int .i64 u.y, .int .i64 u.len, .int .i64 u.wid, .int .i64 u.a, .int .i64 u.b]) w := by
  subst he
  rw [VM.look1 h Tryz.underlying63 (zero_stay w) hs, (kvY_get (MapY.nd h) hu).1]; rfl
theorem MapY.len (h : MapY w b n P) (ty : TypeId) : (Builtin.len_ #[63] ty #[.map (some b)]).run Tryz.prog w = .ok (.int .i64 P.length) w := by
  rw [VM.len h Tryz.underlying63 ty]; unfold kvY; rw [List.length_map]
theorem MapY.store (h : MapY w b n P) (hn : n < 1000) {u : Ber} (hs : u.hull.length ≤ maxLen) (hh : u.hull ∉ P.map (·.hull)) :
    ∃ w', (Instr.mapUpdate 63 (.map (some b)) (.string (bs u.hull)) (.agg #[.string (bs u.hull), .string (bs u.dock), .int .i64 u.x, .int .i64 u.y, .int .i64 u.len, .int .i64 u.wid, .int .i64 u.a, .int .i64 u.b])).run Tryz.prog w = .ok () w' ∧ MapY w' b (n + 1) (P ++ [u]) ∧ w.mapTurned w' b := by
  have e : hasE (kvY P) u.hull = false := by rw [not_has, kvY_keys]; exact hh
  obtain ⟨w', r1, r2, r3⟩ := VM.store h Tryz.underlying63 (by unfold maxLen; omega) hs e (.agg (syCs u))
  refine ⟨w', r1, ?_, r3⟩
  unfold MapY kvY
  rw [List.map_append]
  exact r2
end
theorem hulls_new {P : List Ber} (hd : (P.map (·.hull)).Nodup) {k : Nat} (hk : k < P.length) : (bri P k).hull ∉ (P.take k).map (·.hull) := by
  rw [← List.take_append_drop k P, List.map_append] at hd
  intro hm
  exact (List.nodup_append.1 hd).2.2 _ hm ((bri P k).hull) (List.mem_map.2 ⟨bri P k, by rw [List.drop_eq_getElem_cons hk, bri_lt hk]; exact List.mem_cons_self .., rfl⟩) rfl
/-- what Check asks of a stay -/
structure Owes (plan : List Ber) (x : Wrk) (y : Ber) : Prop where
  hull : y.hull = x.id
  len : y.len = x.len
  wid : y.wid = x.wid
  hours : y.b - y.a = x.hours
  a0 : 0 ≤ y.a
  ab : y.a ≤ y.b
  b1 : y.b ≤ 1048576
  after : ∀ a ∈ x.after, ∃ u ∈ plan, u.hull = a ∧ u.b ≤ y.a
theorem owes_of {bays : List DBay} {l : List Wrk} {n : Nat} {plan : List Ber} (hp : PlanW (ordF l n) plan) (ho : planOk bays plan = true) (k : Nat) (hk : k < (ordF l n).length) (hk' : k < plan.length) : Owes plan (ordF l n)[k] (bri plan k) := by
  have h1 := planW_at hp k hk hk'
  have h2 := plan_order hp k hk hk'
  obtain ⟨d, _, e2, _⟩ := plan_stay ho (bri_mem hk')
  have r := rangeB_iff.1 e2
  rw [bri_lt hk'] at r ⊢
  refine ⟨h1.hull, h1.len, h1.wid, by have := h1.hours; omega, by omega, by omega, by omega, fun a ha => ?_⟩
  obtain ⟨j, hj, _, h3, h4⟩ := h2 a ha
  exact ⟨plan[j], List.getElem_mem hj, h3, h4⟩
set_option maxRecDepth 100000 in
set_option maxHeartbeats 2000000 in
theorem ShCheck_any (v bv pv : Value) (l : List MW) (bays : List DBay) (plan : List Ber) (w : World) (h : SWk w v l) (ha : Aft w l) (hb : SD w bv bays) (hp : SB w pv plan) (hm : MLen w) (hsd : StrD bays maxLen) (hsb : StrB plan maxLen) (hs : ∀ m ∈ l, m.w.id.length ≤ maxLen) (hs2 : ∀ m ∈ l, ∀ s ∈ m.w.after, s.length ≤ maxLen) (hlt : ∀ a n c, v = .slice (some a) n c → 0 < n → a.block < w.heap.size)
    (ho : ordE (wl l) = 0) (hpe : planE bays plan = 0) (hpw : PlanW (ordF (wl l) l.length) plan) (hpl : plan.length = l.length) :
    Calls Tryz.prog 9 #[v, bv, pv] w (Ret w (.int .i64 0)) := by
  have HS := Lib.hid h; have HA := Lib.hid ha; have HID := Lib.hid hs; have HID2 := Lib.hid hs2; have HM := Lib.hid hm; have HBV := Lib.hid hb; have HSD := Lib.hid hsd; have HPV := Lib.hid hp; have HSB := Lib.hid hsb; have HPL := Lib.hid hpl
  have HORD := Lib.hid (ordered_any v l w h ha hm hs hs2 hlt)
  have HOW := Lib.hid (owes_of hpw ((planE_iff bays plan).1 hpe))
  have HND := Lib.hid (plan_new hpw)
  obtain ⟨a, cap, rfl, h1, h2, h3⟩ := h
  obtain ⟨da, dc, rfl, d1, d2, d3⟩ := hb
  obtain ⟨pa, pc, rfl, p1, p2, p3⟩ := hp
  have HP3 := Lib.hid p3
  clear h3 ha hs hs2 hm hlt d3 hsd p3 hsb hpw
  have hmm := @run_makeMap Tryz.prog
  obtain ⟨hj, hol⟩ := ordE_jobs ho
  obtain ⟨q1, q2, q3⟩ := jobs_first hj
  rw [wl_len] at hol q2
  have hn : l.length ≤ 128 := by omega
  have hn3 : plan.length ≤ 128 := by omega
  have hm : l.length ≤ 9223372036854775807 := by omega
  clear hj q1 q2 q3
  go_enter Tryz.func9, Tryz.ntmps9
  go_wp2_with fail
  refine HORD.out.mono ?_
  rintro e w1 ⟨ov, outs, rfl, hov, h1'⟩
  have HB1 := Lib.hid h1'
  obtain ⟨hsw, hws, hsub⟩ := hov ho
  rw [ho]
  have HSW := Lib.hid hsw; have HSUB := Lib.hid hsub
  have hlo : outs.length = l.length := by have := congrArg List.length hws; rw [wl_len, hol] at this; exact this
  have HWA := Lib.hid (fun k hk hk' => wl_at hws (k := k) hk hk')
  obtain ⟨ws, hwse⟩ : ∃ ws, ordF (wl l) l.length = ws := ⟨_, rfl⟩
  rw [hwse] at hol HWA HOW
  have HOL := Lib.hid hol; have HLO := Lib.hid hlo
  obtain ⟨oa, oc, rfl, o1, o2, o3⟩ := hsw
  have O3 := Lib.hid o3
  clear h1' hov ho hws hsub hwse hol o3 HORD hpl
  have hlo2 : outs.length ≤ 9223372036854775807 := by omega
  have hpl2 : plan.length ≤ 9223372036854775807 := by omega
  go_wp2_with fail
  refine (Check_any _ _ bays plan w1 (HBV.out.keep HB1.out) (HPV.out.keep HB1.out).y (HM.out.keep HB1.out) HSD.out HSB.out).mono ?_
  rintro e w2 ⟨rfl, h2'⟩
  have HB2 := Lib.hid (ext_trans HB1.out h2')
  have HB12 := Lib.hid h2'
  clear h2' HSW
  rw [hpe]
  clear hpe
  obtain ⟨W3, hW3⟩ : ∃ W3, w2.alloc (.map #[] 0) = W3 := ⟨_, rfl⟩
  have HMI0 : Hid (MapY W3 w2.heap.size 0 (plan.take 0)) := by show MapY ..; rw [← hW3]; exact VM.made w2
  have HC3 : Hid (Below w2.heap.size w2 W3) := by show Below ..; rw [← hW3]; exact (Below.refl _ _).alloc (Nat.le_refl _) _
  have HW3 := Lib.hid hW3
  clear hW3
  go_wp2_with fail
  rw [HW3.out]
  clear HW3 hmm
  go_loopw [38] (fun i wr => ∃ k : Nat, k ≤ plan.length ∧ i = .int .i64 k ∧ Hid (MapY wr w2.heap.size k (plan.take k)) ∧ Hid (Below w2.heap.size w2 wr)) (fun i _ => plan.length - (intOf i).toNat)
  case atStart => exact ⟨0, Nat.zero_le _, rfl, HMI0, HC3⟩
  case round =>
    obtain ⟨k, hk, rfl, hmi, hbr⟩ := hrel
    by_cases hlt : k < plan.length
    · obtain ⟨b, off, rfl, hc⟩ := HP3.out k hlt
      obtain ⟨c0, c1, c2, c3, c4, c5, c6, c7⟩ := hc.keep (ext_trans HB2.out hbr.out)
      obtain ⟨W2, HO2, HC2, HW, HZ2⟩ := copyB wr (bri plan k)
      have HB3 := Lib.hid (ext_trans hbr.out HC2.out)
      obtain ⟨w8, hst, hmi8, htn⟩ := (hmi.out.keep HC2.out).store (by omega) (HSB.out.h _ (bri_mem hlt)) (hulls_new HND.out hlt)
      rw [← take_bri hlt] at hmi8
      have HMI8 := Lib.hid hmi8
      have HB8 := Lib.hid (turned_below HB3.out htn (Nat.le_refl _))
      clear hc hmi8 htn
      go_upto_region 11 with fail
      rw [HW.out]
      clear c0 c1 c2 c3 c4 c5 c6 c7 HW
      obtain ⟨p0, p1, p2, p3, p4, p5, p6, p7⟩ := syC HO2.out
      go_wp2_with fail
      go_roundw
      case rel => exact ⟨k + 1, by omega, by go_num, HMI8, HB8⟩
      case measure => simp [intOf]; omega
    · obtain rfl : k = plan.length := by omega
      obtain ⟨W4, hW4⟩ : ∃ W4, W4 = wr := ⟨_, rfl⟩
      subst hW4
      have HMY : Hid (MapY W4 w2.heap.size plan.length plan) := by have := hmi.out; rwa [List.take_length] at this
      have HB4 := Lib.hid (ext_trans HB2.out hbr.out)
      have HB24 := hbr
      have hlen := HMY.out.len
      have HLEN := Lib.hid (HPL.out.trans HLO.out.symm)
      have hpp := HPL.out
      have hpp2 : ((plan.length : Int) != (l.length : Int)) = false := by rw [hpp]; simp
      clear hmi hbr hpp hlt
      go_upto_region 15 with fail
      clear hlen hpp2
      go_wp2_with fail
      go_loopw [61] (fun i wr => ∃ k : Nat, k ≤ outs.length ∧ i = .int .i64 k ∧ Hid (Below W4.heap.size W4 wr)) (fun i _ => outs.length - (intOf i).toNat)
      case atStart => exact ⟨0, Nat.zero_le _, rfl, Lib.hid (Below.refl _ _)⟩
      case round =>
        obtain ⟨k, hk, rfl, hbr⟩ := hrel
        by_cases hlt : k < outs.length
        · obtain ⟨b, off, rfl, hc⟩ := O3.out k hlt
          have hlt' : k < ws.length := by rw [HOL.out, ← HLO.out]; exact hlt
          have HKW := Lib.hid (HWA.out k hlt hlt')
          have HKO := Lib.hid (HOW.out k hlt' (by rw [HLEN.out]; exact hlt))
          rw [← HKW.out] at HKO
          have hml : mri outs k ∈ l := HSUB.out _ (mri_mem hlt)
          have HML := Lib.hid hml
          obtain ⟨va, vc, hav⟩ : ∃ a c, (mri outs k).av = .slice a (mri outs k).w.after.length c := by
            obtain ⟨j, hj, hjm⟩ := mem_mri hml
            obtain ⟨a, c, e, _⟩ := HA.out.form hj
            rw [← hjm]; exact ⟨a, c, e⟩
          have HAV := Lib.hid hav
          obtain ⟨c0, c1, c2, c3, c4⟩ := (hc.keep (ext_trans HB12.out HB24.out)).keep hbr.out
          rw [hav] at c4
          obtain ⟨W2, HO1, HC1, HW, _⟩ := copyW wr (mri outs k) hav
          have HMI2 := Lib.hid ((HMY.out.keep hbr.out).keep HC1.out)
          have HB5 := Lib.hid (ext_trans hbr.out HC1.out)
          have hlook := HMI2.out.look (HID.out _ HML.out) (bri_mem (show k < plan.length by rw [HLEN.out]; exact hlt)) HKO.out.hull
          generalize bri plan k = y at *
          obtain ⟨W6, HO6, HC6, HW6, HZ6⟩ := copyB W2 y
          have HB6 := Lib.hid (ext_trans HB5.out HC6.out)
          have HO7 := Lib.hid (HO1.out.keep HC6.out)
          clear hc hav hml
          go_upto_region 18 with fail
          rw [HW.out]
          clear c0 c1 c2 c3 c4 HW
          obtain ⟨c0, c1, c2, c3, c4⟩ := wkC HO1.out
          go_upto_region 19 with fail
          rw [HW6.out]
          clear c0 c1 c2 c3 c4 hlook HW6
          have hka := HKO.out.a0
          have hkb := HKO.out.b1
          have hkc := HKO.out.ab
          have hkh := HKO.out.hours
          have HKL := Lib.hid HKO.out.len
          have HKD := Lib.hid HKO.out.wid
          refine wp_region_et skT skT_ok [wkO wr.heap.size 0 (mri outs k), berO W2.heap.size 0 y] (fun v => v = W6) [(14, 0), (15, 1)] [] [(99, .bool false)] (by kernel_rfl) rfl (obs2 (fun v hv => by subst hv; exact range_wk HO7.out) (fun v hv => by subst hv; exact range_new HO6.out)) ⟨rfl, rfl, trivial⟩ ?_
          conv => whnf
          refine And.intro (under_of (by omega)) ?_
          conv => whnf
          intro f1
          conv => whnf
          refine And.intro ?_ ?_
          · refine congrArg Value.bool ?_
            rw [HKL.out, HKD.out, hkh]; simp
          conv => whnf
          intro w' hw'
          subst hw'
          clear hka hkb hkh hkc
          go_wp2_with fail
          go_roundw
          case rel => exact ⟨k + 1, by omega, by go_num, HB6⟩
          case measure => simp [intOf]; omega
        · obtain rfl : k = outs.length := by omega
          obtain ⟨W7, hW7⟩ : ∃ W7, W7 = wr := ⟨_, rfl⟩
          subst hW7
          have HMY7 := Lib.hid (HMY.out.keep hbr.out)
          have HB7 := Lib.hid (ext_trans HB4.out hbr.out)
          have HB27 := Lib.hid (ext_trans HB24.out hbr.out)
          clear hlt hbr
          go_wp2_with fail
          go_loopw [103] (fun i wr => ∃ k : Nat, k ≤ outs.length ∧ i = .int .i64 k ∧ Hid (Below W7.heap.size W7 wr)) (fun i _ => outs.length - (intOf i).toNat)
          case atStart => exact ⟨0, Nat.zero_le _, rfl, Lib.hid (Below.refl _ _)⟩
          case round =>
            obtain ⟨k, hk, rfl, hbr⟩ := hrel
            by_cases hlt : k < outs.length
            · obtain ⟨b, off, rfl, hc⟩ := O3.out k hlt
              have hlt' : k < ws.length := by rw [HOL.out, ← HLO.out]; exact hlt
              have HKW := Lib.hid (HWA.out k hlt hlt')
              have hkp : k < plan.length := by rw [HLEN.out]; exact hlt
              have HKO := Lib.hid (HOW.out k hlt' hkp)
              rw [← HKW.out] at HKO
              have hml : mri outs k ∈ l := HSUB.out _ (mri_mem hlt)
              have HML := Lib.hid hml
              obtain ⟨va, vc, hav, a1, a2, a3⟩ : ∃ a c, (mri outs k).av = .slice a (mri outs k).w.after.length c ∧ (mri outs k).w.after.length ≤ c ∧ c ≤ maxLen ∧ ∀ i (hi : i < (mri outs k).w.after.length), ∃ b off, a = some ⟨b, off, none⟩ ∧ w.cell? ⟨b, off + i, none⟩ = some (.string (bs (mri outs k).w.after[i])) := by
                obtain ⟨j, hj, hjm⟩ := mem_mri hml
                rw [← hjm]; exact HA.out.form hj
              have A3 := Lib.hid a3
              have HAV := Lib.hid hav
              have hm3 : (mri outs k).w.after.length ≤ 9223372036854775807 := by unfold maxLen at a2; omega
              obtain ⟨c0, c1, c2, c3, c4⟩ := (hc.keep (ext_trans HB12.out HB27.out)).keep hbr.out
              rw [hav] at c4
              obtain ⟨WR, hWR⟩ : ∃ WR, WR = wr := ⟨_, rfl⟩
              subst hWR
              obtain ⟨W2, HO1, HC1, HW, _⟩ := copyW WR (mri outs k) hav
              have HMI2 := Lib.hid ((HMY7.out.keep hbr.out).keep HC1.out)
              have HB9 := Lib.hid (ext_trans hbr.out HC1.out)
              have HBW := Lib.hid (ext_trans HB7.out HB9.out)
              have HYM := Lib.hid (bri_mem hkp)
              generalize bri plan k = y at *
              clear hc hav hml a3 hkp HKW hlt'
              go_upto_region 25 with fail
              rw [HW.out]
              clear c0 c1 c2 c3 c4 HW
              obtain ⟨c0, c1, c2, c3, c4⟩ := wkC HO1.out
              rw [HAV.out] at c4
              go_wp2_with fail
              clear c0 c1 c2 c3 c4
              go_loopw [110] (fun i w' => ∃ m : Nat, m ≤ (mri outs k).w.after.length ∧ i = .int .i64 m ∧ W2 = w') (fun i _ => (mri outs k).w.after.length - (intOf i).toNat)
              case atStart => exact ⟨0, Nat.zero_le _, rfl, rfl⟩
              case round =>
                obtain ⟨m, hm2, rfl, rfl⟩ := hrel
                by_cases hlt2 : m < (mri outs k).w.after.length
                · obtain ⟨ab, ao, rfl, hac⟩ := A3.out m hlt2
                  have hcc := cell_keep HBW.out hac
                  obtain ⟨u, hu1, hu2, hu3⟩ := HKO.out.after _ (List.getElem_mem hlt2)
                  have l1 := HMI2.out.look1 (HID.out _ HML.out) HYM.out HKO.out.hull
                  have l2 := HMI2.out.look1 (HID2.out _ HML.out _ (List.getElem_mem hlt2)) hu1 hu2
                  have f1 := field_time
                  have f2 := field_A
                  have f3 := field_B
                  have d1 : ¬ y.a < u.b := by omega
                  obtain ⟨c0, c1, c2, c3, c4⟩ := wkC HO1.out
                  clear hac hu1 hu2 hu3 c1 c2 c3 c4
                  go_wp2_with fail
                  go_roundw
                  case rel => exact ⟨m + 1, by omega, by go_num, by first | rfl | trivial⟩
                  case measure => simp [intOf]; omega
                · obtain rfl : m = (mri outs k).w.after.length := by omega
                  go_wp2_with fail
                  go_roundw
                  case rel => exact ⟨k + 1, by omega, by go_num, HB9⟩
                  case measure => simp [intOf]; omega
            · obtain rfl : k = outs.length := by omega
              have HBE := Lib.hid (ext_trans HB7.out hbr.out)
              go_wp2_with fail
              go_ret
              exact ⟨rfl, HBE.out⟩
end Go.Proofs.YtlmfcigabojbmaaGreatDoor

/- The law of shops: it answers true. -/
namespace Go.Proofs.YtlmfcigabojbmaaGreatDoor
open Go.RowKit

theorem enter_bC : ∀ args w, (callFunc 8 args).run Tryz.prog w = .ok (.enter 8 args) w := enters_of Tryz.func8 (by kernel_rfl) rfl
theorem enter_sC : ∀ args w, (callFunc 9 args).run Tryz.prog w = .ok (.enter 9 args) w := enters_of Tryz.func9 (by kernel_rfl) rfl
theorem enter_sS : ∀ args w, (callFunc 10 args).run Tryz.prog w = .ok (.enter 10 args) w := enters_of Tryz.func10 (by kernel_rfl) rfl
def skEn3 : FuncId → Bool
  | 8 => true
  | 9 => true
  | 10 => true
  | _ => false
theorem skEn3_ok (f : FuncId) (h : skEn3 f = true) (args : Array Value) (w : World) : (callFunc f args).run Tryz.prog w = .ok (.enter f args) w := by
  unfold skEn3 at h
  split at h
  · exact enter_bC args w
  · exact enter_sC args w
  · exact enter_sS args w
  · cases h
def skT3 : QTab := ⟨skFo, skSc, skAg, skEs, skLn, skEn3, dkLn⟩
theorem skT3_ok : skT3.Ok := ⟨skFo_ok, skSc_ok, skAg_ok, skEs_ok, skLn_ok, skEn3_ok, dkSl_ok⟩
theorem planR_none {l : List Wrk} {bays : List DBay} (h : (planR l bays).1 ≠ 0) : (planR l bays).2 = [] := by
  unfold planR at h ⊢
  split
  · split
    · split
      · rename_i h1 h2 _ p hp
        rw [if_pos h1, if_pos h2, hp] at h; exact absurd rfl h
      · rfl
    · rfl
  · rfl
theorem plan_bay {bays : List DBay} {l : List Ber} (h : planOk bays l = true) {k : Nat} (hk : k < bays.length) : (sideB (byi bays k).len && sideB (byi bays k).wid) = true := by
  unfold planOk at h
  simp only [Bool.and_eq_true, List.all_eq_true] at h
  have := h.1.2 k (List.mem_range.2 hk)
  unfold bayOk at this
  simp only [Bool.and_eq_true] at this ⊢
  exact this.1.2
set_option maxRecDepth 100000 in
set_option maxHeartbeats 2000000 in
theorem TopShops_any (v bv : Value) (l : List MW) (bays : List DBay) (t : Int) (w : World) (h : SWk w v l) (ha : Aft w l) (hb : SD w bv bays) (hm : MLen w) (hsd : StrD bays maxLen) (hs : ∀ m ∈ l, m.w.id.length ≤ 1100000) (hs2 : ∀ m ∈ l, ∀ s ∈ m.w.after, s.length ≤ maxLen) (hlt : ∀ a n c, v = .slice (some a) n c → 0 < n → a.block < w.heap.size) :
    Calls Tryz.prog 3 #[v, bv, .int .i64 t] w (Ret w (.bool true)) := by
  have hs1 : ∀ m ∈ l, m.w.id.length ≤ maxLen := fun m hm => Nat.le_trans (hs m hm) (by unfold maxLen; omega)
  have HS := Lib.hid h; have HA := Lib.hid ha; have HID := Lib.hid hs1; have HIDS := Lib.hid hs; have HID2 := Lib.hid hs2; have HM := Lib.hid hm; have HBV := Lib.hid hb; have HSD := Lib.hid hsd; have HLT := Lib.hid hlt
  obtain ⟨a, cap, rfl, h1, h2, h3⟩ := h
  obtain ⟨da, dc, rfl, d1, d2, d3⟩ := hb
  have D3 := Lib.hid d3
  clear h3 ha hs hs1 hs2 hm hlt d3 hsd
  unfold maxLen at d2 h2
  by_cases hbig : 20 < l.length ∨ 4 < bays.length
  · by_cases h20 : 20 < l.length
    all_goals
      go_enter Tryz.func3, Tryz.ntmps3
      go_wp2_with fail
      go_ret
      exact ⟨rfl, Below.refl _ _⟩
  have h20 : l.length ≤ 20 := by omega
  have h4 : bays.length ≤ 4 := by omega
  clear hbig
  go_enter Tryz.func3, Tryz.ntmps3
  go_wp2_with fail
  rw [show decide ((20 : Int) < l.length) = false from decide_eq_false (by omega), show decide ((4 : Int) < bays.length) = false from decide_eq_false (by omega)]
  go_loopw [7] (fun i wr => ∃ k : Nat, k ≤ bays.length ∧ i = .int .i64 k ∧ w = wr) (fun i _ => bays.length - (intOf i).toNat)
  case atStart => exact ⟨0, Nat.zero_le _, rfl, rfl⟩
  case round =>
    obtain ⟨k, hk, rfl, rfl⟩ := hrel
    by_cases hlt : k < bays.length
    · obtain ⟨b, off, rfl, hc⟩ := D3.out k hlt
      obtain ⟨c0, c1, c2⟩ := hc
      by_cases hl1 : 1000000 < (byi bays k).len
      · go_wp2_with fail
        go_ret
        exact ⟨rfl, Below.refl _ _⟩
      by_cases hl2 : 1000000 < (byi bays k).wid
      · go_wp2_with fail
        go_ret
        exact ⟨rfl, Below.refl _ _⟩
      go_wp2_with fail
      go_roundw
      case rel => exact ⟨k + 1, by omega, by go_num, by first | rfl | trivial⟩
      case measure => simp [intOf]; omega
    · obtain rfl : k = bays.length := by omega
      go_wp2_with fail
      refine (Plan_any _ _ l bays w HS.out HA.out HBV.out HM.out HSD.out HID.out HID2.out HLT.out).mono ?_
      rintro e w1 ⟨pa, pc, rfl, hsb, h1'⟩
      have HB1 := Lib.hid h1'
      have HSB1 := Lib.hid hsb
      clear h1' hsb
      obtain ⟨E, hE⟩ : ∃ E, (planR (wl l) bays).1 = E := ⟨_, rfl⟩
      obtain ⟨P, hP⟩ : ∃ P, (planR (wl l) bays).2 = P := ⟨_, rfl⟩
      rw [hE, hP]; rw [hP] at HSB1
      have HE := Lib.hid hE; have HP := Lib.hid hP
      clear hE hP
      go_wp2_with fail
      refine (Order42_any _ l w1 (HS.out.keep HB1.out) (HA.out.keep HB1.out) HIDS.out).mono ?_
      rintro e w2 ⟨ov, rfl, _, h2'⟩
      have HB2 := Lib.hid (ext_trans HB1.out h2')
      have HSB2 := Lib.hid (HSB1.out.keep h2')
      clear h2' HSB1
      by_cases he : E = 0
      rotate_left
      · have hne : (E != 0) = true := bne_iff_ne.2 he
        obtain rfl : P = [] := by rw [← HP.out]; exact planR_none (by rw [HE.out]; exact he)
        clear he
        go_wp2_with fail
        refine (rPlan_any _ _ l bays w2 (HS.out.keep HB2.out) (HA.out.keep HB2.out) (HBV.out.keep HB2.out) HSD.out HIDS.out).mono ?_
        rintro e w3 ⟨ov, rfl, h3'⟩
        rw [HE.out]
        have HB3 := Lib.hid (ext_trans HB2.out h3')
        clear h3'
        go_wp2_with fail
        go_ret
        exact ⟨rfl, HB3.out⟩
      subst he
      obtain ⟨ho, hok, hpw, hpl⟩ := plan_good (l := wl l) (bays := bays) (plan := P) (by rw [wl_len]; omega) (Prod.ext HE.out HP.out)
      rw [wl_len] at hpl hpw
      have HCR := Lib.hid (Critical_any _ l w2 (HS.out.keep HB2.out) (HA.out.keep HB2.out) (HM.out.keep HB2.out) HID.out HID2.out (fun a n c e h => Nat.lt_of_lt_of_le (HLT.out a n c e h) HB2.out.size) ho)
      have HCS : Hid (critL (ordF (wl l) l.length) ≤ spanL P) := crit_span hpw
      have HPL := Lib.hid hpl
      have HPE : Hid (planE bays P = 0) := (planE_iff bays P).2 hok
      have HOK := Lib.hid hok
      have HPB : Hid (∀ u ∈ P, 0 ≤ u.b) := fun u hu => by
        obtain ⟨d, _, e2, _⟩ := plan_stay hok hu
        have := rangeB_iff.1 e2
        omega
      have HSTB : Hid (StrB P maxLen) := ⟨fun u hu => by
        have : u.hull ∈ (ordF (wl l) l.length).map (·.id) := by rw [← planW_ids hpw]; exact List.mem_map_of_mem hu
        obtain ⟨x, hx, hxe⟩ := List.mem_map.1 this
        have hm := (ordW (wl l) l.length).mem _ hx
        unfold wl at hm
        obtain ⟨m, hm1, hm2⟩ := List.mem_map.1 hm
        rw [← hxe, ← hm2]; exact HID.out m hm1⟩
      have HCH := Lib.hid (fun v' (hv : Below w2.heap.size w2 v') => ShCheck_any (.slice a l.length cap) (.slice da bays.length dc) (.slice pa P.length pc) l bays P v' (HS.out.keep (ext_trans HB2.out hv)) (HA.out.keep (ext_trans HB2.out hv)) (HBV.out.keep (ext_trans HB2.out hv)) (HSB2.out.keep hv) (HM.out.keep (ext_trans HB2.out hv)) HSD.out HSTB.out HID.out HID2.out (fun a n c e h => Nat.lt_of_lt_of_le (HLT.out a n c e h) (ext_trans HB2.out hv).size) ho HPE.out hpw hpl)
      have hp20 : P.length ≤ 20 := by omega
      rw [ho]
      clear ho hok hpw hpl
      go_wp2_with fail
      refine HCR.out.mono ?_
      rintro e w3 ⟨rfl, h3'⟩
      have HB23 := Lib.hid h3'
      have HB3 := Lib.hid (ext_trans HB2.out h3')
      clear h3' HCR
      generalize critL (ordF (wl l) l.length) = C at *
      go_upto_region 14 with fail
      refine wp_region_et skT3 skT3_ok [] (Below w3.heap.size w3) [] [(87, .ret (.int .i64 0)), (94, .ret (.int .i64 0)), (99, .ret (.int .i64 (spanL P)))] [(109, .bool false)] (by kernel_rfl) (Below.refl _ _) (fun v hv k => (by intro j u h; cases h)) trivial ?_
      conv => whnf
      refine And.intro (under_of fun v hv => (Check_any _ _ bays P v (HBV.out.keep (ext_trans HB3.out hv)) (HSB2.out.keep (ext_trans HB23.out hv)).y (HM.out.keep (ext_trans HB3.out hv)) HSD.out HSTB.out).mono fun e v' he => ⟨by rw [he.1, HPE.out], ext_trans hv he.2⟩) ?_
      conv => whnf
      refine And.intro (under_of fun v hv => (HCH.out v (ext_trans HB23.out hv)).mono fun e v' he => ⟨he.1, ext_trans hv he.2⟩) ?_
      conv => whnf
      refine And.intro (under_of fun v hv => (Span_any _ P v (HSB2.out.keep (ext_trans HB23.out hv)) HPB.out).mono fun e v' he => ⟨he.1, ext_trans hv he.2⟩) ?_
      conv => whnf
      intro f1
      conv => whnf
      refine And.intro ?_ ?_
      · refine congrArg Value.bool ?_
        have h1 : ((P.length : Int) != (l.length : Int)) = false := by rw [HPL.out]; simp
        have h2 : decide (spanL P < C) = false := decide_eq_false (by have := HCS.out; omega)
        rw [h1, h2]; rfl
      conv => whnf
      intro w4 h4'
      have HB4 := Lib.hid (ext_trans HB3.out h4')
      have HSB4 := Lib.hid (HSB2.out.keep (ext_trans HB23.out h4'))
      clear h4'
      go_wp2_with fail
      go_loopw [16] (fun i wr => ∃ k : Nat, k ≤ bays.length ∧ i = .int .i64 k ∧ Hid (Below w4.heap.size w4 wr)) (fun i _ => bays.length - (intOf i).toNat)
      case atStart => exact ⟨0, Nat.zero_le _, rfl, Lib.hid (Below.refl _ _)⟩
      case round =>
        obtain ⟨k, hk, rfl, hb⟩ := hrel
        by_cases hlt : k < bays.length
        · obtain ⟨b, off, rfl, hc⟩ := D3.out k hlt
          have HC := Lib.hid (hc.keep (ext_trans HB4.out hb.out))
          obtain ⟨c0, c1, c2⟩ := HC.out
          clear hc c1 c2
          go_wp2_with fail
          refine (Area_any _ P (byi bays k).name t wr (HSB4.out.keep hb.out) (by omega)).mono ?_
          rintro e w5 ⟨rfl, h5'⟩
          have HB5 := Lib.hid (ext_trans hb.out h5')
          have HC5 := Lib.hid (dAt_range (HC.out.keep h5'))
          have hsz := plan_bay HOK.out hlt
          have hmr := mul_side hsz
          have HAR : Hid (0 ≤ areaL (hereL P (byi bays k).name t) ∧ areaL (hereL P (byi bays k).name t) ≤ (byi bays k).len * (byi bays k).wid) := area_plan HOK.out (byi_mem hlt) (by simp only [Bool.and_eq_true, sideB_iff] at hsz; omega) t
          generalize areaL (hereL P (byi bays k).name t) = R at *
          clear h5' HC c0 hsz
          go_upto_region 20 with fail
          refine wp_region_ev skT3 skT3_ok [bayO b (off + k * 3) (byi bays k)] (Below w5.heap.size w5) [] [(130, .ix k 0), (135, .ix k 0)] [(140, .bool false)] (by kernel_rfl) mixed (by kernel_rfl) ((Below.refl _ _).drew) (obs1 fun v hv => rangeKeep HC5.out hv) trivial ?_
          conv => whnf
          refine And.intro (under_of ⟨rfl, hlt, rfl, rfl⟩) ?_
          conv => whnf
          refine And.intro (under_of ⟨rfl, hlt, rfl, rfl⟩) ?_
          conv => whnf
          refine And.intro (under_of (by omega)) ?_
          conv => whnf
          intro f2
          conv => whnf
          refine And.intro ?_ ?_
          · refine congrArg Value.bool ?_
            have h := HAR.out
            rw [decide_eq_false (by omega), decide_eq_false (by omega)]; rfl
          conv => whnf
          intro w6 h6'
          have HB6 := Lib.hid (ext_trans HB5.out h6')
          clear h6' hmr
          go_wp2_with fail
          go_roundw
          case rel => exact ⟨k + 1, by omega, by go_num, HB6⟩
          case measure => simp [intOf]; omega
        · obtain rfl : k = bays.length := by omega
          have HBE := Lib.hid (ext_trans HB4.out hb.out)
          go_wp2_with fail
          go_ret
          exact ⟨rfl, HBE.out⟩
end Go.Proofs.YtlmfcigabojbmaaGreatDoor

/- The frame of shops' row: jobs and bays that came in; what the bound on the arguments gives. -/
namespace Go.Proofs.YtlmfcigabojbmaaGreatDoor
open Go.ChangeShapes Go.WideShapes Go.ChangeAt Go.RowKit Go.Deep

theorem mlen_of {W : World} (h : W.ShapedOpen Tryz.prog) : MLen W :=
  cell_of_shapedOpen_int (P := Tryz.prog) (g := 0) (t := 3) (zero := #[.int .i64 0]) h (of_decide_eq_true (by kernel_rfl)) (by kernel_rfl) rfl (by kernel_rfl) (by kernel_rfl) Tryz.underlying3
section
variable {H : Type} {enc : TypeId × Value → H} {W : World}
theorem leaves_bay : leavesOf Tryz.prog 3 25 = some [9, 3, 3] := by kernel_rfl
def gInt : Value → Int | .int .i64 k => k | _ => 0
def gStr : Value → List UInt8 | .string s => s.data.toList | _ => []
theorem gInt_of {q : Nat} {v : Value} {y : DataW H × List MemPlace} (h : DataW.trod enc Tryz.prog W 0 (fun _ => true) true q 3 [v] = some y) : v = .int .i64 (gInt v) := by
  obtain ⟨k, e, _⟩ := int_trod Tryz.underlying3 h
  rw [e]; rfl
theorem gStr_of {q : Nat} {v : Value} {y : DataW H × List MemPlace} (h : DataW.trod enc Tryz.prog W 0 (fun _ => true) true q 9 [v] = some y) : v = .string (bs (gStr v)) ∧ (gStr v).length ≤ maxLen := by
  obtain ⟨s, e, hs⟩ := str_trod Tryz.underlying9 h
  rw [e]
  exact ⟨by show _ = Value.string (bs s.data.toList); rw [bs_of], by show s.data.toList.length ≤ _; rw [Array.length_toList]; exact hs⟩
theorem bays_trod {fuel : Nat} {v : Value} {x : DataW H × List MemPlace} (h : DataW.trod enc Tryz.prog W 0 (fun _ => true) true fuel 23 [v] = some x) : ∃ l : List DBay, SD W v l ∧ StrD l maxLen := by
  obtain ⟨v', m, C, hcs, ⟨a, cap, rfl, h1, h2, h3⟩, hC⟩ := open_rows Tryz.underlying23 leaves_bay (by kernel_rfl) (by decide) h
  simp at hcs
  subst hcs
  let X : Nat → DBay := fun i => ⟨gStr (C i 0), gInt (C i 1), gInt (C i 2)⟩
  have hl : ((List.range m).map X).length = m := by simp
  have hk : ∀ i, i < m → byi ((List.range m).map X) i = X i := fun i hi => by simp [byi, hi]
  refine ⟨(List.range m).map X, ⟨a, cap, by rw [hl], by rw [hl]; exact h1, h2, fun i hi => ?_⟩, ⟨fun t ht => ?_⟩⟩
  · rw [hl] at hi
    obtain ⟨b, off, ha, hc⟩ := h3 i hi
    refine ⟨b, off, ha, ?_⟩
    rw [hk i hi]
    obtain ⟨q0, y0, t0⟩ := hC i hi 0 _ rfl
    obtain ⟨q1, y1, t1⟩ := hC i hi 1 _ rfl
    obtain ⟨q2, y2, t2⟩ := hC i hi 2 _ rfl
    exact ⟨by rw [← (gStr_of t0).1]; exact hc 0 (by decide), by rw [← gInt_of t1]; exact hc 1 (by decide), by rw [← gInt_of t2]; exact hc 2 (by decide)⟩
  · obtain ⟨i, hi, rfl⟩ := List.mem_map.1 ht
    obtain ⟨q0, y0, t0⟩ := hC i (List.mem_range.1 hi) 0 _ rfl
    exact (gStr_of t0).2
theorem leaves_work : leavesOf Tryz.prog 3 44 = some [9, 3, 3, 3, 30] := by kernel_rfl
theorem strs_trod {fuel : Nat} {v : Value} {x : DataW H × List MemPlace} (h : DataW.trod enc Tryz.prog W 0 (fun _ => true) true fuel 30 [v] = some x) :
    ∃ ss, SZ W v ss ∧ ∀ x ∈ ss, x.size ≤ maxLen := by
  rcases open_strings Tryz.underlying30 Tryz.underlying9 (by kernel_rfl) h with ⟨hcs, _⟩ | ⟨x, l, c', ss, hcs, _, hl, hm, hz, _, hcell, hsz⟩
  · simp at hcs
    subst hcs
    exact ⟨[], SZ_nil _, by simp⟩
  · simp at hcs
    subst hcs
    have hz' : ss.length = c' := by simpa using hz
    have hl2 : (ss.take l).length = l := by simp; omega
    refine ⟨ss.take l, ?_, fun x hx => hsz x (List.mem_of_mem_take hx)⟩
    unfold SZ
    rw [hl2]
    refine Sl_of hl hm fun i hi => ?_
    rw [hcell i (by omega), zi_lt (by omega)]
    simp [List.getD, List.getElem?_eq_getElem (show i < ss.length by omega)]
theorem bs_map (ss : List ByteArray) : (ss.map (fun s => s.data.toList)).map bs = ss := by
  rw [List.map_map]
  have : (bs ∘ fun s : ByteArray => s.data.toList) = id := by funext s; exact bs_of s
  rw [this, List.map_id]
/-- what is known of jobs that came in -/
structure WoA (enc : TypeId × Value → H) (W : World) (v : Value) (d : DataW H) (l : List MW) : Prop where
  s : SWk W v l
  a : Aft W l
  ss : ∀ m ∈ l, ∀ s ∈ m.w.after, s.length ≤ maxLen
  le : ∀ N, Rows.uptoBulk d ≤ N → ∀ m ∈ l, m.w.id.length ≤ N
  lt : ∀ a n c, v = .slice (some a) n c → 0 < n → a.block < W.heap.size
theorem works_trod {fuel : Nat} {v : Value} {x : DataW H × List MemPlace} (h : DataW.trod enc Tryz.prog W 0 (fun _ => true) true fuel 22 [v] = some x) : ∃ l : List MW, SWk W v l ∧ Aft W l ∧ ∀ m ∈ l, ∀ s ∈ m.w.after, s.length ≤ maxLen := by
  obtain ⟨v', m, C, hcs, ⟨a, cap, rfl, h1, h2, h3⟩, hC⟩ := open_rows Tryz.underlying22 leaves_work (by kernel_rfl) (by decide) h
  simp at hcs
  subst hcs
  have hz : ∀ i, ∃ ss : List ByteArray, i < m → SZ W (C i 4) ss ∧ ∀ x ∈ ss, x.size ≤ maxLen := by
    intro i
    by_cases hi : i < m
    · obtain ⟨q, y, t⟩ := hC i hi 4 _ rfl
      obtain ⟨ss, g1, g2⟩ := strs_trod t
      exact ⟨ss, fun _ => ⟨g1, g2⟩⟩
    · exact ⟨[], fun h => absurd h hi⟩
  let Z : Nat → List ByteArray := fun i => Classical.choose (hz i)
  have hZ : ∀ i, i < m → SZ W (C i 4) (Z i) ∧ ∀ x ∈ Z i, x.size ≤ maxLen := fun i => Classical.choose_spec (hz i)
  let X : Nat → MW := fun i => ⟨⟨gStr (C i 0), gInt (C i 1), gInt (C i 2), gInt (C i 3), (Z i).map fun s => s.data.toList⟩, C i 4⟩
  have hl : ((List.range m).map X).length = m := by simp
  have hk : ∀ i, i < m → mri ((List.range m).map X) i = X i := fun i hi => by simp [mri, hi]
  refine ⟨(List.range m).map X, ⟨a, cap, by rw [hl], by rw [hl]; exact h1, h2, fun i hi => ?_⟩, fun t ht => ?_, fun t ht s hs => ?_⟩
  · rw [hl] at hi
    obtain ⟨b, off, ha, hc⟩ := h3 i hi
    refine ⟨b, off, ha, ?_⟩
    rw [hk i hi]
    obtain ⟨q0, y0, t0⟩ := hC i hi 0 _ rfl
    obtain ⟨q1, y1, t1⟩ := hC i hi 1 _ rfl
    obtain ⟨q2, y2, t2⟩ := hC i hi 2 _ rfl
    obtain ⟨q3, y3, t3⟩ := hC i hi 3 _ rfl
    exact ⟨by rw [← (gStr_of t0).1]; exact hc 0 (by decide), by rw [← gInt_of t1]; exact hc 1 (by decide), by rw [← gInt_of t2]; exact hc 2 (by decide), by rw [← gInt_of t3]; exact hc 3 (by decide), hc 4 (by decide)⟩
  · obtain ⟨i, hi, rfl⟩ := List.mem_map.1 ht
    show SZ W (C i 4) (((Z i).map fun s => s.data.toList).map bs)
    rw [bs_map]
    exact (hZ i (List.mem_range.1 hi)).1
  · obtain ⟨i, hi, rfl⟩ := List.mem_map.1 ht
    obtain ⟨u, hu, rfl⟩ := List.mem_map.1 hs
    have := (hZ i (List.mem_range.1 hi)).2 u hu
    rw [Array.length_toList]; exact this
theorem docks_arg {a : Option Addr} {n c : Nat} {d : DataW H} {p : List MemPlace} (h : DataW.Trod enc Tryz.prog W 0 (fun _ => true) true 23 (.slice a n c) d p) : ∃ l : List DBay, SD W (.slice a n c) l ∧ StrD l maxLen := by
  obtain ⟨fuel, hf⟩ := h
  exact bays_trod (v := .slice a n c) hf
theorem part_le {d : DataW H} {l : List (DataW H)} (h : d ∈ l) : Rows.uptoBulk d ≤ Rows.uptoBulkAll l := by
  induction l with
  | nil => cases h
  | cons x r ih =>
    simp only [Rows.uptoBulkAll]
    cases List.mem_cons.1 h with
    | inl e => subst e; omega
    | inr e => have := ih e; omega
theorem agg_le {d : DataW H} {l : List (DataW H)} (h : d ∈ l) : Rows.uptoBulk d ≤ Rows.uptoBulk (.agg l) := by
  have := part_le h
  simp only [Rows.uptoBulk]
  omega
theorem elem_le {d : DataW H} {l r : List (DataW H)} (h : d ∈ l) : Rows.uptoBulk d ≤ Rows.uptoBulk (.slice l r) := by
  have := part_le h
  simp only [Rows.uptoBulk]
  omega
theorem work_bulk {fuel : Nat} {cs : List Value} {x : DataW H × List MemPlace} {s : List UInt8} {N : Nat} (h : DataW.trod enc Tryz.prog W 0 (fun _ => true) true fuel 44 cs = some x) (hc : cs.take 1 = [.string (bs s)]) (hN : Rows.uptoBulk x.1 ≤ N) : s.length ≤ N := by
  obtain ⟨ys, n', _, hy, _, hyl, hf⟩ := DataW.trod_struct Tryz.underlying44 h
  have hf0 := hf 0 _ rfl
  have hy0 : 0 < ys.length := by rw [hyl]; decide
  rw [List.getElem?_eq_getElem hy0] at hf0
  have hcs : (cs.drop 0).take (Tryz.prog.cellsOf 9) = [Value.string (bs s)] := by
    rw [show Tryz.prog.cellsOf 9 = 1 by kernel_rfl]; exact hc
  have hf0' : DataW.trod enc Tryz.prog W 0 (fun _ => true) true n' 9 ((cs.drop 0).take (Tryz.prog.cellsOf 9)) = some ys[0] := hf0
  rw [hcs] at hf0'
  obtain ⟨u, q1, q2, q3⟩ := DataW.trod_string Tryz.underlying9 hf0'
  simp only [List.cons.injEq, Value.string.injEq, and_true] at q1
  have k1 : Rows.uptoBulk (ys[0]).1 = s.length + 1 := by
    rw [q2, ← q1]
    simp [Rows.uptoBulk, bs]
  have k2 : Rows.uptoBulk (ys[0]).1 ≤ Rows.uptoBulk x.1 := by
    have e1 : x.1 = .agg (ys.map (·.1)) := by rw [hy]
    rw [e1]
    exact agg_le (List.mem_map.2 ⟨_, List.getElem_mem hy0, rfl⟩)
  omega
theorem works_bulk {fuel : Nat} {v : Value} {l : List MW} {x : DataW H × List MemPlace} {N : Nat} (h : DataW.trod enc Tryz.prog W 0 (fun _ => true) true fuel 22 [v] = some x) (hm : SWk W v l) (hN : Rows.uptoBulk x.1 ≤ N) : ∀ u ∈ l, u.w.id.length ≤ N := by
  intro u hu
  obtain ⟨i, hi, rfl⟩ := mem_mri hu
  obtain ⟨a0, cap, rfl, h1, h2, h3⟩ := hm
  obtain ⟨b, off, rfl, hat⟩ := h3 i hi
  rcases DataW.trod_slice Tryz.underlying22 h with ⟨e, _⟩ | ⟨a, len, cp, elems, rest, n, _, e, rfl, _, _, _, hl, hel, _, _⟩
  · simp at e
  · simp only [List.cons.injEq, Value.slice.injEq, Option.some.injEq, and_true] at e
    obtain ⟨rfl, rfl, _⟩ := e
    have he := hel i hi
    rw [show Tryz.prog.cellsOf 44 = 5 by kernel_rfl] at he
    rw [List.getElem?_eq_getElem (show i < elems.length by omega)] at he
    obtain ⟨cs, hc, ht⟩ := Option.bind_eq_some_iff.1 he
    obtain ⟨_, hcl, hca⟩ := World.cells?_some hc
    have hc0 := hca 0 (by decide)
    have hadd : (⟨b, off, none⟩ : Addr).add (i * 5) = ⟨b, off + i * 5, none⟩ := by unfold Addr.add; simp
    rw [hadd] at hc0
    have hc1 : W.cell? ((⟨b, off + i * 5, none⟩ : Addr).add 0) = W.cell? ⟨b, off + i * 5, none⟩ := by unfold Addr.add; simp
    rw [hc1, hat.c0] at hc0
    have hcs : cs.take 1 = [Value.string (bs (mri l i).w.id)] := by
      cases cs with
      | nil => simp at hcl
      | cons c r => simp at hc0; subst hc0; rfl
    refine work_bulk ht hcs ?_
    have k3 : Rows.uptoBulk (elems[i]).1 ≤ Rows.uptoBulk (DataW.slice (elems.map (·.1)) (rest.map (·.1))) := elem_le (List.mem_map.2 ⟨_, List.getElem_mem (by omega), rfl⟩)
    dsimp only at hN
    omega
theorem works_arg {a : Option Addr} {n c : Nat} {d : DataW H} {p : List MemPlace} (h : DataW.Trod enc Tryz.prog W 0 (fun _ => true) true 22 (.slice a n c) d p) : ∃ l : List MW, WoA enc W (.slice a n c) d l := by
  obtain ⟨fuel, hf⟩ := h
  obtain ⟨l, h1, h2, h3⟩ := works_trod (v := .slice a n c) hf
  refine ⟨l, h1, h2, h3, fun N hN => works_bulk (v := .slice a n c) hf h1 hN, fun a' n' c' e hn => ?_⟩
  cases e
  obtain ⟨b, off, cap, e, _, _, hb, _⟩ := h1.form (by have := h1.n; omega)
  simp only [Value.slice.injEq, Option.some.injEq] at e
  rw [e.1]; exact hb
theorem bound {l : List (DataW H)} (hk : Rows.uptoSmall H l = true) : Rows.uptoBulkAll l ≤ 1048576 := by
  unfold Rows.uptoSmall at hk
  rw [decide_eq_true_eq] at hk
  exact hk
end
end Go.Proofs.YtlmfcigabojbmaaGreatDoor
