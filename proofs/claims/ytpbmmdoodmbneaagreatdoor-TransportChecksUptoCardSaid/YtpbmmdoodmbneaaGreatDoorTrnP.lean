/- Contract: Plan of transport. -/
import Derived.Test.YtpbmmdoodmbneaaGreatDoorTrnPa
import Derived.Deep.DeepCutAuto
namespace Go.Proofs.YtpbmmdoodmbneaaGreatDoor
open Go.RowKit

/-- it returns trips and an error -/
def RetXE (w : World) (l : List Trp) (er : Int) (e : Ending) (w' : World) : Prop := ∃ v, e = .returned (.tuple #[v, .int .i64 er]) ∧ SX w' v l ∧ Below w.heap.size w w'
theorem retXE {w w' : World} {l l' : List Trp} {er er' : Int} {e : Ending} {v : Value} (he : e = .returned (.tuple #[v, .int .i64 er'])) (h : er' = er) (hs : SX w' v l') (hr : l' = l) (hb : Below w.heap.size w w') : RetXE w l er e w' := by
  subst h hr; exact ⟨v, he, hs, hb⟩
/-- the best trip so far -/
def AtR (w : World) (b : Nat) (at_ : Value) (r : Option (Nat × Trp)) : Prop := X4 w b ∧ match r with | none => at_ = .int .i64 (-1) | some (j, y) => at_ = .int .i64 j ∧ XAt w b 0 y
theorem AtR.below {w w' : World} {b : Nat} {at_ : Value} {r : Option (Nat × Trp)} (h : AtR w b at_ r) (hb : b < w.heap.size) (hw : Below w.heap.size w w') : AtR w' b at_ r := by
  refine ⟨h.1.below hw hb, ?_⟩
  have h2 := h.2
  cases r with
  | none => exact h2
  | some jy => exact ⟨h2.1, h2.2.keep hw⟩
def r18d (i : Nat) : Nat := if i = 20 then 17 else i + 61
def r18V (m : Mov) (tt : Trk) (p n pto mf : Nat) (fn em s : Int) (lv dv ov : Value) (gx ox bo oo M : Nat) : Nat → Value
  | 0 => .int .i64 m.ready
  | 1 => lv
  | 2 => .int .i64 n
  | 3 => .int .i64 p
  | 4 => .pointer (some ⟨gx, ox + p * 4, none⟩)
  | 5 => .pointer (some ⟨gx, ox + p * 4 + 3, none⟩)
  | 6 => .int .i64 fn
  | 7 => .agg #[.string (bs tt.name), .int .i64 tt.load, .int .i64 tt.hours]
  | 8 => dv
  | 9 => ov
  | 10 => .int .i64 n
  | 11 => .int .i64 p
  | 12 => .pointer (some ⟨bo, oo + p * 5, none⟩)
  | 13 => .pointer (some ⟨bo, oo + p * 5 + 2, none⟩)
  | 14 => .int .i64 pto
  | 15 => .pointer (some ⟨M, 1, none⟩)
  | 16 => .int .i64 mf
  | 17 => .int .i64 em
  | 18 => .int .i64 (fn + em)
  | _ => .int .i64 s
def r19d (i : Nat) : Nat := if i = 15 then 19 else i + 81
def r19V (m : Mov) (tt : Trk) (s hv : Int) (dv : Value) (T M : Nat) : Nat → Value
  | 0 => .pointer (some ⟨M, 0, none⟩)
  | 1 => .string (bs m.item)
  | 2 => .pointer (some ⟨T, 0, none⟩)
  | 3 => .string (bs tt.name)
  | 4 => .int .i64 s
  | 5 => .int .i64 s
  | 6 => .agg #[.string (bs tt.name), .int .i64 tt.load, .int .i64 tt.hours]
  | 7 => dv
  | 8 => .pointer (some ⟨M, 1, none⟩)
  | 9 => .int .i64 m.frm
  | 10 => .pointer (some ⟨M, 2, none⟩)
  | 11 => .int .i64 m.to
  | 12 => .int .i64 hv
  | 13 => .int .i64 (s + hv)
  | _ => .agg #[.string (bs m.item), .string (bs tt.name), .int .i64 s, .int .i64 (s + hv)]
def r19P (N : Nat) (m : Mov) (tt : Trk) (s hv : Int) (dv : Value) (T M : Nat) (i : Nat) (v : Value) (w : World) : Prop :=
  if i = 15 then ∃ b, v = .pointer (some ⟨b, 0, none⟩) ∧ N ≤ b ∧ b < w.heap.size ∧ X4 w b else v = r19V m tt s hv dv T M i
theorem r19P_is {N : Nat} {m : Mov} {tt : Trk} {s hv : Int} {dv : Value} {T M i : Nat} {v : Value} {w : World} (hi : i ≠ 15) : r19P N m tt s hv dv T M i v w ↔ v = r19V m tt s hv dv T M i := by unfold r19P; rw [if_neg hi]
theorem r19P_mono {N : Nat} {m : Mov} {tt : Trk} {s hv : Int} {dv : Value} {T M : Nat} (i : Nat) (v : Value) (w w' : World) (h : r19P N m tt s hv dv T M i v w) (hb : Below w.heap.size w w') : r19P N m tt s hv dv T M i v w' := by
  unfold r19P at *
  by_cases e : i = 15
  · rw [if_pos e] at h ⊢
    obtain ⟨b, e, h0, h1, h2⟩ := h
    exact ⟨b, e, h0, Nat.lt_of_lt_of_le h1 hb.size, h2.below hb h1⟩
  · rw [if_neg e] at h ⊢
    exact h
theorem own_part {w : World} {B : Nat} {v : Value} {n : Nat} (h : w.ownsRow B 3 1 v n (madeCells #[Value.int .i64 0] n).toList) : OwnI w B v (List.replicate n 0) := by
  unfold OwnI
  rw [List.length_replicate, List.map_replicate]
  rwa [toList_madeCells_one] at h

set_option maxHeartbeats 8000000 in
set_option maxRecDepth 100000 in
theorem Plan_any (mv v dv : Value) (ms : List Mov) (tr : List Trk) (d : List (List Int)) (w : World) (hm : SM w mv ms) (h : SK w v tr) (hd : SS w dv d) (hz : ∀ t ∈ tr, t.name.length ≤ maxLen) (hzm : ∀ m ∈ ms, m.item.length ≤ maxLen) (hM : MLen w) :
    Calls Tryz.prog 11 #[mv, v, dv] w (RetXE w (planV ms tr d) (planE ms tr d)) := by
  have HCK := Lib.hid (check_any mv v dv ms tr d w hm h hd hz hzm hM)
  have HM := Lib.hid hm
  have HK := Lib.hid h
  have HD := Lib.hid hd
  obtain ⟨ma, mc, rfl, _, _, _⟩ := hm
  obtain ⟨ka, kc, rfl, kn, km, _⟩ := h
  obtain ⟨da, dc, rfl, dn, dm, _⟩ := hd.open
  unfold maxLen at km
  clear hd hz hzm hM
  have HV : Hid (planV ms tr d = if inE ms tr d ≠ 0 then [] else (planO ms tr d).getD []) := rfl
  have HE : Hid (planE ms tr d = if inE ms tr d ≠ 0 then inE ms tr d else match planO ms tr d with | none => 25 | some _ => 0) := rfl
  have HOK : Hid (inE ms tr d = 0 → YardOK tr d ∧ MovesOK ms d.length) := fun h => inE_ok h
  generalize inE ms tr d = y at *
  by_cases hy : y = 0
  · subst hy
    obtain ⟨hY, hMO⟩ := HOK.out rfl
    have HYD := Lib.hid hY
    have HMO := Lib.hid hMO
    have hntr := hY.n2
    have hnms := hMO.ln
    have HV2 : Hid (planV ms tr d = (planO ms tr d).getD []) := HV.out
    have HE2 : Hid (planE ms tr d = match planO ms tr d with | none => 25 | some _ => 0) := HE.out
    have HPO : Hid (planO ms tr d = planF tr d ((srtM ms).drop 0) (fun _ => none) []) := rfl
    clear HV HE HOK hY hMO
    obtain ⟨iI, hi, hz0, hz1, hz2⟩ := info_parts Tryz_infoInt
    have HI := Lib.hid hi; have HZ0 := Lib.hid hz0; have HZ1 := Lib.hid hz1; have HZ2 := Lib.hid hz2
    clear hi hz0 hz1 hz2
    go_enter Tryz.func11, Tryz.ntmps11
    go_wp2_with fail
    refine HCK.out.mono ?_
    rintro e w1 ⟨rfl, hb1⟩
    have HB1 := Lib.hid hb1
    clear hb1 HCK
    go_wp2_with fail
    refine (cloneM_any _ ms w1 (HM.out.keep HB1.out) (by omega)).mono ?_
    rintro e w2 ⟨ov, rfl, ho, hb2⟩
    have HO2 := Lib.hid ho
    have HB2 := Lib.hid (ext_trans HB1.out hb2)
    have hw12 := HB1.out.size
    obtain ⟨oa, on, oc, rfl⟩ : ∃ a n c, ov = .slice a n c := by rcases ho.shape with ⟨e, _⟩ | ⟨_, _, e, _⟩ <;> exact ⟨_, _, _, e⟩
    clear ho hb2
    go_wp2_with fail
    refine (sortC_any _ ms w2 w1.heap.size HO2.out (by omega) HMO.out.nd).mono ?_
    rintro e w3 ⟨rfl, hg3, hs3⟩
    have HS3 := Lib.hid hs3
    have HB3 := Lib.hid (below_own HB2.out hg3 (fun k hk => by have := (HO2.out.lt k hk).1; omega))
    have hoc : on = (srtM ms).length ∧ (srtM ms).length ≤ oc := by obtain ⟨a, c, e, q1, _⟩ := hs3; simp at e; exact ⟨e.2.1, by omega⟩
    obtain ⟨rfl, hoc⟩ := hoc
    clear hs3 hg3 HO2
    go_wp2_with (at_make; refine wpList_make_full _ rfl _ _ 37 rfl w3.heap.size 3 iI (.int .i64 0) 1 Tryz.underlying37 HI.out HZ0.out HZ1.out _ _ _ _ tr.length rfl rfl rfl rfl ?c1 ?c2 (Nat.le_refl _) ?_)
    case c1 => rw [HZ2.out]; omega
    case c2 => unfold maxLen; omega
    intro w4 hown4 hgrow4
    have HO4 := Lib.hid (own_part hown4)
    have hb34 := grownBy_below hgrow4
    have HB4 := Lib.hid (ext_trans HB3.out hb34)
    have HS4 := Lib.hid (HS3.out.keep hb34)
    have HBL : Hid (1 ≤ ms.length → ∀ b, blkOf (.slice oa (srtM ms).length oc) = some b → b < w3.heap.size) := fun h1 b hb => HS3.out.blk_lt (by rw [srtM_length]; exact h1) hb
    have hlt34 : w3.heap.size < w4.heap.size := by
      have := hown4.lt w3.heap.size rfl; omega
    have hw3 := HB3.out.size
    have hom : (srtM ms).length ≤ 128 := by rw [srtM_length]; exact hnms
    clear hown4 hgrow4 hb34 HS3 HB2 HB1 HI HZ0 HZ1 HZ2
    obtain ⟨gl, hgl⟩ : ∃ gl, gl = w3.heap.size := ⟨_, rfl⟩
    rw [← hgl] at hlt34 HO4 HBL hw3 ⊢
    clear hgl HB3 hw12
    have HOM : Hid (MovesOK (srtM ms) d.length) := HMO.out.perm (srtM_perm ms)
    have HLM : Hid ((srtM ms).length = ms.length) := srtM_length ms
    generalize srtM ms = om at *
    go_wp2_with fail
    go_loopw [6, 36] (fun lv i wr => ∃ (k : Nat) (acc : List Trp) (last : List Int), k ≤ om.length ∧ i = .int .i64 k ∧ Hid (w4.grownBy wr (some gl)) ∧ Hid (OwnX wr w4.heap.size lv acc) ∧ Hid (OwnI wr w.heap.size (.slice (some ⟨gl, 0, none⟩) tr.length tr.length) last) ∧
      Hid (acc.length = k ∧ LastOK last tr.length k ∧ EndsOK acc) ∧ Hid (planO ms tr d = planF tr d (om.drop k) (stL om acc last) acc)) (fun _ i _ => om.length - (intOf i).toNat)
    case atStart => exact ⟨0, [], List.replicate tr.length 0, Nat.zero_le _, rfl, World.grownBy.refl _ _, OwnX_nil _ _, owns_mono HO4.out (by omega), ⟨rfl, lastOK_start _, EndsOK.nil⟩, by rw [stL_start]; exact HPO.out⟩
    case round =>
      obtain ⟨k, acc, last, hk, rfl, hg, hx, hla, hfacts, hpl⟩ := hrel
      have HBW : Hid (Below w.heap.size w wr) := below_own HB4.out hg.out (fun b hb => by simp at hb; omega)
      have hsz := hg.out.size
      by_cases hlt : k < om.length
      · have HSO : Hid (SM wr (.slice oa om.length oc) om) := HS4.out.grown hg.out (by
          cases hbo : blkOf (.slice oa om.length oc) with
          | none => exact .inl rfl
          | some b =>
            refine .inr fun e => ?_
            have := HBL.out (by rw [← HLM.out]; omega) b hbo
            have := Option.some.inj e; omega)
        obtain ⟨bo, oo, oc', eo, q1, q2, q3, q4⟩ := HSO.out.form (show 1 ≤ om.length by omega)
        simp at eo
        obtain ⟨rfl, rfl⟩ := eo
        have HQ4 := Lib.hid q4
        obtain ⟨c0, c1, c2, c3, c4⟩ := q4 k hlt
        have hrg := HOM.out.rg _ (mvi_mem hlt)
        have HMV : Hid (mvi om k = mvi om k) := rfl
        have HPA := Lib.hid (hpl.out.trans (planF_at hlt))
        obtain ⟨m, hm⟩ : ∃ m, mvi om k = m := ⟨_, rfl⟩
        rw [hm] at c0 c1 c2 c3 c4 hrg HPA
        have HMK := Lib.hid hm
        clear q4 hm HMV hpl
        obtain ⟨la, lc, rfl, hlc⟩ := hx.out.form
        go_wp2_with fail
        obtain ⟨W2, hW2⟩ : ∃ W2, W2 = (wr.alloc (.cells #[.string (bs m.item), .int .i64 m.frm, .int .i64 m.to, .int .i64 m.ready, .int .i64 m.mass] 39)).alloc (.cells #[.string ⟨#[]⟩, .string ⟨#[]⟩, .int .i64 0, .int .i64 0] 43) := ⟨_, rfl⟩
        rw [← hW2]
        have hbW2 : Below wr.heap.size wr W2 := by rw [hW2]; exact ((Below.refl _ _).alloc (Nat.le_refl _) _).alloc (by simp) _
        obtain ⟨M, hM⟩ : ∃ M, M = wr.heap.size := ⟨_, rfl⟩
        have HMW : Hid (MAt W2 M 0 m) := by
          show MAt _ _ _ _
          rw [hW2, hM]
          exact ⟨by simp, by simp, by simp, by simp, by simp⟩
        have HX4 : Hid (X4 W2 (M + 1)) := by
          show X4 _ _
          rw [hW2, hM]
          have := X4_new (wr.alloc (.cells #[.string (bs m.item), .int .i64 m.frm, .int .i64 m.to, .int .i64 m.ready, .int .i64 m.mass] 39))
          simpa using this
        have hW2s : W2.heap.size = M + 2 := by rw [hW2, hM]; simp
        have hMs : w4.heap.size ≤ M := by rw [hM]; exact hsz
        have HSW := Lib.hid (HSO.out.keep hbW2)
        have HXW := Lib.hid (hx.out.below hbW2)
        have HLW : Hid (OwnI W2 w.heap.size (.slice (some ⟨gl, 0, none⟩) tr.length tr.length) last) := owns_below hla.out hbW2
        have HGW : Hid (w4.grownBy W2 (some gl)) := grownBy_trans hg.out ⟨hbW2.os, hbW2.tape, hbW2.output, hbW2.size, fun b hb _ => hbW2.block b hb⟩
        have HBW2 := Lib.hid (ext_trans HBW.out hbW2)
        have hxlt : ∀ N, M ≤ N → (Value.slice la acc.length lc).ownBlock = none ∨ (Value.slice la acc.length lc).ownBlock ≠ some N := fun N hN => hx.out.blk_lt (by rw [← hM]; exact hN)
        have HXLT := Lib.hid hxlt
        clear hW2 hbW2 hxlt c0 c1 c2 c3 c4 hx hla hg HSO HBW HQ4
        rw [← hM]
        clear hM hsz
        go_loopw [14, 43] (fun at_ i w5 => ∃ i' : Nat, i' ≤ tr.length ∧ i = .int .i64 i' ∧ Hid (W2.grownBy w5 (some (M + 1))) ∧ Hid (AtR w5 (M + 1) at_ (bestF tr d (stL om acc last) m i'))) (fun _ i _ => tr.length - (intOf i).toNat)
        case atStart => exact ⟨0, Nat.zero_le _, rfl, World.grownBy.refl _ _, HX4.out, rfl⟩
        case round =>
          obtain ⟨w5, rfl⟩ : ∃ x : World, x = wr := ⟨_, rfl⟩
          obtain ⟨i, hi, rfl, hg5, hat⟩ := hrel
          have HB5 : Hid (Below w.heap.size w w5) := below_own HBW2.out hg5.out (fun b hb => by have := Option.some.inj hb; omega)
          have hs5 := hg5.out.size
          by_cases hlt2 : i < tr.length
          · obtain ⟨b, off, ha, hc⟩ := (HK.out.keep HB5.out).at hlt2
            subst ha
            have hM5 := HMW.out.grown hg5.out (by simp)
            have m0 : w5.cell? ⟨M, 0, none⟩ = some (.string (bs m.item)) := hM5.c0
            have m1 : w5.cell? ⟨M, 1, none⟩ = some (.int .i64 m.frm) := hM5.c1
            have m2 : w5.cell? ⟨M, 2, none⟩ = some (.int .i64 m.to) := hM5.c2
            have m3 : w5.cell? ⟨M, 3, none⟩ = some (.int .i64 m.ready) := hM5.c3
            have m4 : w5.cell? ⟨M, 4, none⟩ = some (.int .i64 m.mass) := hM5.c4
            have hMlt : M < w5.heap.size := by omega
            clear hM5
            obtain ⟨t0, t1, t2⟩ := hc
            have hrt := HYD.out.hr _ (tki_mem hlt2)
            have hTE := trip_ends (om := om) HYD.out (last := last) (by have := hfacts.out.2.1; rw [← hfacts.out.1] at this; exact this) hfacts.out.2.2 (m := m) (by omega) hlt2
            have hHR := hours_range HYD.out (tki_mem hlt2) m.frm m.to
            have HSK := Lib.hid (fun h => bestF_skip (d := d) (st := stL om acc last) (m := m) (k := i) (tr := tr) h)
            have HFI := Lib.hid (fun h hb => bestF_first (d := d) (st := stL om acc last) (m := m) (k := i) (tr := tr) h hb)
            have HLE := Lib.hid (fun (j : Nat) (y : Trp) h hb hl => bestF_less (d := d) (st := stL om acc last) (m := m) (k := i) (tr := tr) (j := j) (y := y) h hb hl)
            have HKE := Lib.hid (fun (j : Nat) (y : Trp) h hb hl => bestF_keep (d := d) (st := stL om acc last) (m := m) (k := i) (tr := tr) (j := j) (y := y) h hb hl)
            have HSV : Hid (startV (tki tr i) d (stL om acc last i) m = startV (tki tr i) d (stL om acc last i) m) := rfl
            by_cases hld : (tki tr i).load < m.mass
            · have HN := Lib.hid (HSK.out hld)
              generalize tki tr i = tt at *
              go_wp2_with fail
              go_roundw
              case rel => exact ⟨i + 1, by omega, by go_num, grownBy_trans hg5.out (grownBy_of_below ((Below.refl _ _).alloc (Nat.le_refl _) _) _), by rw [HN.out]; exact hat.out.below (by omega) ((Below.refl _ _).alloc (Nat.le_refl _) _)⟩
              case measure => simp [intOf]; omega
            · have hL5 := HLW.out.keptH hg5.out (.inr (by simp [Value.ownBlock]; omega))
              have hln : last.length = tr.length := hfacts.out.2.1.1
              have cL : w5.cell? ⟨gl, i, none⟩ = some (.int .i64 (gi last i)) := hL5.cellH (by omega)
              have hglt : gl < w5.heap.size := by omega
              have hnr := hfacts.out.2.1.2 i hlt2
              have HSI : Hid (stL om acc last i = if gi last i ≤ 0 then none else some ((mvi om ((gi last i).toNat - 1)).to, (tpi acc ((gi last i).toNat - 1)).fin)) := rfl
              have hacc : acc.length ≤ 128 := by have := hfacts.out.1; omega
              obtain ⟨n, hn⟩ : ∃ n : Nat, gi last i = n := ⟨(gi last i).toNat, by omega⟩
              rw [hn] at cL hnr HSI
              obtain ⟨s, hs⟩ : ∃ s, startV (tki tr i) d (stL om acc last i) m = s := ⟨_, rfl⟩
              obtain ⟨hq, hhv⟩ : ∃ hq, hoursV (tki tr i) d m.frm m.to = hq := ⟨_, rfl⟩
              rw [hs, hhv] at hTE
              rw [hhv] at hHR
              have HS := Lib.hid hs
              have HHV := Lib.hid hhv
              clear hs hhv hn hL5 hln
              generalize tki tr i = tt at *
              go_upto_if 60 with (fail)
              obtain ⟨w6, hw6⟩ : ∃ w6, w6 = w5.alloc (.cells #[.string (bs tt.name), .int .i64 tt.load, .int .i64 tt.hours] 36) := ⟨_, rfl⟩
              rw [← hw6]
              have hb56 : Below w5.heap.size w5 w6 := by rw [hw6]; exact (Below.refl _ _).alloc (Nat.le_refl _) _
              have hK6 : KAt w6 w5.heap.size 0 tt := by rw [hw6]; exact ⟨by simp, by simp, by simp⟩
              have hs6 : w6.heap.size = w5.heap.size + 1 := by rw [hw6]; simp
              clear hw6
              go_cut [17, 18] (fun s17 s18 wx => s17 = .int .i64 s ∧ Below w6.heap.size w6 wx)
              case first =>
                rcases Nat.eq_zero_or_pos n with rfl | hn0
                · have HS0 : Hid (m.ready = s) := by
                    show _ = _
                    rw [← HS.out, HSI.out]; rfl
                  go_wp2_with fail
                  go_meet
                  exact ⟨by rw [HS0.out], Below.refl _ _⟩
                · obtain ⟨p, rfl⟩ : ∃ p, n = p + 1 := ⟨n - 1, by omega⟩
                  have hpk : p < acc.length := by have := hfacts.out.1; omega
                  have hXX := (HXW.out.kept hg5.out (HXLT.out (M + 1) (by omega))).s
                  obtain ⟨gx, ox, hla, hXa⟩ := (hXX.keep hb56).at hpk
                  subst hla
                  have hSS5 := (HSW.out.grown hg5.out (by
                    refine .inr fun e => ?_
                    simp [blkOf] at e
                    have := HBL.out (by rw [← HLM.out]; omega) bo rfl
                    omega)).keep hb56
                  obtain ⟨bo', oo', hlo, hMa⟩ := hSS5.at (show p < om.length by omega)
                  simp only [Option.some.injEq, Addr.mk.injEq] at hlo
                  obtain ⟨rfl, rfl, _⟩ := hlo
                  have hrp := HOM.out.rg _ (mvi_mem (show p < om.length by omega))
                  have hEp := hfacts.out.2.2 p hpk
                  obtain ⟨pto, hpto⟩ : ∃ q : Nat, (mvi om p).to = q := ⟨(mvi om p).to.toNat, by omega⟩
                  obtain ⟨mf, hmf⟩ : ∃ q : Nat, m.frm = q := ⟨m.frm.toNat, by omega⟩
                  have HS1 : s = max m.ready ((tpi acc p).fin + emptyV tt d pto mf) := by
                    rw [← HS.out, HSI.out, if_neg (by omega), ← hpto, ← hmf]
                    rfl
                  have hhr : 1 ≤ tt.hours ∧ tt.hours ≤ 100 := by omega
                  have hpd : pto < d.length := by omega
                  have hmd : mf < (ri d pto).length := by rw [HYD.out.sq _ (ri_mem hpd)]; omega
                  have hdr := HYD.out.dist pto mf
                  have hme : emptyV tt d pto mf ≤ 500001 ∧ 0 ≤ emptyV tt d pto mf := by
                    unfold emptyV
                    rw [Int.toNat_natCast, Int.toNat_natCast]
                    generalize gi (ri d pto) mf = z at *
                    have h4 : tt.hours * z ≤ 100 * 10000 := Int.mul_le_mul hhr.2 hdr.2 hdr.1 (by omega)
                    have h5 : 0 ≤ tt.hours * z := Int.mul_nonneg (by omega) hdr.1
                    omega
                  have HMF := Lib.hid hmf
                  have HPT := Lib.hid hpto
                  clear hmf hpto
                  go_wp2_with fail
                  refine wp_name fun a0 ha0 => ?_
                  have z17 : a0.eval (.tmp 17) = .int .i64 m.ready := by rw [ha0]; rfl
                  have z6 : a0.eval (.tmp 6) = .slice (some ⟨gx, ox, none⟩) acc.length lc := by rw [ha0]; rfl
                  have z18 : a0.eval (.tmp 18) = .int .i64 ((p + 1 : Nat) : Int) := by rw [ha0]; rfl
                  have z16 : a0.eval (.tmp 16) = .pointer (some ⟨w5.heap.size, 0, none⟩) := by rw [ha0]; rfl
                  have z2 : a0.eval (.tmp 2) = .slice da d.length dc := by rw [ha0]; rfl
                  have z9 : a0.eval (.tmp 9) = .slice (some ⟨bo, oo, none⟩) om.length oc := by rw [ha0]; rfl
                  have z12 : a0.eval (.tmp 12) = .pointer (some ⟨M, 0, none⟩) := by rw [ha0]; rfl
                  refine wp_region_ipf r18d (fun i v _ => v = r18V m tt p (p + 1) pto mf (tpi acc p).fin (emptyV tt d pto mf) s (.slice (some ⟨gx, ox, none⟩) acc.length lc) (.slice da d.length dc) (.slice (some ⟨bo, oo, none⟩) om.length oc) gx ox bo oo M i) (fun w' => Below w6.heap.size w6 w') mixed (by kernel_rfl) (by rw [ha0]; rfl) (by kernel_rfl) (Below.refl _ _).drew (fun i v w w' h _ => h) ?_ ?_
                  · rintro i op a w7 hop hdep hsm hb hfr K hK
                    have hi : i < 21 := (Array.getElem?_eq_some_iff.1 hop).1
                    have q6 := (hsm.eval (m := 6) (by decide)).trans z6
                    have q18 := (hsm.eval (m := 18) (by decide)).trans z18
                    have q16 := (hsm.eval (m := 16) (by decide)).trans z16
                    have q2 := (hsm.eval (m := 2) (by decide)).trans z2
                    have q9 := (hsm.eval (m := 9) (by decide)).trans z9
                    have q12 := (hsm.eval (m := 12) (by decide)).trans z12
                    have kx := cell_keep hb hXa.c3
                    have km' := cell_keep hb hMa.c2
                    have kt := hK6.keep hb
                    have kf : w7.cell? ⟨M, 1, none⟩ = some (.int .i64 mf) := by rw [← HMF.out]; exact cell_keep hb (cell_keep hb56 m1)
                    rw [HPT.out] at km'
                    have hbw : Below w.heap.size w w7 := ext_trans (ext_trans HB5.out hb56) hb
                    have dv : ∀ e ∈ op.after, Region.binds .any e = true → a.eval (.tmp (r18d e.on)) = r18V m tt p (p + 1) pto mf (tpi acc p).fin (emptyV tt d pto mf) s (.slice (some ⟨gx, ox, none⟩) acc.length lc) (.slice da d.length dc) (.slice (some ⟨bo, oo, none⟩) om.length oc) gx ox bo oo M e.on := fun e he hbi => hdep e he hbi
                    have hn : ∀ v, v = r18V m tt p (p + 1) pto mf (tpi acc p).fin (emptyV tt d pto mf) s (.slice (some ⟨gx, ox, none⟩) acc.length lc) (.slice da d.length dc) (.slice (some ⟨bo, oo, none⟩) om.length oc) gx ox bo oo M i → K (a.put op.dst v) w7 := fun v hv => hK _ _ hb (Below.refl _ _) hv
                    have hcase : i = 0 ∨ i = 1 ∨ i = 2 ∨ i = 3 ∨ i = 4 ∨ i = 5 ∨ i = 6 ∨ i = 7 ∨ i = 8 ∨ i = 9 ∨ i = 10 ∨ i = 11 ∨ i = 12 ∨ i = 13 ∨ i = 14 ∨ i = 15 ∨ i = 16 ∨ i = 17 ∨ i = 18 ∨ i = 19 ∨ i = 20 := by omega
                    rcases hcase with h | h | h | h | h | h | h | h | h | h | h | h | h | h | h | h | h | h | h | h | h <;> subst h <;> have ho' := Option.some.inj hop <;> subst ho'
                    · exact vl_move (.tmp 17) rfl _ ((hfr 20 _ ⟨0, .phase⟩ rfl (by simp) rfl rfl).trans z17) (hn _ rfl)
                    · exact vl_move (.tmp 6) rfl _ q6 (hn _ rfl)
                    · exact vl_move (.tmp 18) rfl _ q18 (hn _ rfl)
                    · exact wp_sub1 (.tmp 63) _ rfl ((p + 1 : Nat) : Int) 1 (dv ⟨2, .data⟩ (by simp) rfl) rfl (by omega) (by rw [show (((p + 1 : Nat) : Int) - 1) = (p : Int) by omega]; exact hn _ rfl)
                    · exact ix_trips (.tmp 62) (.tmp 64) gx ox acc.length lc p rfl (dv ⟨1, .data⟩ (by simp) rfl) (dv ⟨3, .data⟩ (by simp) rfl) hpk hlc (hn _ rfl)
                    · exact fa_trip (.tmp 65) 3 (by omega) rfl gx (ox + p * 4) (dv ⟨4, .data⟩ (by simp) rfl) (hn _ rfl)
                    · exact vl_load 3 agg_int0 (.tmp 66) rfl _ _ (dv ⟨5, .data⟩ (by simp) rfl) kx (hn _ rfl)
                    · exact ld_truck (.tmp 16) tt w5.heap.size 0 rfl q16 kt (hn _ rfl)
                    · exact vl_move (.tmp 2) rfl _ q2 (hn _ rfl)
                    · exact vl_move (.tmp 9) rfl _ q9 (hn _ rfl)
                    · exact vl_move (.tmp 18) rfl _ q18 (hn _ rfl)
                    · exact wp_sub1 (.tmp 71) _ rfl ((p + 1 : Nat) : Int) 1 (dv ⟨10, .data⟩ (by simp) rfl) rfl (by omega) (by rw [show (((p + 1 : Nat) : Int) - 1) = (p : Int) by omega]; exact hn _ rfl)
                    · exact ix_moves (.tmp 70) (.tmp 72) bo oo om.length oc p rfl (dv ⟨9, .data⟩ (by simp) rfl) (dv ⟨11, .data⟩ (by simp) rfl) (by omega) hoc (hn _ rfl)
                    · exact fa_move (.tmp 73) 2 (by omega) rfl bo (oo + p * 5) (dv ⟨12, .data⟩ (by simp) rfl) (hn _ rfl)
                    · exact vl_load 3 agg_int0 (.tmp 74) rfl _ _ (dv ⟨13, .data⟩ (by simp) rfl) km' (hn _ rfl)
                    · exact fa_move (.tmp 12) 1 (by omega) rfl M 0 q12 (hn _ (by rw [Nat.zero_add]; rfl))
                    · exact vl_load 3 agg_int0 (.tmp 76) rfl _ _ (dv ⟨15, .data⟩ (by simp) rfl) kf (hn _ rfl)
                    · exact vl_call4 22 _ _ _ _ (.tmp 68) (.tmp 69) (.tmp 75) (.tmp 77) rfl enter_empty _ _ _ _ (dv ⟨7, .data⟩ (by simp) rfl) (dv ⟨8, .data⟩ (by simp) rfl) (dv ⟨14, .data⟩ (by simp) rfl) (dv ⟨16, .data⟩ (by simp) rfl) ((empty_any tt _ d pto mf _ (HD.out.keep hbw) hhr hpd hmd hdr).mono fun e w8 ⟨he, hb8⟩ => ⟨_, he, hK _ _ (ext_trans hb hb8) hb8 rfl⟩)
                    · exact wp_add1 (.tmp 67) (.tmp 78) rfl _ _ (dv ⟨6, .data⟩ (by simp) rfl) (dv ⟨17, .data⟩ (by simp) rfl) (by omega) (hn _ rfl)
                    · exact mx_two (.tmp 61) (.tmp 79) rfl _ _ (dv ⟨0, .data⟩ (by simp) rfl) (dv ⟨18, .data⟩ (by simp) rfl) (hn _ (congrArg (Value.int .i64) HS1.symm))
                    · exact vl_assign (.tmp 80) rfl _ (dv ⟨19, .data⟩ (by simp) rfl) (hn _ rfl)
                  · rintro a w7 hsm hb hv
                    have v17 : a.eval (.tmp 17) = .int .i64 s := hv 20 (by decide)
                    have hsm' : Sm [61, 62, 63, 64, 65, 66, 67, 68, 69, 70, 71, 72, 73, 74, 75, 76, 77, 78, 79, 80, 17] a0 a := hsm
                    have HA := hsm'.lit
                    simp only [List.foldl] at HA
                    rw [v17] at HA
                    generalize a.eval (.tmp 61) = t61 at HA
                    generalize a.eval (.tmp 62) = t62 at HA
                    generalize a.eval (.tmp 63) = t63 at HA
                    generalize a.eval (.tmp 64) = t64 at HA
                    generalize a.eval (.tmp 65) = t65 at HA
                    generalize a.eval (.tmp 66) = t66 at HA
                    generalize a.eval (.tmp 67) = t67 at HA
                    generalize a.eval (.tmp 68) = t68 at HA
                    generalize a.eval (.tmp 69) = t69 at HA
                    generalize a.eval (.tmp 70) = t70 at HA
                    generalize a.eval (.tmp 71) = t71 at HA
                    generalize a.eval (.tmp 72) = t72 at HA
                    generalize a.eval (.tmp 73) = t73 at HA
                    generalize a.eval (.tmp 74) = t74 at HA
                    generalize a.eval (.tmp 75) = t75 at HA
                    generalize a.eval (.tmp 76) = t76 at HA
                    generalize a.eval (.tmp 77) = t77 at HA
                    generalize a.eval (.tmp 78) = t78 at HA
                    generalize a.eval (.tmp 79) = t79 at HA
                    generalize a.eval (.tmp 80) = t80 at HA
                    rw [HA, ha0]
                    simp only [Act.put, List.setIfInBounds_toArray, List.set_cons_zero, List.set_cons_succ]
                    clear HA hsm hsm' hv v17 ha0 z17 z6 z18 z16 z2 z9 z12
                    go_wp2_with fail
                    go_meet
                    exact ⟨rfl, hb⟩
              case rest =>
                obtain ⟨rfl, hb6⟩ := hcut
                have hs6c := hb6.size
                have e0 := cell_keep hb6 (cell_keep hb56 m0)
                have e1 := cell_keep hb6 (cell_keep hb56 m1)
                have e2 := cell_keep hb6 (cell_keep hb56 m2)
                have hKc := hK6.keep hb6
                have hBc : Below w.heap.size w wc := ext_trans (ext_trans HB5.out hb56) hb6
                have hb5c : Below w5.heap.size w5 wc := ext_trans hb56 hb6
                go_wp2_with fail
                refine wp_name fun a0 ha0 => ?_
                have z17 : a0.eval (.tmp 17) = .int .i64 s := by rw [ha0]; rfl
                have z16 : a0.eval (.tmp 16) = .pointer (some ⟨w5.heap.size, 0, none⟩) := by rw [ha0]; rfl
                have z2 : a0.eval (.tmp 2) = .slice da d.length dc := by rw [ha0]; rfl
                have z12 : a0.eval (.tmp 12) = .pointer (some ⟨M, 0, none⟩) := by rw [ha0]; rfl
                refine wp_region_ips 16 r19d (r19P wc.heap.size m tt s hq (.slice da d.length dc) w5.heap.size M) (fun w' => Below wc.heap.size wc w') (fun a w' => Sm (slots r19d 16) a0 a ∧ ∃ b, a.eval (.tmp 19) = .pointer (some ⟨b, 0, none⟩) ∧ wc.heap.size ≤ b ∧ b < w'.heap.size ∧ Below wc.heap.size wc w' ∧ XAt w' b 0 ⟨m.item, tt.name, s, s + hq⟩ ∧ X4 w' b) (by kernel_rfl) mixed (by kernel_rfl) (by rw [ha0]; rfl) (by kernel_rfl) (by kernel_rfl) (Below.refl _ _).drew r19P_mono ?_ ?_ ?_
                · rintro i op a w7 hi hop hdep hsm hb K hK
                  have q17 := (hsm.eval (m := 17) (by decide)).trans z17
                  have q16 := (hsm.eval (m := 16) (by decide)).trans z16
                  have q2 := (hsm.eval (m := 2) (by decide)).trans z2
                  have q12 := (hsm.eval (m := 12) (by decide)).trans z12
                  have k0 := cell_keep hb e0
                  have k1 := cell_keep hb e1
                  have k2 := cell_keep hb e2
                  have kt := hKc.keep hb
                  have hbw : Below w.heap.size w w7 := ext_trans hBc hb
                  have dv : ∀ e ∈ op.after, Region.binds .any e = true → e.on ≠ 15 → a.eval (.tmp (r19d e.on)) = r19V m tt s hq (.slice da d.length dc) w5.heap.size M e.on := fun e he hbi hne => (r19P_is hne).1 (hdep e he hbi)
                  have hn : i ≠ 15 → ∀ v, v = r19V m tt s hq (.slice da d.length dc) w5.heap.size M i → K (a.put op.dst v) w7 := fun hne v hv => hK _ _ hb (Below.refl _ _) ((r19P_is hne).2 hv)
                  have hcase : i = 0 ∨ i = 1 ∨ i = 2 ∨ i = 3 ∨ i = 4 ∨ i = 5 ∨ i = 6 ∨ i = 7 ∨ i = 8 ∨ i = 9 ∨ i = 10 ∨ i = 11 ∨ i = 12 ∨ i = 13 ∨ i = 14 ∨ i = 15 := by omega
                  rcases hcase with h | h | h | h | h | h | h | h | h | h | h | h | h | h | h | h <;> subst h <;> have ho' := Option.some.inj hop <;> subst ho'
                  · exact fa_move (.tmp 12) 0 (by omega) rfl M 0 q12 (hn (by decide) _ rfl)
                  · exact vl_load 9 agg_string (.tmp 81) rfl _ _ (dv ⟨0, .data⟩ (by simp) rfl (by decide)) k0 (hn (by decide) _ rfl)
                  · exact fa_truck (.tmp 16) 0 (by omega) rfl w5.heap.size 0 q16 (hn (by decide) _ rfl)
                  · exact vl_load 9 agg_string (.tmp 83) rfl _ _ (dv ⟨2, .data⟩ (by simp) rfl (by decide)) kt.c0 (hn (by decide) _ rfl)
                  · exact vl_move (.tmp 17) rfl _ q17 (hn (by decide) _ rfl)
                  · exact vl_move (.tmp 17) rfl _ q17 (hn (by decide) _ rfl)
                  · exact ld_truck (.tmp 16) tt w5.heap.size 0 rfl q16 kt (hn (by decide) _ rfl)
                  · exact vl_move (.tmp 2) rfl _ q2 (hn (by decide) _ rfl)
                  · exact fa_move (.tmp 12) 1 (by omega) rfl M 0 q12 (hn (by decide) _ (by rw [Nat.zero_add]; rfl))
                  · exact vl_load 3 agg_int0 (.tmp 89) rfl _ _ (dv ⟨8, .data⟩ (by simp) rfl (by decide)) k1 (hn (by decide) _ rfl)
                  · exact fa_move (.tmp 12) 2 (by omega) rfl M 0 q12 (hn (by decide) _ (by rw [Nat.zero_add]; rfl))
                  · exact vl_load 3 agg_int0 (.tmp 91) rfl _ _ (dv ⟨10, .data⟩ (by simp) rfl (by decide)) k2 (hn (by decide) _ rfl)
                  · exact vl_call4 14 _ _ _ _ (.tmp 87) (.tmp 88) (.tmp 90) (.tmp 92) rfl enter_Hours _ _ _ _ (dv ⟨6, .data⟩ (by simp) rfl (by decide)) (dv ⟨7, .data⟩ (by simp) rfl (by decide)) (dv ⟨9, .data⟩ (by simp) rfl (by decide)) (dv ⟨11, .data⟩ (by simp) rfl (by decide)) ((Hours_any tt _ d m.frm m.to _ (HD.out.keep hbw)).mono fun e w8 ⟨he, hb8⟩ => ⟨_, he, hK _ _ (ext_trans hb hb8) hb8 ((r19P_is (by decide)).2 (congrArg (Value.int .i64) HHV.out))⟩)
                  · exact wp_add1 (.tmp 86) (.tmp 93) rfl _ _ (dv ⟨5, .data⟩ (by simp) rfl (by decide)) (dv ⟨12, .data⟩ (by simp) rfl (by decide)) (by omega) (hn (by decide) _ rfl)
                  · exact bd_trip (.tmp 82) (.tmp 84) (.tmp 85) (.tmp 94) ⟨m.item, tt.name, s, s + hq⟩ rfl (dv ⟨1, .data⟩ (by simp) rfl (by decide)) (dv ⟨3, .data⟩ (by simp) rfl (by decide)) (dv ⟨4, .data⟩ (by simp) rfl (by decide)) (dv ⟨13, .data⟩ (by simp) rfl (by decide)) (hn (by decide) _ rfl)
                  · exact al_trip rfl (hK _ _ (below_alloc hb _) ((Below.refl _ _).alloc (Nat.le_refl _) _) ⟨_, rfl, hb.size, by simp, X4_new _⟩)
                · rintro op a w7 hop hsm hb hv K hK
                  have ho' := Option.some.inj hop
                  subst ho'
                  obtain ⟨b9, e9, f1, f2, f3⟩ : ∃ b, a.eval (.tmp 19) = .pointer (some ⟨b, 0, none⟩) ∧ wc.heap.size ≤ b ∧ b < w7.heap.size ∧ X4 w7 b := hv 15 (by omega)
                  have e95 : a.eval (.tmp 95) = .agg #[.string (bs m.item), .string (bs tt.name), .int .i64 s, .int .i64 (s + hq)] := (r19P_is (by decide)).1 (hv 14 (by omega))
                  have hsx := setX_at f3 ⟨m.item, tt.name, s, s + hq⟩
                  have hgx := setX_grown w7 b9 ⟨m.item, tt.name, s, s + hq⟩
                  exact st_trip (.tmp 19) (.tmp 95) ⟨m.item, tt.name, s, s + hq⟩ b9 rfl rfl e9 e95 f3 (hK _ _ ⟨hsm, b9, e9, f1, Nat.lt_of_lt_of_le f2 hgx.size, below_own hb hgx (fun k hk => by have := Option.some.inj hk; omega), hsx.1, hsx.2⟩)
                · rintro a w7 ⟨hsm, b9, e9, f1, f2, hb, hx1, hx4⟩
                  have hsm' : Sm [81, 82, 83, 84, 85, 86, 87, 88, 89, 90, 91, 92, 93, 94, 95, 19] a0 a := hsm
                  have HA := hsm'.lit
                  simp only [List.foldl] at HA
                  rw [e9] at HA
                  generalize a.eval (.tmp 81) = t81 at HA
                  generalize a.eval (.tmp 82) = t82 at HA
                  generalize a.eval (.tmp 83) = t83 at HA
                  generalize a.eval (.tmp 84) = t84 at HA
                  generalize a.eval (.tmp 85) = t85 at HA
                  generalize a.eval (.tmp 86) = t86 at HA
                  generalize a.eval (.tmp 87) = t87 at HA
                  generalize a.eval (.tmp 88) = t88 at HA
                  generalize a.eval (.tmp 89) = t89 at HA
                  generalize a.eval (.tmp 90) = t90 at HA
                  generalize a.eval (.tmp 91) = t91 at HA
                  generalize a.eval (.tmp 92) = t92 at HA
                  generalize a.eval (.tmp 93) = t93 at HA
                  generalize a.eval (.tmp 94) = t94 at HA
                  generalize a.eval (.tmp 95) = t95 at HA
                  rw [HA, ha0]
                  simp only [Act.put, List.setIfInBounds_toArray, List.set_cons_zero, List.set_cons_succ]
                  clear HA hsm hsm' e9 ha0 z17 z16 z2 z12
                  have hb57 : Below w5.heap.size w5 w7 := ext_trans hb5c hb
                  obtain ⟨hx47, hm7⟩ := hat.out.below (show M + 1 < w5.heap.size by omega) hb57
                  have x0 : w7.cell? ⟨b9, 0, none⟩ = some (.string (bs m.item)) := hx1.c0
                  have x1 : w7.cell? ⟨b9, 1, none⟩ = some (.string (bs tt.name)) := hx1.c1
                  have x2 : w7.cell? ⟨b9, 2, none⟩ = some (.int .i64 s) := hx1.c2
                  have x3 : w7.cell? ⟨b9, 3, none⟩ = some (.int .i64 (s + hq)) := hx1.c3
                  have HTR : Hid (tripV tt d (stL om acc last i) m = ⟨m.item, tt.name, s, s + hq⟩) := by
                    show _ = _
                    unfold tripV
                    rw [HS.out, HHV.out]
                  have HSX := Lib.hid (setX_at hx47 ⟨m.item, tt.name, s, s + hq⟩)
                  have HGX := Lib.hid (grownBy_trans hg5.out (grownBy_trans (grownBy_of_below hb57 (some (M + 1))) (setX_grown w7 (M + 1) ⟨m.item, tt.name, s, s + hq⟩)))
                  have HGN := Lib.hid (grownBy_trans hg5.out (grownBy_of_below hb57 (some (M + 1))))
                  have HX47 := Lib.hid hx47
                  obtain ⟨y0, hy0⟩ := Option.isSome_iff_exists.1 hx47.e0
                  obtain ⟨y1, hy1⟩ := Option.isSome_iff_exists.1 hx47.e1
                  obtain ⟨y2, hy2⟩ := Option.isSome_iff_exists.1 hx47.e2
                  obtain ⟨y3, hy3⟩ := Option.isSome_iff_exists.1 hx47.e3
                  have hfz := hx47.fz
                  have hMb : M + 1 < w7.heap.size := by have := hb57.size; omega
                  clear hx1 hx4 hx47 e0 e1 e2 hKc hBc hb5c hb56 hK6 cL
                  obtain ⟨r, hr⟩ : ∃ r, bestF tr d (stL om acc last) m i = r := ⟨_, rfl⟩
                  rw [hr] at hm7
                  have HRR := Lib.hid hr
                  clear hr hat
                  cases r with
                  | none =>
                    have hm7 : u14 = .int .i64 (-1) := hm7
                    subst hm7
                    have HN : Hid (bestF tr d (stL om acc last) m (i + 1) = some (i, ⟨m.item, tt.name, s, s + hq⟩)) := by
                      show _ = _
                      rw [HFI.out hld HRR.out, HTR.out]
                    go_wp2_with fail
                    go_roundw
                    case rel => exact ⟨i + 1, by omega, by go_num, HGX.out, by rw [HN.out]; exact ⟨HSX.out.2, rfl, HSX.out.1⟩⟩
                    case measure => simp [intOf]; omega
                  | some jy =>
                    obtain ⟨j, y⟩ := jy
                    obtain ⟨hu, hxy⟩ : u14 = .int .i64 j ∧ XAt w7 (M + 1) 0 y := hm7
                    subst hu
                    have HXY := Lib.hid hxy
                    have hy3' : w7.cell? ⟨M + 1, 3, none⟩ = some (.int .i64 y.fin) := hxy.c3
                    have e3 := Option.some.inj (hy3.symm.trans hy3')
                    subst e3
                    clear hxy hy3'
                    by_cases hlf : s + hq < y.fin
                    · have HN : Hid (bestF tr d (stL om acc last) m (i + 1) = some (i, ⟨m.item, tt.name, s, s + hq⟩)) := by
                        show _ = _
                        rw [HLE.out j y hld HRR.out (by rw [HTR.out]; exact hlf), HTR.out]
                      go_wp2_with fail
                      go_roundw
                      case rel => exact ⟨i + 1, by omega, by go_num, HGX.out, by rw [HN.out]; exact ⟨HSX.out.2, rfl, HSX.out.1⟩⟩
                      case measure => simp [intOf]; omega
                    · have HN : Hid (bestF tr d (stL om acc last) m (i + 1) = some (j, y)) := by
                        show _ = _
                        rw [HKE.out j y hld HRR.out (by rw [HTR.out]; dsimp only; omega)]
                      go_wp2_with fail
                      go_roundw
                      case rel => exact ⟨i + 1, by omega, by go_num, HGN.out, by rw [HN.out]; exact ⟨HX47.out, rfl, HXY.out⟩⟩
                      case measure => simp [intOf]; omega
          · obtain rfl : i = tr.length := by omega
            have HX5 := Lib.hid (HXW.out.kept hg5.out (HXLT.out (M + 1) (by omega)))
            have HL5 := Lib.hid (HLW.out.keptH hg5.out (.inr (by simp [Value.ownBlock]; omega)))
            have HG5 : Hid (w4.grownBy w5 (some gl)) := grownBy_far HGW.out hg5.out (fun n hn => by have := Option.some.inj hn; omega)
            obtain ⟨r, hr⟩ : ∃ r, bestF tr d (stL om acc last) m tr.length = r := ⟨_, rfl⟩
            have HRR := Lib.hid hr
            have hat2 := hat.out
            rw [hr] at hat2 HPA
            clear hr hat
            cases r with
            | none =>
              have hu : u14 = .int .i64 (-1) := hat2.2
              subst hu
              have HN : Hid (planE ms tr d = 25 ∧ planV ms tr d = []) := ⟨by rw [HE2.out, HPA.out], by rw [HV2.out, HPA.out]; rfl⟩
              clear hat2
              go_wp2_with fail
              go_ret2
              exact retXE rfl HN.out.1.symm (SX_nil _) HN.out.2.symm HB5.out
            | some jy =>
              obtain ⟨j, y⟩ := jy
              obtain ⟨hx4, hu, hxy⟩ : X4 w5 (M + 1) ∧ u14 = .int .i64 j ∧ XAt w5 (M + 1) 0 y := hat2
              subst hu
              have hjt := (bestF_some HRR.out).1
              have y0 : w5.cell? ⟨M + 1, 0, none⟩ = some (.string (bs y.item)) := hxy.c0
              have y1 : w5.cell? ⟨M + 1, 1, none⟩ = some (.string (bs y.truck)) := hxy.c1
              have y2 : w5.cell? ⟨M + 1, 2, none⟩ = some (.int .i64 y.start) := hxy.c2
              have y3 : w5.cell? ⟨M + 1, 3, none⟩ = some (.int .i64 y.fin) := hxy.c3
              have HBD := Lib.hid (bestF_bound (om := om) HYD.out (last := last) (by have := hfacts.out.2.1; rw [← hfacts.out.1] at this; exact this) hfacts.out.2.2 (m := m) (by omega) (Nat.le_refl _) HRR.out)
              have hacc : acc.length ≤ 128 := by have := hfacts.out.1; omega
              have HP2 : Hid (planO ms tr d = planF tr d (om.drop (k + 1)) (upd (stL om acc last) j ((mvi om k).to, y.fin)) (acc ++ [y])) := by
                show _ = _; rw [HPA.out, HMK.out]
              clear hx4 hxy HPA
              go_wp2_with (at_builtin; refine wpList_app_X rfl (.tmp 110) (.tmp 112) rfl w4.heap.size _ acc [y] rfl (HX5.out.alloc _) ⟨w5.heap.size, 0, none⟩ 1 1 rfl (sX_one ⟨by simp, by simp, by simp, by simp⟩) (by simp; omega) (by simp; omega) ?_)
              intro v7 w7 ho7 hg7 hat7
              have HO7 := Lib.hid ho7
              have hB57 : w5.grownBy w7 (Value.slice la acc.length lc).ownBlock := grownBy_far (grownBy_of_below ((Below.refl _ _).alloc (Nat.le_refl _) _) _) hg7 (fun n hn => .inr hn)
              have hxb : ∀ n, (Value.slice la acc.length lc).ownBlock = some n → w4.heap.size ≤ n := fun n hn => (HX5.out.lt n hn).1
              have HG7 : Hid (w4.grownBy w7 (some gl)) := grownBy_far HG5.out hB57 (fun n hn => .inl (hxb n hn))
              have HL7 := Lib.hid (HL5.out.keptH hB57 (.inr (fun e => by
                have : (Value.slice la acc.length lc).ownBlock = some gl := by rw [← e]; rfl
                have := hxb gl this; omega)))
              obtain ⟨a7, c7, rfl, hc7⟩ := ho7.form
              have hln : last.length = tr.length := hfacts.out.2.1.1
              have cL := HL7.out.cellH (k := j) (by omega)
              have fL := HL7.out.fzH j
              have i1 : (j : Int) < tr.length := by omega
              rw [List.length_append, List.length_singleton] at *
              clear ho7 hg7 hat7 hB57 hxb y0 y1 y2 y3 HX5 HL5 HG5
              go_wp2_with fail
              go_roundw
              case rel =>
                refine ⟨k + 1, acc ++ [y], last.set j ((k + 1 : Nat) : Int), by omega, by go_num, grownBy_trans HG7.out (grownBy_set _ _ _ _), HO7.out.kept (grownBy_set _ _ _ _) (.inr fun e => ?_), ?_, ⟨?_, ?_, ?_⟩, ?_⟩
                · have := (HO7.out.lt gl e).1; omega
                · have := HL7.out.setH j ((k + 1 : Nat) : Int)
                  have hk1 : ((acc.length : Int) + 1) = ((k + 1 : Nat) : Int) := by have := hfacts.out.1; omega
                  show OwnI _ _ _ _
                  rw [hk1]
                  exact this
                · have := hfacts.out.1; simp; omega
                · exact hfacts.out.2.1.set hjt
                · exact hfacts.out.2.2.snoc HBD.out
                · have hak := hfacts.out.1
                  have := stL_upd (om := om) (acc := acc) (last := last) (nt := tr.length) (by rw [hak]; exact hfacts.out.2.1) hjt y
                  show _ = _
                  rw [HP2.out, ← hak, this]
              case measure => simp [intOf]; omega
      · obtain rfl : k = om.length := by omega
        have HN : Hid (planE ms tr d = 0 ∧ planV ms tr d = acc) := by
          have : planO ms tr d = some acc := by rw [hpl.out, List.drop_length]; rfl
          exact ⟨by rw [HE2.out, this], by rw [HV2.out, this]; rfl⟩
        obtain ⟨la, lc, rfl, hlc⟩ := hx.out.form
        clear hpl
        go_wp2_with fail
        go_ret2
        exact retXE rfl HN.out.1.symm hx.out.s HN.out.2.symm HBW.out
  · have HR : Hid (planE ms tr d = y ∧ planV ms tr d = []) := ⟨by rw [HE.out, if_pos hy], by rw [HV.out, if_pos hy]⟩
    have hyb : (y != 0) = true := by simpa using hy
    clear HE HV hy HOK
    go_enter Tryz.func11, Tryz.ntmps11
    go_wp2_with fail
    refine HCK.out.mono ?_
    rintro e w1 ⟨rfl, hb1⟩
    go_wp2_with fail
    go_ret2
    exact retXE rfl HR.out.1.symm (SX_nil _) HR.out.2.symm hb1
end Go.Proofs.YtpbmmdoodmbneaaGreatDoor
