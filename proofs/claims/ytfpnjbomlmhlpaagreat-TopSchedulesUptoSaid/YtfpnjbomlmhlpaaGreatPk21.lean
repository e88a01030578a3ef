/- Contract: Greedy of schedules. -/
import Derived.Test.YtfpnjbomlmhlpaaGreatPk20
import Derived.Test.YtfpnjbomlmhlpaaGreatPk13
import Derived.Test.YtfpnjbomlmhlpaaGreatPk17
set_option linter.unusedSimpArgs false
set_option linter.unusedVariables false

/- The reference's structure: packages (printed by wip/gen_gmx.py). -/
namespace Go.Proofs.YtfpnjbomlmhlpaaGreat
open Go.RowKit

theorem edgOK_snoc {n : Nat} {E : Edg} (h : EdgOK n E) {e : Nat × Nat} (h1 : e.1 < n) (h2 : e.2 < n) (h3 : e.1 ≠ e.2) : EdgOK n (E ++ [e]) := fun x hx => by
  rcases List.mem_append.1 hx with hx | hx
  · exact h x hx
  · rw [List.mem_singleton.1 hx]; exact ⟨h1, h2, h3⟩
theorem s4_index (a b c d : Value) (w : World) : Sem.run Tryz.prog (Instr.index 99 (.agg #[a, b, c, d]) (.int .i64 3)) w = .ok d w := by kernel_rfl
/-- the strings of a slice, one by one -/
theorem SZ.form2 {w : World} {v : Value} {l : List (List UInt8)} (h : SZ w v (l.map bs)) : ∃ a c, v = .slice a l.length c ∧ ∀ i (hi : i < l.length), ∃ b off, a = some ⟨b, off, none⟩ ∧ w.cell? ⟨b, off + i, none⟩ = some (.string (bs l[i])) := by
  obtain ⟨a, c, rfl, h1, h2, h3⟩ := h
  rw [List.length_map] at h3
  refine ⟨a, c, by rw [List.length_map], fun i hi => ?_⟩
  obtain ⟨b, off, e, hc⟩ := h3 i hi
  dsimp only at hc
  rw [zi_bs hi] at hc
  exact ⟨b, off, e, hc⟩
/-- the edges so far -/
structure PkE (w : World) (B n m : Nat) (o : Value) (E : Edg) : Prop where
  o : OwnEg w B o E
  ok : EdgOK n E
  l : E.length ≤ m
set_option maxRecDepth 100000 in
set_option maxHeartbeats 2000000 in
theorem rpackages_any (D : Des) (ns : List Nod) (es : List Nd) (ps : List Prt) (ss : List Sea) (ks : List Pkg) (w : World) (h : DesX w D ns es ps ss ks) (hl : ns.length ≤ 100000) (hpl : ps.length ≤ 100000) (hsl : ss.length ≤ 100000) (hkl : ks.length ≤ 40) (haf : ∀ x ∈ ks, x.aft.length ≤ 40) (hs : ∀ x ∈ ks, x.id.length ≤ 1100000) :
    Calls Tryz.prog 20 #[.agg (desA D)] w (RetN w) := by
  have HSZ := Lib.hid hs
  have HAF := Lib.hid haf
  clear hs haf
  have en := h.n.n
  have ep := h.p.n
  have es' := h.s.n
  have ek := h.k.n
  have ee := h.e.n
  have HX := Lib.hid h
  clear h
  obtain ⟨hull, ⟨na, nn, nc⟩, ⟨pa, pn, pc⟩, ⟨sa, sn, sc⟩, ⟨ka, kn, kc⟩, ⟨ea, en2, ec⟩⟩ := D
  dsimp only at en ep es' ek ee
  obtain rfl : nn = ns.length := en
  obtain rfl : pn = ps.length := ep
  obtain rfl : sn = ss.length := es'
  obtain rfl : kn = ks.length := ek
  obtain rfl : en2 = es.length := ee
  have H3 := Lib.hid (fun i (hi : i < ks.length) => HX.out.k.at hi)
  show Calls Tryz.prog 20 #[.agg #[.string (bs hull), .slice na ns.length nc, .slice pa ps.length pc, .slice sa ss.length sc, .slice ka ks.length kc, .slice ea es.length ec]] w _
  obtain ⟨W1, HO1, HB1, HW⟩ := one_box w #[.string (bs hull), .slice na ns.length nc, .slice pa ps.length pc, .slice sa ss.length sc, .slice ka ks.length kc, .slice ea es.length ec] 28
  have d0 := HO1.out.cell 0
  have d1 := HO1.out.cell 1
  have d2 := HO1.out.cell 2
  have d3 := HO1.out.cell 3
  have d4 := HO1.out.cell 4
  have d5 := HO1.out.cell 5
  dsimp at d0 d1 d2 d3 d4 d5
  go_enter Tryz.func20, Tryz.ntmps20
  go_upto_region 1 with fail
  rw [HW.out]
  clear HW
  go_wp2_with fail
  refine (rlists_any ⟨hull, ⟨na, ns.length, nc⟩, ⟨pa, ps.length, pc⟩, ⟨sa, ss.length, sc⟩, ⟨ka, ks.length, kc⟩, ⟨ea, es.length, ec⟩⟩ ns es ps ss ks W1 (HX.out.keep HB1.out) hl hpl hsl (by omega)).mono ?_
  rintro e w2 ⟨v0, v1, v2, v3, rfl, _, _, _, hv3, h2⟩
  have HB2 := Lib.hid (ext_trans HB1.out h2)
  have HO2 := Lib.hid (HO1.out.keep h2)
  have HID := Lib.hid hv3
  obtain ⟨ia, ic, e9, hi3⟩ := SZ.form2 hv3
  rw [List.length_map] at e9
  subst e9
  have HI3 : Hid (∀ i (hi : i < ks.length), ∃ b off, ia = some ⟨b, off, none⟩ ∧ w2.cell? ⟨b, off + i, none⟩ = some (.string (bs (pki ks i).id))) := fun i hi => by
    obtain ⟨b, off, e, hc⟩ := hi3 i (by rw [List.length_map]; exact hi)
    refine ⟨b, off, e, ?_⟩
    rw [hc, List.getElem_map, pki_lt hi]
  have hix := s4_index v0 v1 v2 (.slice ia ks.length ic) w2
  clear hi3 hv3 h2 d0 d1 d2 d3 d4 d5 HO1
  go_wp2_with fail
  clear hix
  go_loopw [4, 5] (fun o i wr => ∃ (k : Nat) (E : Edg), k ≤ ks.length ∧ i = .int .i64 k ∧ Hid (Below w2.heap.size w2 wr) ∧ Hid (PkE wr w2.heap.size ks.length (k * 1600) o E)) (fun _ i _ => ks.length - (intOf i).toNat)
  case atStart => exact ⟨0, [], Nat.zero_le _, rfl, Below.refl _ _, OwnEg_nil _ _, fun e he => (by cases he), by simp⟩
  case round =>
    obtain ⟨wrA, hwr⟩ : ∃ u, u = wr := ⟨_, rfl⟩
    subst hwr
    obtain ⟨k, E, hk, rfl, hb, hE⟩ := hrel
    have HBW := Lib.hid (ext_trans HB2.out hb.out)
    have HOR := Lib.hid (HO2.out.keep hb.out)
    have c4 := HOR.out.cell 4
    dsimp at c4
    by_cases hlt : k < ks.length
    · obtain ⟨b, off, ha, hc⟩ := H3.out k hlt
      obtain rfl : ka = some ⟨b, off, none⟩ := ha
      have hc := hc.keep HBW.out
      have HSK := Lib.hid (HSZ.out _ (pki_mem hlt))
      have haf := HAF.out _ (pki_mem hlt)
      have hko := HX.out.ko _ (pki_mem hlt)
      obtain ⟨⟨ki, kb, kpv, kh, kav, kp, kf⟩, hx⟩ : ∃ y, pki ks k = y := ⟨_, rfl⟩
      have HKI : Hid ((pki ks k).id = ki) := by show _ = _; rw [hx]
      rw [hx] at hc hko HSK haf
      obtain ⟨ka2, kc2, e1, kd2, ke2, e2⟩ := pack_forms hko
      have HKP : Hid (SZ w kpv (kp.map bs)) := hko.p
      have HKF : Hid (SZ w kav (kf.map bs)) := hko.a
      dsimp only at e1 e2 HSK haf
      subst e1 e2
      obtain ⟨_, _, e9, _, hf3⟩ := SZ.form HKF.out
      cases e9
      have HF3 := Lib.hid hf3
      obtain ⟨q0, q1, q2, q3, q4⟩ := hc
      dsimp only at q0 q1 q2 q3 q4
      have i1 : (k : Int) < ks.length := by omega
      clear hx hko hf3
      obtain ⟨W3, HK3, HB3', HW3⟩ := one_box wrA #[.string (bs ki), .string (bs kb), .slice ka2 kp.length kc2, .int .i64 kh, .slice kd2 kf.length ke2] 54
      go_upto_region 7 with fail
      rw [HW3.out]
      clear HW3 q0 q1 q2 q3 q4 c4
      obtain ⟨bx, hbx⟩ : ∃ n, wrA.heap.size = n := ⟨_, rfl⟩
      rw [hbx] at HK3 ⊢
      clear hbx
      have HB3 := Lib.hid (ext_trans hb.out HB3'.out)
      have HBW3 := Lib.hid (ext_trans HBW.out HB3'.out)
      have HO3 := Lib.hid (HOR.out.keep HB3'.out)
      have HE3 : Hid (PkE W3 w2.heap.size ks.length (k * 1600) u4 E) := ⟨OwnEg.below hE.out.o HB3'.out, hE.out.ok, hE.out.l⟩
      clear hb HBW HOR HB3' hE
      refine wp_region_et gmT gmT_ok [⟨bx, 0, [.string (bs ki), .string (bs kb), .slice ka2 kp.length kc2, .int .i64 kh, .slice kd2 kf.length ke2]⟩, ⟨w.heap.size, 0, [.string (bs hull), .slice na ns.length nc, .slice pa ps.length pc, .slice sa ss.length sc, .slice (some ⟨b, off, none⟩) ks.length kc, .slice ea es.length ec]⟩] (Below W3.heap.size W3) [(6, 0), (1, 1)] [(30, .ret (.bool (idB ki)))] [(27, .bool (!idB ki))] (by kernel_rfl) (Below.refl _ _)
        (obsC (fun u hu => rangeKeep (range_new HK3.out) hu) (obsC (fun u hu => rangeKeep (range_new HO3.out) hu) obsN)) ⟨rfl, rfl, trivial⟩ ?_
      conv => whnf
      refine And.intro (under_of fun u hu => ret_in (rId_any ki u HSK.out) hu) ?_
      conv => whnf
      intro f3
      conv => whnf
      refine And.intro (rfl) ?_
      conv => whnf
      intro w4 h4
      have HB4 := Lib.hid (ext_trans HB3.out h4)
      have HBW4 := Lib.hid (ext_trans HBW3.out h4)
      have HO4 := Lib.hid (HO3.out.keep h4)
      have HK4 := Lib.hid (HK3.out.keep h4)
      have HE4 : Hid (PkE w4 w2.heap.size ks.length (k * 1600) u4 E) := ⟨OwnEg.below HE3.out.o h4, HE3.out.ok, HE3.out.l⟩
      clear h4 HB3 HBW3 HO3 HK3 HE3
      obtain ⟨z, hz⟩ : ∃ p, (!idB ki) = p := ⟨_, rfl⟩
      rw [hz]
      clear hz
      cases z
      rotate_left
      · go_wp2_with fail
        go_ret
        exact ⟨_, rfl, HBW4.out⟩
      go_upto_region 9 with fail
      refine wp_region_et gmT gmT_ok [⟨bx, 0, [.string (bs ki), .string (bs kb), .slice ka2 kp.length kc2, .int .i64 kh, .slice kd2 kf.length ke2]⟩, ⟨w.heap.size, 0, [.string (bs hull), .slice na ns.length nc, .slice pa ps.length pc, .slice sa ss.length sc, .slice (some ⟨b, off, none⟩) ks.length kc, .slice ea es.length ec]⟩] (Below w4.heap.size w4) [(6, 0), (1, 1)] [(36, .ret (.bool (blockB ns kb)))] [(32, .bool (!blockB ns kb))] (by kernel_rfl) (Below.refl _ _)
        (obsC (fun u hu => rangeKeep (range_new HK4.out) hu) (obsC (fun u hu => rangeKeep (range_new HO4.out) hu) obsN)) ⟨rfl, rfl, trivial⟩ ?_
      conv => whnf
      refine And.intro (Nat.le_of_ble_eq_true rfl) ?_
      conv => whnf
      refine And.intro (under_of fun u hu => ret_in (rblock_any ⟨hull, ⟨na, ns.length, nc⟩, ⟨pa, ps.length, pc⟩, ⟨sa, ss.length, sc⟩, ⟨some ⟨b, off, none⟩, ks.length, kc⟩, ⟨ea, es.length, ec⟩⟩ ns kb u (HX.out.n.keep (ext_trans HBW4.out hu)) hl) hu) ?_
      conv => whnf
      intro f4
      conv => whnf
      refine And.intro (rfl) ?_
      conv => whnf
      intro w5 h5
      have HB5 := Lib.hid (ext_trans HB4.out h5)
      have HBW5 := Lib.hid (ext_trans HBW4.out h5)
      have HO5 := Lib.hid (HO4.out.keep h5)
      have HK5 := Lib.hid (HK4.out.keep h5)
      have HE5 : Hid (PkE w5 w2.heap.size ks.length (k * 1600) u4 E) := ⟨OwnEg.below HE4.out.o h5, HE4.out.ok, HE4.out.l⟩
      clear h5 HB4 HBW4 HO4 HK4 HE4
      obtain ⟨z, hz⟩ : ∃ p, (!blockB ns kb) = p := ⟨_, rfl⟩
      rw [hz]
      clear hz
      cases z
      rotate_left
      · go_wp2_with fail
        go_ret
        exact ⟨_, rfl, HBW5.out⟩
      go_upto_region 11 with fail
      refine wp_region_et gmT gmT_ok [⟨bx, 0, [.string (bs ki), .string (bs kb), .slice ka2 kp.length kc2, .int .i64 kh, .slice kd2 kf.length ke2]⟩, ⟨w.heap.size, 0, [.string (bs hull), .slice na ns.length nc, .slice pa ps.length pc, .slice sa ss.length sc, .slice (some ⟨b, off, none⟩) ks.length kc, .slice ea es.length ec]⟩] (Below w5.heap.size w5) [(6, 0), (1, 1)] [] [(38, .bool (decide (kh < 1) || decide (10000 < kh)))] (by kernel_rfl) (Below.refl _ _)
        (obsC (fun u hu => rangeKeep (range_new HK5.out) hu) (obsC (fun u hu => rangeKeep (range_new HO5.out) hu) obsN)) ⟨rfl, rfl, trivial⟩ ?_
      conv => whnf
      intro f5
      conv => whnf
      refine And.intro (rfl) ?_
      conv => whnf
      intro w6 h6
      have HB6 := Lib.hid (ext_trans HB5.out h6)
      have HBW6 := Lib.hid (ext_trans HBW5.out h6)
      have HO6 := Lib.hid (HO5.out.keep h6)
      have HK6 := Lib.hid (HK5.out.keep h6)
      have HE6 : Hid (PkE w6 w2.heap.size ks.length (k * 1600) u4 E) := ⟨OwnEg.below HE5.out.o h6, HE5.out.ok, HE5.out.l⟩
      clear h6 HB5 HBW5 HO5 HK5 HE5
      obtain ⟨z, hz⟩ : ∃ p, (decide (kh < 1) || decide (10000 < kh)) = p := ⟨_, rfl⟩
      rw [hz]
      clear hz
      cases z
      rotate_left
      · go_wp2_with fail
        go_ret
        exact ⟨_, rfl, HBW6.out⟩
      go_upto_region 13 with fail
      refine wp_region_et gmT gmT_ok [⟨bx, 0, [.string (bs ki), .string (bs kb), .slice ka2 kp.length kc2, .int .i64 kh, .slice kd2 kf.length ke2]⟩, ⟨w.heap.size, 0, [.string (bs hull), .slice na ns.length nc, .slice pa ps.length pc, .slice sa ss.length sc, .slice (some ⟨b, off, none⟩) ks.length kc, .slice ea es.length ec]⟩] (Below w6.heap.size w6) [(6, 0), (1, 1)] [(50, .ret (.bool (ascB kp))), (55, .ret (.bool (ascB kf)))] [(47, .bool (!ascB kp || !ascB kf))] (by kernel_rfl) (Below.refl _ _)
        (obsC (fun u hu => rangeKeep (range_new HK6.out) hu) (obsC (fun u hu => rangeKeep (range_new HO6.out) hu) obsN)) ⟨rfl, rfl, trivial⟩ ?_
      conv => whnf
      refine And.intro (under_of fun u hu => ret_in (rAsc_any _ kp u (HKP.out.keep (ext_trans HBW6.out hu))) hu) ?_
      conv => whnf
      refine And.intro (under_of fun u hu => ret_in (rAsc_any _ kf u (HKF.out.keep (ext_trans HBW6.out hu))) hu) ?_
      conv => whnf
      intro f6
      conv => whnf
      refine And.intro (rfl) ?_
      conv => whnf
      intro w7 h7
      have HB7 := Lib.hid (ext_trans HB6.out h7)
      have HBW7 := Lib.hid (ext_trans HBW6.out h7)
      have HO7 := Lib.hid (HO6.out.keep h7)
      have HK7 := Lib.hid (HK6.out.keep h7)
      have HE7 : Hid (PkE w7 w2.heap.size ks.length (k * 1600) u4 E) := ⟨OwnEg.below HE6.out.o h7, HE6.out.ok, HE6.out.l⟩
      clear h7 HB6 HBW6 HO6 HK6 HE6
      obtain ⟨z, hz⟩ : ∃ p, (!ascB kp || !ascB kf) = p := ⟨_, rfl⟩
      rw [hz]
      clear hz
      cases z
      rotate_left
      · go_wp2_with fail
        go_ret
        exact ⟨_, rfl, HBW7.out⟩
      go_upto_region 15 with fail
      have d0 := HO7.out.cell 0
      have d1 := HO7.out.cell 1
      have d2 := HO7.out.cell 2
      have d3 := HO7.out.cell 3
      have d4 := HO7.out.cell 4
      have d5 := HO7.out.cell 5
      dsimp at d0 d1 d2 d3 d4 d5
      go_wp2_with fail
      refine (rcontents_any ⟨hull, ⟨na, ns.length, nc⟩, ⟨pa, ps.length, pc⟩, ⟨sa, ss.length, sc⟩, ⟨some ⟨b, off, none⟩, ks.length, kc⟩, ⟨ea, es.length, ec⟩⟩ ns es ps ss ks k w7 (HX.out.keep HBW7.out) hl hpl (by omega) hlt).mono ?_
      rintro e w8 ⟨y, rfl, h8⟩
      have HB8 := Lib.hid (ext_trans HB7.out h8)
      have HBW8 := Lib.hid (ext_trans HBW7.out h8)
      have HO8 := Lib.hid (HO7.out.keep h8)
      have HK8 := Lib.hid (HK7.out.keep h8)
      have HE8 : Hid (PkE w8 w2.heap.size ks.length (k * 1600) u4 E) := ⟨OwnEg.below HE7.out.o h8, HE7.out.ok, HE7.out.l⟩
      clear h8 HB7 HBW7 HO7 HK7 HE7 d0 d1 d2 d3 d4 d5
      by_cases hy : y = 0
      rotate_left
      · go_wp2_with fail
        go_ret
        exact ⟨_, rfl, HBW8.out⟩
      subst hy
      have HE8' : Hid (PkE w8 w2.heap.size ks.length (k * 1600 + 0 * 40) u4 E) := ⟨HE8.out.o, HE8.out.ok, by have := HE8.out.l; omega⟩
      clear HE8
      go_wp2_with fail
      go_loopw [4, 8] (fun o i wr => ∃ (j : Nat) (E : Edg), j ≤ kf.length ∧ i = .int .i64 j ∧ Hid (ObjAt wr bx #[.string (bs ki), .string (bs kb), .slice ka2 kp.length kc2, .int .i64 kh, .slice kd2 kf.length ke2] 54) ∧ Hid (Below w2.heap.size w2 wr) ∧ Hid (PkE wr w2.heap.size ks.length (k * 1600 + j * 40) o E)) (fun _ i _ => kf.length - (intOf i).toNat)
      case atStart => exact ⟨0, E, Nat.zero_le _, rfl, HK8.out, HB8.out, HE8'.out⟩
      case round =>
        clear HE8'
        obtain ⟨wrB, hwr⟩ : ∃ u, u = wr := ⟨_, rfl⟩
        subst hwr
        obtain ⟨j, E2, hj, rfl, HKB, hb2, hE⟩ := hrel
        have HBW := Lib.hid (ext_trans HB2.out hb2.out)
        have x4 := HKB.out.cell 4
        dsimp at x4
        by_cases hjl : j < kf.length
        rotate_left
        · have i2 : ¬ (j : Int) < kf.length := by omega
          have HE9 : Hid (PkE wrB w2.heap.size ks.length ((k + 1) * 1600) u4 E2) := ⟨hE.out.o, hE.out.ok, by have := hE.out.l; omega⟩
          go_wp2_with fail
          go_roundw
          case rel => exact ⟨k + 1, E2, by omega, by go_num, hb2, HE9⟩
          case measure => simp [intOf]; omega
        obtain ⟨b3, off3, e3, t, hct⟩ := HF3.out j hjl
        have HTW := Lib.hid hct
        have HCT : Hid (wrB.rangeAt b3 (off3 + j) [.string (bs t)]) := rangeKeep (intR hct) HBW.out
        subst e3
        have i2 : (j : Int) < kf.length := by omega
        clear hct
        go_upto_region 21 with fail
        clear x4
        refine wp_region_ev gmT gmT_ok [⟨bx, 0, [.string (bs ki), .string (bs kb), .slice ka2 kp.length kc2, .int .i64 kh, .slice (some ⟨b3, off3, none⟩) kf.length ke2]⟩, ⟨b3, off3 + j, [.string (bs t)]⟩] (Below wrB.heap.size wrB) [(6, 0)] [(74, .ix j 1)] [(78, .bool ((bs t).toList == (bs ki).toList))] (by kernel_rfl) mixed (by kernel_rfl) ((Below.refl _ _).drew)
          (obsC (fun u hu => rangeKeep (range_new HKB.out) hu) (obsC (fun u hu => rangeKeep (HCT.out) hu) obsN)) ⟨rfl, trivial⟩ ?_
        conv => whnf
        refine And.intro (under_of ⟨rfl, hjl, rfl, by show off3 + j = off3 + j * 1; omega⟩) ?_
        conv => whnf
        intro f9
        conv => whnf
        refine And.intro (rfl) ?_
        conv => whnf
        intro w9 h9
        have h2_9 := Lib.hid (ext_trans hb2.out h9)
        have HBW9 := Lib.hid (ext_trans HBW.out h9)
        have HK9 := Lib.hid (HKB.out.keep h9)
        have HT9 := Lib.hid (rangeKeep HCT.out h9)
        have HE9 : Hid (PkE w9 w2.heap.size ks.length (k * 1600 + j * 40) u4 E2) := ⟨OwnEg.below hE.out.o h9, hE.out.ok, hE.out.l⟩
        clear h9 hb2 HBW HKB HCT hE
        obtain ⟨z, hz⟩ : ∃ p, ((bs t).toList == (bs ki).toList) = p := ⟨_, rfl⟩
        have HNE := Lib.hid hz
        rw [hz]
        clear hz
        cases z
        rotate_left
        · go_wp2_with fail
          go_ret
          exact ⟨_, rfl, HBW9.out⟩
        go_upto_region 23 with fail
        refine wp_region_et gmT gmT_ok [⟨bx, 0, [.string (bs ki), .string (bs kb), .slice ka2 kp.length kc2, .int .i64 kh, .slice (some ⟨b3, off3, none⟩) kf.length ke2]⟩, ⟨b3, off3 + j, [.string (bs t)]⟩] (Below w9.heap.size w9) [(6, 0)] [(83, .ix j 1), (85, .ret (.bool (hasS (ks.map (·.id)) t)))] [(86, .bool (!hasS (ks.map (·.id)) t))] (by kernel_rfl) (Below.refl _ _)
          (obsC (fun u hu => rangeKeep (range_new HK9.out) hu) (obsC (fun u hu => rangeKeep (HT9.out) hu) obsN)) ⟨rfl, trivial⟩ ?_
        conv => whnf
        refine And.intro (under_of ⟨rfl, hjl, rfl, by show off3 + j = off3 + j * 1; omega⟩) ?_
        conv => whnf
        refine And.intro (under_of fun u hu => ret_in (rHas_any _ _ t u (HID.out.keep (ext_trans h2_9.out hu))) hu) ?_
        conv => whnf
        intro f10
        conv => whnf
        refine And.intro (rfl) ?_
        conv => whnf
        intro w10 h10
        have h2_10 := Lib.hid (ext_trans h2_9.out h10)
        have HBW10 := Lib.hid (ext_trans HBW9.out h10)
        have HK10 := Lib.hid (HK9.out.keep h10)
        have HT10 := Lib.hid (rangeKeep HT9.out h10)
        have HE10 : Hid (PkE w10 w2.heap.size ks.length (k * 1600 + j * 40 + 0) u4 E2) := ⟨OwnEg.below HE9.out.o h10, HE9.out.ok, HE9.out.l⟩
        clear h10 h2_9 HBW9 HK9 HT9 HE9
        obtain ⟨z, hz⟩ : ∃ p, (!hasS (ks.map (·.id)) t) = p := ⟨_, rfl⟩
        rw [hz]
        clear hz
        cases z
        rotate_left
        · go_wp2_with fail
          go_ret
          exact ⟨_, rfl, HBW10.out⟩
        go_wp2_with fail
        go_loopw [4, 9] (fun o i wr => ∃ (n : Nat) (E : Edg), n ≤ ks.length ∧ i = .int .i64 n ∧ Hid (ObjAt wr bx #[.string (bs ki), .string (bs kb), .slice ka2 kp.length kc2, .int .i64 kh, .slice (some ⟨b3, off3, none⟩) kf.length ke2] 54) ∧ Hid (Below w2.heap.size w2 wr) ∧ Hid (PkE wr w2.heap.size ks.length (k * 1600 + j * 40 + n) o E)) (fun _ i _ => ks.length - (intOf i).toNat)
        case atStart => exact ⟨0, E2, Nat.zero_le _, rfl, HK10.out, h2_10.out, HE10.out⟩
        case round =>
          clear HE10
          obtain ⟨wrC, hwr⟩ : ∃ u, u = wr := ⟨_, rfl⟩
          subst hwr
          obtain ⟨n, E3, hn, rfl, HKC, hb2, hE⟩ := hrel
          have HBW := Lib.hid (ext_trans HB2.out hb2.out)
          have HTC : Hid (wrC.rangeAt b3 (off3 + j) [.string (bs t)]) := rangeKeep (intR HTW.out) HBW.out
          by_cases hnl : n < ks.length
          rotate_left
          · have i3 : ¬ (n : Int) < ks.length := by omega
            have HE11 : Hid (PkE wrC w2.heap.size ks.length (k * 1600 + (j + 1) * 40) u4 E3) := ⟨hE.out.o, hE.out.ok, by have := hE.out.l; omega⟩
            go_wp2_with fail
            go_roundw
            case rel => exact ⟨j + 1, E3, by omega, by go_num, HKC, hb2, HE11⟩
            case measure => simp [intOf]; omega
          obtain ⟨b5, off5, e5, hct⟩ := HI3.out n hnl
          obtain ⟨t5, ht5⟩ : ∃ t, (pki ks n).id = t := ⟨_, rfl⟩
          rw [ht5] at hct
          have HT5 := Lib.hid ht5
          clear ht5
          have HC5 : Hid (wrC.rangeAt b5 (off5 + n) [.string (bs t5)]) := rangeKeep (intR hct) hb2.out
          subst e5
          have i3 : (n : Int) < ks.length := by omega
          clear hct
          go_upto_region 28 with fail
          refine wp_region_ev gmT gmT_ok [⟨bx, 0, [.string (bs ki), .string (bs kb), .slice ka2 kp.length kc2, .int .i64 kh, .slice (some ⟨b3, off3, none⟩) kf.length ke2]⟩, ⟨b3, off3 + j, [.string (bs t)]⟩, ⟨b5, off5 + n, [.string (bs t5)]⟩] (Below wrC.heap.size wrC) [(6, 0)] [(95, .ix n 2), (100, .ix j 1)] [(102, .bool ((bs t5).toList == (bs t).toList))] (by kernel_rfl) mixed (by kernel_rfl) ((Below.refl _ _).drew)
            (obsC (fun u hu => rangeKeep (range_new HKC.out) hu) (obsC (fun u hu => rangeKeep (HTC.out) hu) (obsC (fun u hu => rangeKeep (HC5.out) hu) obsN))) ⟨rfl, trivial⟩ ?_
          conv => whnf
          refine And.intro (under_of ⟨rfl, hnl, rfl, by show off5 + n = off5 + n * 1; omega⟩) ?_
          conv => whnf
          refine And.intro (under_of ⟨rfl, hjl, rfl, by show off3 + j = off3 + j * 1; omega⟩) ?_
          conv => whnf
          intro f11
          conv => whnf
          refine And.intro (rfl) ?_
          conv => whnf
          intro w11 h11
          have HK11 := Lib.hid (HKC.out.keep h11)
          have h2_11 := Lib.hid (ext_trans hb2.out h11)
          have HE11 : Hid (PkE w11 w2.heap.size ks.length (k * 1600 + j * 40 + n) u4 E3) := ⟨OwnEg.below hE.out.o h11, hE.out.ok, hE.out.l⟩
          clear h11 hb2 HBW HKC HTC HC5 hE
          obtain ⟨z, hz⟩ : ∃ p, ((bs t5).toList == (bs t).toList) = p := ⟨_, rfl⟩
          have HEQ := Lib.hid hz
          rw [hz]
          clear hz
          cases z
          · have HE12 : Hid (PkE w11 w2.heap.size ks.length (k * 1600 + j * 40 + (n + 1)) u4 E3) := ⟨HE11.out.o, HE11.out.ok, by have := HE11.out.l; omega⟩
            clear HE11
            go_wp2_with fail
            go_roundw
            case rel => exact ⟨n + 1, E3, by omega, by go_num, HK11, h2_11, HE12⟩
            case measure => simp [intOf]; omega
          have hsw := h2_11.out.size
          have HNK : Hid (n ≠ k) := fun e => by
            subst e
            have q1 := HKI.out
            rw [HT5.out] at q1
            subst q1
            have q2 := HEQ.out
            have q3 := HNE.out
            rw [bs_eq] at q2 q3
            have q4 := eq_of_beq q2
            subst q4
            simp at q3
          have HLN : Hid (E3.length + [((n, k) : Nat × Nat)].length ≤ 1000000) := by
            show _ ≤ _
            have := HE11.out.l
            rw [List.length_singleton]; omega
          have HSE : Hid (SEg (w11.alloc (.cells #[.int .i64 (n : Nat), .int .i64 (k : Nat)] 86)) (.slice (some ⟨w11.heap.size, 0, none⟩) 1 1) [(n, k)]) := sEg_one (egC (ObjAt.new w11 (egA (n, k)) 86))
          have hlt' : ∀ g, u4.ownBlock = some g → w2.heap.size ≤ g := fun g hg => (OwnEg.lt HE11.out.o g hg).1
          go_wp2_with (at_builtin; refine wpList_app_Eg rfl (.tmp 103) (.tmp 107) rfl w2.heap.size u4 E3 [(n, k)] rfl (HE11.out.o.alloc _) ⟨w11.heap.size, 0, none⟩ 1 1 rfl HSE.out HLN.out (by simp; omega) ?_)
          intro va wa hoa hga _
          have hba : Below w2.heap.size w2 wa := (h2_11.out.alloc hsw _).grown hga (by simp; omega) hlt'
          have HKA := Lib.hid ((HK11.out.alloc (.cells #[.int .i64 (n : Nat), .int .i64 (k : Nat)] 86)).grown hga (HK11.out.ne HE11.out.o (by decide)))
          have HBA := Lib.hid hba
          have HEA : Hid (PkE wa w2.heap.size ks.length (k * 1600 + j * 40 + (n + 1)) va (E3 ++ [(n, k)])) := ⟨hoa, edgOK_snoc HE11.out.ok hnl hlt HNK.out, by have := HE11.out.l; rw [List.length_append, List.length_singleton]; omega⟩
          clear hoa hba hga HSE HE11 HK11 h2_11
          go_wp2_with fail
          go_roundw
          case rel => exact ⟨n + 1, _, by omega, by go_num, HKA, HBA, HEA⟩
          case measure => simp [intOf]; omega
    obtain rfl : k = ks.length := by omega
    have i1 : ¬ ((ks.length : Nat) : Int) < ks.length := by omega
    have HSG := Lib.hid (OwnEg.s hE.out.o)
    have hEL := hE.out.l
    go_wp2_with fail
    refine (rdOrder_any ks.length u4 E wrA HSG.out hE.out.ok (by omega) (by omega)).mono ?_
    rintro e w3 ⟨v, rfl, _, h3⟩
    have HB3 := Lib.hid (ext_trans HBW.out h3)
    clear h3
    go_wp2_with fail
    all_goals (go_ret; exact ⟨_, rfl, HB3.out⟩)

end Go.Proofs.YtfpnjbomlmhlpaaGreat

/- The reference's structure: needs, Check (printed by wip/gen_gmy.py). -/
namespace Go.Proofs.YtfpnjbomlmhlpaaGreat
open Go.RowKit

/-- a package that is looked for -/
theorem pack_call (D : Des) (ks : List Pkg) (nid : List UInt8) (w : World) (hk : SPk w (.slice D.k.a D.k.n D.k.c) ks) (ho : ∀ x ∈ ks, PkgOK w x) (hl : ks.length ≤ 100000) :
    ∃ (yi yb : List UInt8) (pa : Option Addr) (pn pc : Nat) (yh : Int) (aa : Option Addr) (an ac : Nat) (bz : Bool), ∀ u, Below w.heap.size w u → Calls Tryz.prog 63 #[.agg (desA D), .string (bs nid)] u (Ret u (.tuple #[.agg #[.string (bs yi), .string (bs yb), .slice pa pn pc, .int .i64 yh, .slice aa an ac], .bool bz])) := by
  obtain ⟨pa, pn, pc, e1, aa, an, ac, e2⟩ := pack_slices ho nid
  obtain ⟨y, hy⟩ : ∃ y, (pkFind ks nid).getD default = y := ⟨_, rfl⟩
  obtain ⟨bz, hbz⟩ : ∃ b, (pkFind ks nid).isSome = b := ⟨_, rfl⟩
  rw [hy] at e1 e2
  obtain ⟨yi, yb, pv, yh, av, p1, p2⟩ := y
  dsimp only at e1 e2
  subst e1 e2
  refine ⟨yi, yb, pa, pn, pc, yh, aa, an, ac, bz, fun u hu => ?_⟩
  have h := rPackage_any D ks nid u (hk.keep hu) (fun x hx => (ho x hx).keep hu) hl
  unfold packageV at h
  rw [hy, hbz] at h
  exact h
set_option maxRecDepth 100000 in
set_option maxHeartbeats 1600000 in
theorem rneeds_any (D : Des) (ns : List Nod) (es : List Nd) (ps : List Prt) (ss : List Sea) (ks : List Pkg) (w : World) (h : DesX w D ns es ps ss ks) (hl : ns.length ≤ 100000) (hkl : ks.length ≤ 100000) :
    Calls Tryz.prog 21 #[.agg (desA D)] w (RetN w) := by
  have en := h.n.n
  have ep := h.p.n
  have es' := h.s.n
  have ek := h.k.n
  have ee := h.e.n
  have HX := Lib.hid h
  clear h
  obtain ⟨hull, ⟨na, nn, nc⟩, ⟨pa, pn, pc⟩, ⟨sa, sn, sc⟩, ⟨ka, kn, kc⟩, ⟨ea, en2, ec⟩⟩ := D
  dsimp only at en ep es' ek ee
  obtain rfl : nn = ns.length := en
  obtain rfl : pn = ps.length := ep
  obtain rfl : sn = ss.length := es'
  obtain rfl : kn = ks.length := ek
  obtain rfl : en2 = es.length := ee
  have H3 := Lib.hid (fun i (hi : i < es.length) => HX.out.e.at hi)
  have hpm := HX.out.e.len
  unfold maxLen at hpm
  show Calls Tryz.prog 21 #[.agg #[.string (bs hull), .slice na ns.length nc, .slice pa ps.length pc, .slice sa ss.length sc, .slice ka ks.length kc, .slice ea es.length ec]] w _
  obtain ⟨W1, HO1, HB1, HW⟩ := one_box w #[.string (bs hull), .slice na ns.length nc, .slice pa ps.length pc, .slice sa ss.length sc, .slice ka ks.length kc, .slice ea es.length ec] 28
  go_enter Tryz.func21, Tryz.ntmps21
  go_upto_region 1 with fail
  rw [HW.out]
  clear HW
  go_wp2_with fail
  go_loopw [3] (fun i wr => ∃ k : Nat, k ≤ es.length ∧ i = .int .i64 k ∧ Hid (Below W1.heap.size W1 wr)) (fun i _ => es.length - (intOf i).toNat)
  case atStart => exact ⟨0, Nat.zero_le _, rfl, Below.refl _ _⟩
  case round =>
    obtain ⟨wrA, hwr⟩ : ∃ u, u = wr := ⟨_, rfl⟩
    subst hwr
    obtain ⟨k, hk, rfl, hb⟩ := hrel
    have HBW := Lib.hid (ext_trans HB1.out hb.out)
    have HOR := Lib.hid (HO1.out.keep hb.out)
    have c5 := HOR.out.cell 5
    dsimp at c5
    by_cases hlt : k < es.length
    rotate_left
    · have i1 : ¬ (k : Int) < es.length := by omega
      go_wp2_with fail
      go_ret
      exact ⟨_, rfl, HBW.out⟩
    obtain ⟨b, off, ha, hc⟩ := H3.out k hlt
    obtain rfl : ea = some ⟨b, off, none⟩ := ha
    have hc := hc.keep HBW.out
    obtain ⟨⟨xk, xb, xo⟩, hx⟩ : ∃ y, ndi es k = y := ⟨_, rfl⟩
    rw [hx] at hc
    obtain ⟨e0, e1, e2⟩ := hc
    dsimp only at e0 e1 e2
    have i1 : (k : Int) < es.length := by omega
    clear hx
    obtain ⟨W3, HK3, HB3', HW3⟩ := one_box wrA #[.int .i64 xk, .string (bs xb), .string (bs xo)] 104
    go_upto_region 5 with fail
    rw [HW3.out]
    clear HW3 e0 e1 e2 c5
    obtain ⟨bx, hbx⟩ : ∃ n, wrA.heap.size = n := ⟨_, rfl⟩
    rw [hbx] at HK3 ⊢
    clear hbx
    have HB3 := Lib.hid (ext_trans hb.out HB3'.out)
    have HBW3 := Lib.hid (ext_trans HBW.out HB3'.out)
    have HO3 := Lib.hid (HOR.out.keep HB3'.out)
    clear hb HBW HOR HB3'
    refine wp_region_et gmT gmT_ok [⟨bx, 0, [.int .i64 xk, .string (bs xb), .string (bs xo)]⟩, ⟨w.heap.size, 0, [.string (bs hull), .slice na ns.length nc, .slice pa ps.length pc, .slice sa ss.length sc, .slice ka ks.length kc, .slice (some ⟨b, off, none⟩) es.length ec]⟩] (Below W3.heap.size W3) [(4, 0), (1, 1)] [] [(27, .bool (decide (xk < 1) || decide (3 < xk)))] (by kernel_rfl) (Below.refl _ _)
      (obsC (fun u hu => rangeKeep (range_new HK3.out) hu) (obsC (fun u hu => rangeKeep (range_new HO3.out) hu) obsN)) ⟨rfl, rfl, trivial⟩ ?_
    conv => whnf
    intro f3
    conv => whnf
    refine And.intro (rfl) ?_
    conv => whnf
    intro w4 h4
    have HB4 := Lib.hid (ext_trans HB3.out h4)
    have HBW4 := Lib.hid (ext_trans HBW3.out h4)
    have HO4 := Lib.hid (HO3.out.keep h4)
    have HK4 := Lib.hid (HK3.out.keep h4)
    clear h4 HB3 HBW3 HO3 HK3
    obtain ⟨z3, hz⟩ : ∃ p, (decide (xk < 1) || decide (3 < xk)) = p := ⟨_, rfl⟩
    rw [hz]
    clear hz
    cases z3
    rotate_left
    · go_wp2_with fail
      go_ret
      exact ⟨_, rfl, HBW4.out⟩
    go_upto_region 7 with fail
    refine wp_region_et gmT gmT_ok [⟨bx, 0, [.int .i64 xk, .string (bs xb), .string (bs xo)]⟩, ⟨w.heap.size, 0, [.string (bs hull), .slice na ns.length nc, .slice pa ps.length pc, .slice sa ss.length sc, .slice ka ks.length kc, .slice (some ⟨b, off, none⟩) es.length ec]⟩] (Below w4.heap.size w4) [(4, 0), (1, 1)] [] [(32, .bool ((bs xo).toList == (bs xb).toList))] (by kernel_rfl) (Below.refl _ _)
      (obsC (fun u hu => rangeKeep (range_new HK4.out) hu) (obsC (fun u hu => rangeKeep (range_new HO4.out) hu) obsN)) ⟨rfl, rfl, trivial⟩ ?_
    conv => whnf
    intro f4
    conv => whnf
    refine And.intro (rfl) ?_
    conv => whnf
    intro w5 h5
    have HB5 := Lib.hid (ext_trans HB4.out h5)
    have HBW5 := Lib.hid (ext_trans HBW4.out h5)
    have HO5 := Lib.hid (HO4.out.keep h5)
    have HK5 := Lib.hid (HK4.out.keep h5)
    clear h5 HB4 HBW4 HO4 HK4
    obtain ⟨z4, hz⟩ : ∃ p, ((bs xo).toList == (bs xb).toList) = p := ⟨_, rfl⟩
    rw [hz]
    clear hz
    cases z4
    rotate_left
    · go_wp2_with fail
      go_ret
      exact ⟨_, rfl, HBW5.out⟩
    obtain ⟨yi, yb, pa2, pn2, pc2, yh, aa, an, ac, bz, hcall⟩ := pack_call ⟨hull, ⟨na, ns.length, nc⟩, ⟨pa, ps.length, pc⟩, ⟨sa, ss.length, sc⟩, ⟨ka, ks.length, kc⟩, ⟨some ⟨b, off, none⟩, es.length, ec⟩⟩ ks xo w5 (HX.out.k.keep HBW5.out) (fun x hx => (HX.out.ko x hx).keep HBW5.out) hkl
    have d0 := HO5.out.cell 0
    have d1 := HO5.out.cell 1
    have d2 := HO5.out.cell 2
    have d3 := HO5.out.cell 3
    have d4 := HO5.out.cell 4
    have d5 := HO5.out.cell 5
    have x2 := HK5.out.cell 2
    dsimp at d0 d1 d2 d3 d4 d5 x2
    go_upto_region 9 with fail
    go_wp2_with fail
    refine (hcall w5 (Below.refl _ _)).mono ?_
    rintro e w6 ⟨rfl, h6⟩
    have HB6 := Lib.hid (ext_trans HB5.out h6)
    have HBW6 := Lib.hid (ext_trans HBW5.out h6)
    have HO6 := Lib.hid (HO5.out.keep h6)
    have HK6 := Lib.hid (HK5.out.keep h6)
    clear h6 HB5 HBW5 HO5 HK5 d0 d1 d2 d3 d4 d5 x2 hcall
    obtain ⟨w7, HP7, HN7, HW7⟩ := one_box w6 #[.string (bs yi), .string (bs yb), .slice pa2 pn2 pc2, .int .i64 yh, .slice aa an ac] 54
    go_upto_region 10 with fail
    rw [HW7.out]
    clear HW7
    have HB7 := Lib.hid (ext_trans HB6.out HN7.out)
    have HBW7 := Lib.hid (ext_trans HBW6.out HN7.out)
    have HO7 := Lib.hid (HO6.out.keep HN7.out)
    have HK7 := Lib.hid (HK6.out.keep HN7.out)
    clear HB6 HBW6 HO6 HK6 HN7 HP7
    refine wp_region_et gmT gmT_ok [⟨bx, 0, [.int .i64 xk, .string (bs xb), .string (bs xo)]⟩, ⟨w.heap.size, 0, [.string (bs hull), .slice na ns.length nc, .slice pa ps.length pc, .slice sa ss.length sc, .slice ka ks.length kc, .slice (some ⟨b, off, none⟩) es.length ec]⟩] (Below w7.heap.size w7) [(4, 0), (1, 1)] [(51, .ret (.bool (blockB ns xo))), (62, .ret (.bool (blockB ns xo)))] [(7, .bool ((((xk == 1) && (((bs xo).toList == (⟨#[]⟩ : ByteArray).toList) || blockB ns xo)) || ((xk == 2) && blockB ns xo)) || ((xk == 3) && bz)))] (by kernel_rfl) (Below.refl _ _)
      (obsC (fun u hu => rangeKeep (range_new HK7.out) hu) (obsC (fun u hu => rangeKeep (range_new HO7.out) hu) obsN)) ⟨rfl, rfl, trivial⟩ ?_
    conv => whnf
    refine And.intro (Nat.le_of_ble_eq_true rfl) ?_
    conv => whnf
    refine And.intro (under_of fun u hu => ret_in (rblock_any ⟨hull, ⟨na, ns.length, nc⟩, ⟨pa, ps.length, pc⟩, ⟨sa, ss.length, sc⟩, ⟨ka, ks.length, kc⟩, ⟨some ⟨b, off, none⟩, es.length, ec⟩⟩ ns xo u (HX.out.n.keep (ext_trans HBW7.out hu)) hl) hu) ?_
    conv => whnf
    refine And.intro (Nat.le_of_ble_eq_true rfl) ?_
    conv => whnf
    refine And.intro (under_of fun u hu => ret_in (rblock_any ⟨hull, ⟨na, ns.length, nc⟩, ⟨pa, ps.length, pc⟩, ⟨sa, ss.length, sc⟩, ⟨ka, ks.length, kc⟩, ⟨some ⟨b, off, none⟩, es.length, ec⟩⟩ ns xo u (HX.out.n.keep (ext_trans HBW7.out hu)) hl) hu) ?_
    conv => whnf
    intro f7
    conv => whnf
    refine And.intro (rfl) ?_
    conv => whnf
    intro w8 h8
    have HB8 := Lib.hid (ext_trans HB7.out h8)
    have HBW8 := Lib.hid (ext_trans HBW7.out h8)
    have HO8 := Lib.hid (HO7.out.keep h8)
    have HK8 := Lib.hid (HK7.out.keep h8)
    clear h8 HB7 HBW7 HO7 HK7
    obtain ⟨z7, hz⟩ : ∃ p, ((((xk == 1) && (((bs xo).toList == (⟨#[]⟩ : ByteArray).toList) || blockB ns xo)) || ((xk == 2) && blockB ns xo)) || ((xk == 3) && bz)) = p := ⟨_, rfl⟩
    rw [hz]
    clear hz
    go_upto_region 11 with fail
    refine wp_region_et gmT gmT_ok [⟨bx, 0, [.int .i64 xk, .string (bs xb), .string (bs xo)]⟩, ⟨w.heap.size, 0, [.string (bs hull), .slice na ns.length nc, .slice pa ps.length pc, .slice sa ss.length sc, .slice ka ks.length kc, .slice (some ⟨b, off, none⟩) es.length ec]⟩] (Below w8.heap.size w8) [(4, 0), (1, 1)] [(76, .ret (.bool (blockB ns xb)))] [(81, .bool (!blockB ns xb || !z7))] (by kernel_rfl) (Below.refl _ _)
      (obsC (fun u hu => rangeKeep (range_new HK8.out) hu) (obsC (fun u hu => rangeKeep (range_new HO8.out) hu) obsN)) ⟨rfl, rfl, trivial⟩ ?_
    conv => whnf
    refine And.intro (Nat.le_of_ble_eq_true rfl) ?_
    conv => whnf
    refine And.intro (under_of fun u hu => ret_in (rblock_any ⟨hull, ⟨na, ns.length, nc⟩, ⟨pa, ps.length, pc⟩, ⟨sa, ss.length, sc⟩, ⟨ka, ks.length, kc⟩, ⟨some ⟨b, off, none⟩, es.length, ec⟩⟩ ns xb u (HX.out.n.keep (ext_trans HBW8.out hu)) hl) hu) ?_
    conv => whnf
    intro f8
    conv => whnf
    refine And.intro (rfl) ?_
    conv => whnf
    intro w9 h9
    have HB9 := Lib.hid (ext_trans HB8.out h9)
    have HBW9 := Lib.hid (ext_trans HBW8.out h9)
    have HO9 := Lib.hid (HO8.out.keep h9)
    have HK9 := Lib.hid (HK8.out.keep h9)
    clear h9 HB8 HBW8 HO8 HK8
    obtain ⟨z8, hz⟩ : ∃ p, (!blockB ns xb || !z7) = p := ⟨_, rfl⟩
    rw [hz]
    clear hz
    cases z8
    rotate_left
    · go_wp2_with fail
      go_ret
      exact ⟨_, rfl, HBW9.out⟩
    go_wp2_with fail
    go_roundw
    case rel => exact ⟨k + 1, by omega, by go_num, HB9⟩
    case measure => simp [intOf]; omega
/-- what the lengths of the names must be, and the numbers of elements -/
structure DesZ (D : Des) (ns : List Nod) (es : List Nd) (ps : List Prt) (ss : List Sea) (ks : List Pkg) : Prop where
  h : D.hull.length ≤ maxLen
  n : ∀ x ∈ ns, x.id.length ≤ 1100000
  p : ∀ x ∈ ps, x.id.length ≤ 1100000 ∧ x.node.length ≤ 1100000
  s : ∀ x ∈ ss, x.id.length ≤ 1100000 ∧ x.a.length ≤ 1100000 ∧ x.b.length ≤ 1100000
  k : ∀ x ∈ ks, x.id.length ≤ 1100000
  f : ∀ x ∈ ks, x.aft.length ≤ 40
  ln : ns.length ≤ 40
  lp : ps.length ≤ 40
  ls : ss.length ≤ 40
  lk : ks.length ≤ 40

set_option maxRecDepth 100000 in
set_option maxHeartbeats 1600000 in
theorem rChk17_any (D : Des) (ns : List Nod) (es : List Nd) (ps : List Prt) (ss : List Sea) (ks : List Pkg) (g s : Sv) (gs : List Grd) (cs : List Sct) (w : World) (h : DesX w D ns es ps ss ks) (hM : MatOK w g s gs cs) (hZ : DesZ D ns es ps ss ks) (hmz : MatZ gs cs) :
    Calls Tryz.prog 5 #[.agg (desA D), .agg (matA g s)] w (RetA w ns) := by
  have HZ := Lib.hid hZ
  have HM := Lib.hid hM
  have HMZ := Lib.hid hmz
  have HX := Lib.hid h
  clear hZ hM hmz h
  obtain ⟨W1, HO1, HQ1, HB1, HW⟩ := two_box w #[.string (bs D.hull), .slice D.n.a D.n.n D.n.c, .slice D.p.a D.p.n D.p.c, .slice D.s.a D.s.n D.s.c, .slice D.k.a D.k.n D.k.c, .slice D.e.a D.e.n D.e.c] #[.slice g.a g.n g.c, .slice s.a s.n s.c] 28 32
  unfold desA
  show Calls Tryz.prog 5 #[.agg #[.string (bs D.hull), .slice D.n.a D.n.n D.n.c, .slice D.p.a D.p.n D.p.c, .slice D.s.a D.s.n D.s.c, .slice D.k.a D.k.n D.k.c, .slice D.e.a D.e.n D.e.c], .agg #[.slice g.a g.n g.c, .slice s.a s.n s.c]] w _
  go_enter Tryz.func5, Tryz.ntmps5
  go_upto_region 1 with fail
  rw [HW.out]
  clear HW
  have d0 := HQ1.out.cell 0
  have d1 := HQ1.out.cell 1
  dsimp at d0 d1
  go_wp2_with fail
  refine (rChk15_any g s gs cs W1 (HM.out.keep HB1.out) HMZ.out).mono ?_
  rintro e w2 ⟨y, rfl, hml, h2⟩
  have HB2 := Lib.hid (ext_trans HB1.out h2)
  have HO2 := Lib.hid (HO1.out.keep h2)
  have HQ2 := Lib.hid (HQ1.out.keep h2)
  clear h2 HO1 HQ1 d0 d1
  by_cases hy : y = 0
  rotate_left
  · go_wp2_with fail
    go_ret
    exact ⟨_, rfl, (fun h => absurd h hy), HB2.out⟩
  subst hy
  have HML := Lib.hid (hml rfl)
  clear hml
  obtain ⟨c0, c1, c2, c3, c4, c5⟩ := desC HO2.out
  go_wp2_with fail
  refine (rform_any D ns es ps ss ks w2 (HX.out.keep HB2.out) HZ.out.h).mono ?_
  rintro e w3 ⟨y, rfl, hasc, h3⟩
  have HB3 := Lib.hid (ext_trans HB2.out h3)
  have HO3 := Lib.hid (HO2.out.keep h3)
  have HQ3 := Lib.hid (HQ2.out.keep h3)
  clear h3 HO2 HQ2 c0 c1 c2 c3 c4 c5
  by_cases hy : y = 0
  rotate_left
  · go_wp2_with fail
    go_ret
    exact ⟨_, rfl, (fun h => absurd h hy), HB3.out⟩
  subst hy
  have HAS := Lib.hid (hasc rfl)
  clear hasc
  obtain ⟨c0, c1, c2, c3, c4, c5⟩ := desC HO3.out
  go_wp2_with fail
  refine (rnodes_any D ns es ps ss ks w3 (HX.out.keep HB3.out) (by have := HZ.out.ln; omega) (by have := HZ.out.lp; omega) HZ.out.n).mono ?_
  rintro e w4 ⟨y, rfl, h4⟩
  have HB4 := Lib.hid (ext_trans HB3.out h4)
  have HO4 := Lib.hid (HO3.out.keep h4)
  have HQ4 := Lib.hid (HQ3.out.keep h4)
  clear h4 HO3 HQ3 c0 c1 c2 c3 c4 c5
  by_cases hy : y = 0
  rotate_left
  · go_wp2_with fail
    go_ret
    exact ⟨_, rfl, (fun h => absurd h hy), HB4.out⟩
  subst hy
  obtain ⟨c0, c1, c2, c3, c4, c5⟩ := desC HO4.out
  have d0 := HQ4.out.cell 0
  have d1 := HQ4.out.cell 1
  dsimp at d0 d1
  go_wp2_with fail
  refine (r17parts_any D ns es ps ss ks g s gs cs w4 (HX.out.keep HB4.out) (HM.out.keep HB4.out) (fun x hx => by have := HML.out.2.2 x hx; omega) (by have := HML.out.2.1; omega) (by have := HZ.out.ln; omega) HZ.out.p).mono ?_
  rintro e w5 ⟨y, rfl, h5⟩
  have HB5 := Lib.hid (ext_trans HB4.out h5)
  have HO5 := Lib.hid (HO4.out.keep h5)
  have HQ5 := Lib.hid (HQ4.out.keep h5)
  clear h5 HO4 HQ4 c0 c1 c2 c3 c4 c5 d0 d1
  by_cases hy : y = 0
  rotate_left
  · go_wp2_with fail
    go_ret
    exact ⟨_, rfl, (fun h => absurd h hy), HB5.out⟩
  subst hy
  obtain ⟨c0, c1, c2, c3, c4, c5⟩ := desC HO5.out
  go_wp2_with fail
  refine (rseams_any D ns es ps ss ks w5 (HX.out.keep HB5.out) (by have := HZ.out.lp; omega) HZ.out.s).mono ?_
  rintro e w6 ⟨y, rfl, h6⟩
  have HB6 := Lib.hid (ext_trans HB5.out h6)
  have HO6 := Lib.hid (HO5.out.keep h6)
  have HQ6 := Lib.hid (HQ5.out.keep h6)
  clear h6 HO5 HQ5 c0 c1 c2 c3 c4 c5
  by_cases hy : y = 0
  rotate_left
  · go_wp2_with fail
    go_ret
    exact ⟨_, rfl, (fun h => absurd h hy), HB6.out⟩
  subst hy
  obtain ⟨c0, c1, c2, c3, c4, c5⟩ := desC HO6.out
  go_wp2_with fail
  refine (rpackages_any D ns es ps ss ks w6 (HX.out.keep HB6.out) (by have := HZ.out.ln; omega) (by have := HZ.out.lp; omega) (by have := HZ.out.ls; omega) HZ.out.lk HZ.out.f HZ.out.k).mono ?_
  rintro e w7 ⟨y, rfl, h7⟩
  have HB7 := Lib.hid (ext_trans HB6.out h7)
  have HO7 := Lib.hid (HO6.out.keep h7)
  have HQ7 := Lib.hid (HQ6.out.keep h7)
  clear h7 HO6 HQ6 c0 c1 c2 c3 c4 c5
  by_cases hy : y = 0
  rotate_left
  · go_wp2_with fail
    go_ret
    exact ⟨_, rfl, (fun h => absurd h hy), HB7.out⟩
  subst hy
  obtain ⟨c0, c1, c2, c3, c4, c5⟩ := desC HO7.out
  go_wp2_with fail
  refine (rneeds_any D ns es ps ss ks w7 (HX.out.keep HB7.out) (by have := HZ.out.ln; omega) (by have := HZ.out.lk; omega)).mono ?_
  rintro e w8 ⟨y, rfl, h8⟩
  have HB8 := Lib.hid (ext_trans HB7.out h8)
  have HO8 := Lib.hid (HO7.out.keep h8)
  have HQ8 := Lib.hid (HQ7.out.keep h8)
  clear h8 HO7 HQ7 c0 c1 c2 c3 c4 c5
  go_wp2_with fail
  go_ret
  exact ⟨_, rfl, (fun _ => HAS.out), HB8.out⟩
end Go.Proofs.YtfpnjbomlmhlpaaGreat

/- Contracts: entry of schedules, where there is nothing wrong. -/
namespace Go.Proofs.YtfpnjbomlmhlpaaGreat
open Go.RowKit

theorem entryC1_any (y x : Ern) (bx : Nat) (w : World) (h : ObjAt w bx (enA x) 72) : Calls Tryz.prog 77 (#[enV y] ++ #[.pointer (some ⟨bx, 0, none⟩)]) w (Ret w (.bool (y.block == x.block))) := by
  have HE := Lib.hid (bs_eq y.block x.block)
  have hb : bx < w.heap.size := h.lt
  have c0 : w.cell? ⟨bx, 0, none⟩ = some (.string (bs x.block)) := h.cell 0
  show Calls Tryz.prog 77 #[.agg #[.string (bs y.block), .string (bs y.crane), .int .i64 y.a, .int .i64 y.b], .pointer (some ⟨bx, 0, none⟩)] w _
  clear h
  go_enter Tryz.func77, Tryz.ntmps77
  go_wp2_with fail
  go_ret
  exact ⟨ret_bool HE.out, (Below.refl _ _).alloc (Nat.le_refl _) _⟩
theorem enter_entryC1 : ∀ args w, (callFunc 77 args).run Tryz.prog w = .ok (.enter 77 args) w := enters_of Tryz.func77 (by kernel_rfl) rfl
def meetE (x y : Ern) : Bool := y.crane == x.crane && decide (x.a < y.b) && decide (y.a < x.b)
theorem entryC2_any (y x : Ern) (bx : Nat) (w : World) (h : ObjAt w bx (enA x) 72) : Calls Tryz.prog 79 (#[enV y] ++ #[.pointer (some ⟨bx, 0, none⟩)]) w (Ret w (.bool (meetE x y))) := by
  have HE := Lib.hid (bs_eq y.crane x.crane)
  have hb : bx < w.heap.size := h.lt
  have c1 : w.cell? ⟨bx, 1, none⟩ = some (.string (bs x.crane)) := h.cell 1
  have c2 : w.cell? ⟨bx, 2, none⟩ = some (.int .i64 x.a) := h.cell 2
  have c3 : w.cell? ⟨bx, 3, none⟩ = some (.int .i64 x.b) := h.cell 3
  show Calls Tryz.prog 79 #[.agg #[.string (bs y.block), .string (bs y.crane), .int .i64 y.a, .int .i64 y.b], .pointer (some ⟨bx, 0, none⟩)] w _
  clear h
  go_enter Tryz.func79, Tryz.ntmps79
  go_wp2_with fail
  all_goals (go_ret; refine ⟨ret_bool ?_, (Below.refl _ _).alloc (Nat.le_refl _) _⟩; clear HE c1 c2 c3; simp_all [meetE, bs_toList]; try omega)
theorem enter_entryC2 : ∀ args w, (callFunc 79 args).run Tryz.prog w = .ok (.enter 79 args) w := enters_of Tryz.func79 (by kernel_rfl) rfl
/-- nothing is wrong with an entry behind others -/
structure EntOK (l : List MH) (fr : Int) (q : List Ern) (x : Ern) : Prop where
  jb : x.block ∈ (hl l).map (·.block)
  nb : q.any (fun y => y.block == x.block) = false
  cr : x.crane ∈ (mhi l (jobI (hl l) x.block)).h.cranes
  a0 : fr ≤ x.a
  a1 : x.a ≤ 1099511627776
  b : x.b = x.a + (mhi l (jobI (hl l) x.block)).h.hours
  h0 : 0 ≤ (mhi l (jobI (hl l) x.block)).h.hours
  h1 : (mhi l (jobI (hl l) x.block)).h.hours ≤ 10000
  f0 : 0 ≤ fr
  ov : q.any (meetE x) = false
set_option maxRecDepth 100000 in
set_option maxHeartbeats 2000000 in
theorem entry_ok (hb : Nat) (ja : Option Addr) (jc : Nat) (l : List MH) (fr : Int) (bv ov : Value) (bl : List (List UInt8)) (E : Edg) (lv : Value) (q : List Ern) (x : Ern) (w : World) (h : HallJ w hb ja jc l fr bv ov bl E) (hq : SEn w lv q) (hx : EntOK l fr q x) :
    Calls Tryz.prog 38 #[.pointer (some ⟨hb, 0, none⟩), lv, .agg (enA x)] w (Ret w (.int .i64 0)) := by
  have HX := Lib.hid hx
  have HQ := Lib.hid hq
  have HJ := Lib.hid (fun w' (hb1 : Below w.heap.size w w') => job_in (h.keep hb1).hw.c (h.keep hb1).j (h.keep hb1).c hx.jb)
  have HH := Lib.hid h
  obtain ⟨ja', jc', e, _, _, j3⟩ := h.j
  cases e
  have hjl := (jobZ_in hx.jb).2
  obtain ⟨jb, jo, rfl, hc⟩ := j3 _ hjl
  obtain ⟨va, vc, hav, hsz⟩ := h.c.form hjl
  have HSZ := Lib.hid hsz
  have hcr : (mhi l (jobI (hl l) x.block)).h.cranes.contains x.crane = true := List.contains_iff_mem.2 hx.cr
  have HCR := Lib.hid hcr
  obtain ⟨jq, hjq⟩ : ∃ jq, jobI (hl l) x.block = jq := ⟨_, rfl⟩
  rw [hjq] at HJ hjl hc hav HSZ HCR
  have HR : Hid (w.rangeAt jb (jo + jq * 3) [.string (bs (mhi l jq).h.block), .int .i64 (mhi l jq).h.hours, .slice va (mhi l jq).h.cranes.length vc]) := by
    have := hs_range hc
    unfold hsCells at this
    rw [hav] at this
    exact this
  have x1 := hx.a0; have x2 := hx.a1; have x4 := hx.h0; have x5 := hx.h1; have x6 := hx.f0
  have X3 := Lib.hid hx.b
  rw [hjq] at X3 x4 x5
  clear h hq j3 hc hx hsz hcr
  obtain ⟨W1, HO1, HB1, HW1, HZ1⟩ := copyEn w x
  obtain ⟨qa, qc, rfl, _⟩ := id HQ.out
  unfold enA
  go_enter Tryz.func38, Tryz.ntmps38
  go_upto_region 1 with fail
  rw [HW1.out]
  clear HW1
  have c0 : W1.cell? ⟨w.heap.size, 0, none⟩ = some (.string (bs x.block)) := HO1.out.cell 0
  go_wp2_with fail
  refine (HJ.out W1 HB1.out).mono ?_
  rintro e w2 ⟨rfl, h2⟩
  have HB2 := Lib.hid (ext_trans HB1.out h2)
  have HO2 := Lib.hid (HO1.out.keep h2)
  clear h2 c0 HO1 HB1 HJ
  have i0 : ¬ ((jq : Int) < 0) := by omega
  go_wp2_with fail
  refine (containsFunc_E _ _ (fun _ => True) (fun y => y.block == x.block) q w2 (HQ.out.keep HB2.out) (fun _ _ => trivial) ⟨77, #[.pointer (some ⟨w.heap.size, 0, none⟩)], rfl, enter_entryC1, fun y u _ hu => entryC1_any y x _ u (HO2.out.keep hu)⟩).mono ?_
  rintro e w3 ⟨rfl, h3⟩
  rw [HX.out.nb]
  have HB3 := Lib.hid (ext_trans HB2.out h3)
  have HO3 := Lib.hid (HO2.out.keep h3)
  clear h3 HB2 HO2
  go_upto_region 6 with fail
  have HH3 := Lib.hid (HH.out.keep HB3.out)
  refine wp_region_ev sqT sqT_ok [⟨hb, 0, (hallA (.slice (some ⟨jb, jo, none⟩) l.length jc) fr bv ov).toList⟩, ⟨jb, jo + jq * 3, [.string (bs (mhi l jq).h.block), .int .i64 (mhi l jq).h.hours, .slice va (mhi l jq).h.cranes.length vc]⟩, ⟨w.heap.size, 0, (enA x).toList⟩] (Below w3.heap.size w3) [(0, 0), (5, 2)]
    [(25, .ix jq 1), (30, .ret (.bool true))] [(19, .bool false)] (by kernel_rfl) mixed (by kernel_rfl) ((Below.refl _ _).drew)
    (obsC (fun u hu => rangeKeep (hall_range HH3.out.hw.c) hu) (obsC (fun u hu => rangeKeep (rangeKeep HR.out HB3.out) hu) (obsC (fun u hu => rangeKeep (range_new HO3.out) hu) obsN))) ⟨rfl, rfl, trivial⟩ ?_
  conv => whnf
  refine And.intro (under_of ⟨rfl, hjl, rfl, rfl⟩) ?_
  conv => whnf
  refine And.intro (under_of fun u hu => by
    have h2 := cnS_any _ _ x.crane u (HSZ.out.keep (ext_trans HB3.out hu))
    rw [HCR.out] at h2
    exact ret_in h2 hu) ?_
  conv => whnf
  intro f1
  conv => whnf
  refine And.intro rfl ?_
  conv => whnf
  intro w4 h4
  have HB4 := Lib.hid (ext_trans HB3.out h4)
  have HO4 := Lib.hid (HO3.out.keep h4)
  clear h4 HB3 HO3 HH3
  go_upto_region 8 with fail
  have HH4 := Lib.hid (HH.out.keep HB4.out)
  refine wp_region_ev sqT sqT_ok [⟨hb, 0, (hallA (.slice (some ⟨jb, jo, none⟩) l.length jc) fr bv ov).toList⟩, ⟨w.heap.size, 0, (enA x).toList⟩] (Below w4.heap.size w4) [(0, 0), (5, 1)] [] [(32, .bool false)] (by kernel_rfl) mixed (by kernel_rfl) ((Below.refl _ _).drew)
    (obsC (fun u hu => rangeKeep (hall_range HH4.out.hw.c) hu) (obsC (fun u hu => rangeKeep (range_new HO4.out) hu) obsN)) ⟨rfl, rfl, trivial⟩ ?_
  conv => whnf
  intro f2
  conv => whnf
  refine And.intro (by rw [decide_eq_false (show ¬ x.a < fr by omega), decide_eq_false (show ¬ (1099511627776 : Int) < x.a by omega)]; rfl) ?_
  conv => whnf
  intro w5 h5
  have HB5 := Lib.hid (ext_trans HB4.out h5)
  have HO5 := Lib.hid (HO4.out.keep h5)
  clear h5 HB4 HO4 HH4
  go_upto_region 10 with fail
  have HH5 := Lib.hid (HH.out.keep HB5.out)
  refine wp_region_ev sqT sqT_ok [⟨hb, 0, (hallA (.slice (some ⟨jb, jo, none⟩) l.length jc) fr bv ov).toList⟩, ⟨jb, jo + jq * 3, [.string (bs (mhi l jq).h.block), .int .i64 (mhi l jq).h.hours, .slice va (mhi l jq).h.cranes.length vc]⟩, ⟨w.heap.size, 0, (enA x).toList⟩] (Below w5.heap.size w5) [(0, 0), (5, 2)]
    [(55, .ix jq 1)] [(45, .bool false)] (by kernel_rfl) mixed (by kernel_rfl) ((Below.refl _ _).drew)
    (obsC (fun u hu => rangeKeep (hall_range HH5.out.hw.c) hu) (obsC (fun u hu => rangeKeep (rangeKeep HR.out HB5.out) hu) (obsC (fun u hu => rangeKeep (range_new HO5.out) hu) obsN))) ⟨rfl, rfl, trivial⟩ ?_
  conv => whnf
  refine And.intro (under_of ⟨rfl, hjl, rfl, rfl⟩) ?_
  conv => whnf
  refine And.intro (under_of (by omega)) ?_
  conv => whnf
  intro f3
  conv => whnf
  refine And.intro (by rw [X3.out]; simp) ?_
  conv => whnf
  intro w6 h6
  have HB6 := Lib.hid (ext_trans HB5.out h6)
  have HO6 := Lib.hid (HO5.out.keep h6)
  clear h6 HB5 HO5 HH5
  go_wp2_with fail
  refine (containsFunc_E _ _ (fun _ => True) (meetE x) q w6 (HQ.out.keep HB6.out) (fun _ _ => trivial) ⟨79, #[.pointer (some ⟨w.heap.size, 0, none⟩)], rfl, enter_entryC2, fun y u _ hu => entryC2_any y x _ u (HO6.out.keep hu)⟩).mono ?_
  rintro e w7 ⟨rfl, h7⟩
  rw [HX.out.ov]
  have HB7 := Lib.hid (ext_trans HB6.out h7)
  clear h7 HO6 HB6
  go_wp2_with fail
  go_ret
  exact ⟨rfl, HB7.out⟩
end Go.Proofs.YtfpnjbomlmhlpaaGreat

/- Contract: Check of schedules, where there is nothing wrong. -/
namespace Go.Proofs.YtfpnjbomlmhlpaaGreat
open Go.RowKit

/-- a plan of all jobs with nothing wrong -/
structure PlanOK (l : List MH) (fr : Int) (bl : List (List UInt8)) (E : Edg) (q : List Ern) : Prop where
  len : q.length = l.length
  ent : ∀ k, k < q.length → EntOK l fr (q.take k) (eri q k)
  ord : ∀ x ∈ q, ∀ y ∈ q, BefJ l bl E (jobI (hl l) x.block) (jobI (hl l) y.block) = true → x.b ≤ y.a
theorem PlanOK.in_ {l : List MH} {fr : Int} {bl : List (List UInt8)} {E : Edg} {q : List Ern} (h : PlanOK l fr bl E q) : InJ l q := fun x hx => by
  obtain ⟨k, hk, rfl⟩ := List.mem_iff_getElem.1 hx
  have := (h.ent k hk).jb
  rw [eri_lt hk] at this
  exact this
theorem ord_false {l : List MH} {fr : Int} {bl : List (List UInt8)} {E : Edg} {q : List Ern} (h : PlanOK l fr bl E q) {x y : Ern} (hx : x ∈ q) (hy : y ∈ q) : (BefJ l bl E (jobI (hl l) x.block) (jobI (hl l) y.block) && decide (y.a < x.b)) = false := by
  cases hB : BefJ l bl E (jobI (hl l) x.block) (jobI (hl l) y.block)
  · rfl
  · have := h.ord x hx y hy hB
    rw [Bool.true_and, decide_eq_false_iff_not]; omega
set_option maxRecDepth 100000 in
set_option maxHeartbeats 2000000 in
theorem check_ok (D : Des) (ns : List Nod) (es : List Nd) (ja : Option Addr) (jc : Nat) (l : List MH) (fr : Int) (bl : List (List UInt8)) (E : Edg) (lv : Value) (q : List Ern) (w : World) (h : SchIn w D ns es (.slice ja l.length jc) l fr bl E) (hq : SEn w lv q) (hp : PlanOK l fr bl E q) :
    Calls Tryz.prog 10 #[.agg (desA D), .slice ja l.length jc, .int .i64 fr, lv] w (Ret w (.int .i64 0)) := by
  have HIN := Lib.hid h
  have HP := Lib.hid hp
  have HQ := Lib.hid hq
  have HNH := Lib.hid (fun w' (hb : Below w.heap.size w w') => newHall_any D ns es ja jc l fr bl E w' (h.keep hb))
  obtain ⟨qa, qc, rfl, q1, q2, q3⟩ := hq
  have Q3 := Lib.hid q3
  have hm : q.length ≤ 9223372036854775807 := by unfold maxLen at q2; omega
  have i0 : ¬ ((l.length : Int) < q.length) := by have := hp.len; omega
  have i1 : ¬ ((q.length : Int) < l.length) := by have := hp.len; omega
  clear q3 hp h
  obtain ⟨W0, HO0, HB0, HW0, HZ0⟩ := boxD w D
  unfold desA at HNH ⊢
  go_enter Tryz.func10, Tryz.ntmps10
  go_upto_region 1 with fail
  rw [HW0.out]
  clear HW0
  obtain ⟨c0, c1, c2, c3, c4, c5⟩ := desC HO0.out
  go_wp2_with fail
  refine (HNH.out W0 HB0.out).mono ?_
  rintro e w1 ⟨hb, bv, ov, rfl, hw, h1⟩
  have HB1 := Lib.hid (ext_trans HB0.out h1)
  have HH : Hid (HallJ w1 hb ja jc l fr bv ov bl E) := ⟨hw, HIN.out.hj.keep HB1.out, HIN.out.hc.keep HB1.out⟩
  clear c0 c1 c2 c3 c4 c5 h1 hw HNH
  go_wp2_with fail
  go_loopw [34] (fun n wr => ∃ k : Nat, k ≤ q.length ∧ n = .int .i64 k ∧ Hid (Below w1.heap.size w1 wr)) (fun n _ => q.length - (intOf n).toNat)
  case atStart => exact ⟨0, Nat.zero_le _, rfl, Below.refl _ _⟩
  case round =>
    obtain ⟨k, hk, rfl, hb1⟩ := hrel
    have HBW := Lib.hid (ext_trans HB1.out hb1.out)
    by_cases hlt : k < q.length
    · obtain ⟨b, off, rfl, hc⟩ := Q3.out k hlt
      obtain ⟨c0, c1, c2, c3⟩ := hc.keep HBW.out
      obtain ⟨W2, HO2, HC2, HW, HZ2⟩ := copyEn wr (eri q k)
      have HB2 := Lib.hid (ext_trans hb1.out HC2.out)
      have HB3 := Lib.hid (ext_trans HBW.out HC2.out)
      have HEN := Lib.hid (HP.out.ent k hlt)
      have HH2 := Lib.hid (HH.out.keep HB2.out)
      have HS2 := Lib.hid ((HQ.out.keep HB3.out).take k hk)
      clear hc
      go_upto_region 9 with fail
      rw [HW.out]
      clear HW c0 c1 c2 c3
      refine wp_region_ev sqT sqT_ok [⟨wr.heap.size, 0, (enA (eri q k)).toList⟩] (Below W2.heap.size W2) [(11, 0)] [(42, .nat k), (44, .ret (.int .i64 0))] [(12, .int .i64 0)] (by kernel_rfl) mixed (by kernel_rfl) ((Below.refl _ _).drew)
        (obsC (fun u hu => rangeKeep (range_new HO2.out) hu) obsN) ⟨rfl, trivial⟩ ?_
      conv => whnf
      refine And.intro (under_of ⟨rfl, by omega⟩) ?_
      conv => whnf
      refine And.intro (Nat.le_refl 4) ?_
      conv => whnf
      refine And.intro (under_of fun u hu => ret_in (entry_ok hb ja jc l fr bv ov bl E _ _ _ u (HH2.out.keep hu) (HS2.out.keep hu) HEN.out) hu) ?_
      conv => whnf
      intro f1
      conv => whnf
      refine And.intro rfl ?_
      conv => whnf
      intro w3 h3
      have HB4 := Lib.hid (ext_trans HB2.out h3)
      clear h3 HB2 HB3 HH2 HS2 HO2 HC2
      go_wp2_with fail
      go_roundw
      case rel => exact ⟨k + 1, by omega, by go_num, HB4⟩
      case measure => simp [intOf]; omega
    · obtain rfl : k = q.length := by omega
      have HHW := Lib.hid (HH.out.keep hb1.out)
      obtain ⟨WR, hWR⟩ : ∃ WR, WR = wr := ⟨_, rfl⟩
      subst hWR
      obtain ⟨ra, rcap, e0, hr⟩ := HHW.out.hw.r
      subst e0
      go_wp2_with fail
      go_loopw [56] (fun n wr => ∃ k : Nat, k ≤ q.length ∧ n = .int .i64 k ∧ Hid (Below WR.heap.size WR wr)) (fun n _ => q.length - (intOf n).toNat)
      case atStart => exact ⟨0, Nat.zero_le _, rfl, Below.refl _ _⟩
      case round =>
        obtain ⟨k, hk, rfl, hb2⟩ := hrel
        have HBV := Lib.hid (ext_trans HBW.out hb2.out)
        by_cases hlt : k < q.length
        · obtain ⟨b, off, rfl, hc⟩ := Q3.out k hlt
          obtain ⟨c0, c1, c2, c3⟩ := hc.keep HBV.out
          obtain ⟨W2, HO2, HC2, HW, HZ2⟩ := copyEn wr (eri q k)
          have HB2 := Lib.hid (ext_trans hb2.out HC2.out)
          have HX := Lib.hid (eri_mem hlt)
          clear hc
          go_upto_region 18 with fail
          rw [HW.out]
          clear HW c0 c1 c2 c3
          obtain ⟨WS, hWS⟩ : ∃ WS, WS = wr := ⟨_, rfl⟩
          subst hWS
          go_wp2_with fail
          go_loopw [62] (fun n wr => ∃ m : Nat, m ≤ q.length ∧ n = .int .i64 m ∧ Hid (Below W2.heap.size W2 wr)) (fun n _ => q.length - (intOf n).toNat)
          case atStart => exact ⟨0, Nat.zero_le _, rfl, Below.refl _ _⟩
          case round =>
            obtain ⟨m, hm2, rfl, hb3⟩ := hrel
            have HBR := Lib.hid (ext_trans HB2.out hb3.out)
            have HBX := Lib.hid (ext_trans HBW.out HBR.out)
            by_cases hlt2 : m < q.length
            · obtain ⟨b', off', e', hc⟩ := Q3.out m hlt2
              cases e'
              obtain ⟨c0, c1, c2, c3⟩ := hc.keep HBX.out
              obtain ⟨W3, HO3, HC3, HW, HZ3⟩ := copyEn wr (eri q m)
              have HB4 := Lib.hid (ext_trans hb3.out HC3.out)
              have HB5 := Lib.hid (ext_trans HBR.out HC3.out)
              have HO14 := Lib.hid (HO2.out.keep HB4.out)
              have HY := Lib.hid (eri_mem hlt2)
              have HH3 := Lib.hid (HHW.out.keep HB5.out)
              clear hc
              go_upto_region 21 with fail
              rw [HW.out]
              clear HW c0 c1 c2 c3
              have HF := Lib.hid (ord_false HP.out HX.out HY.out)
              have hxi := (jobZ_in (HP.out.in_ _ HX.out)).2
              have hyi := (jobZ_in (HP.out.in_ _ HY.out)).2
              obtain ⟨rb, ro, g, e1, r1, r2⟩ := hr _ hxi
              subst e1
              have R1 := Lib.hid (cell_keep HB5.out r1)
              have R2 := Lib.hid (cell_keep HB5.out (r2 _ hyi))
              clear r1 r2
              refine wp_region_ev sqT sqT_ok [⟨hb, 0, (hallA (.slice ja l.length jc) fr (.slice (some ⟨rb, ro, none⟩) l.length rcap) ov).toList⟩, ⟨WS.heap.size, 0, (enA (eri q k)).toList⟩, ⟨wr.heap.size, 0, (enA (eri q m)).toList⟩, ⟨rb, ro + jobI (hl l) (eri q k).block, [.slice (some ⟨g, 0, none⟩) l.length l.length]⟩, ⟨g, jobI (hl l) (eri q m).block, [.bool (BefJ l bl E (jobI (hl l) (eri q k).block) (jobI (hl l) (eri q m).block))]⟩] (Below W3.heap.size W3) [(9, 0), (14, 1), (16, 2)]
                [(73, .ret (.int .i64 (jobI (hl l) (eri q k).block : Nat))), (74, .ix (jobI (hl l) (eri q k).block) 3), (79, .ret (.int .i64 (jobI (hl l) (eri q m).block : Nat))), (80, .ix (jobI (hl l) (eri q m).block) 4)] [(88, .bool false)] (by kernel_rfl) mixed (by kernel_rfl) ((Below.refl _ _).drew)
                (obsC (fun u hu => rangeKeep (hall_range HH3.out.hw.c) hu) (obsC (fun u hu => rangeKeep (range_new HO14.out) hu) (obsC (fun u hu => rangeKeep (range_new HO3.out) hu) (obsC (fun u hu => rangeKeep (intR R1.out) hu) (obsC (fun u hu => rangeKeep (intR R2.out) hu) obsN))))) ⟨rfl, rfl, rfl, trivial⟩ ?_
              conv => whnf
              refine And.intro (under_of fun u hu => by
                have h2 := HH3.out.keep hu
                exact ret_in (job_in h2.hw.c h2.j h2.c (HP.out.in_ _ HX.out)) hu) ?_
              conv => whnf
              refine And.intro (under_of ⟨rfl, hxi, rfl, by show ro + _ = ro + _ * 1; omega⟩) ?_
              conv => whnf
              refine And.intro (under_of fun u hu => by
                have h2 := HH3.out.keep hu
                exact ret_in (job_in h2.hw.c h2.j h2.c (HP.out.in_ _ HY.out)) hu) ?_
              conv => whnf
              refine And.intro (under_of ⟨rfl, hyi, rfl, by show jobI (hl l) (eri q m).block = 0 + jobI (hl l) (eri q m).block * 1; omega⟩) ?_
              conv => whnf
              intro f1
              conv => whnf
              refine And.intro (congrArg Value.bool HF.out) ?_
              conv => whnf
              intro w4 h4
              have HB6 := Lib.hid (ext_trans HB4.out h4)
              clear h4 HB4 HB5 HO14 HH3 R1 R2 HO3 HC3
              go_wp2_with fail
              go_roundw
              case rel => exact ⟨m + 1, by omega, by go_num, HB6⟩
              case measure => simp [intOf]; omega
            · obtain rfl : m = q.length := by omega
              go_wp2_with fail
              go_roundw
              case rel => exact ⟨k + 1, by omega, by go_num, HBR⟩
              case measure => simp [intOf]; omega
        · obtain rfl : k = q.length := by omega
          go_wp2_with fail
          go_ret
          exact ⟨rfl, HBV.out⟩
end Go.Proofs.YtfpnjbomlmhlpaaGreat

/- Contract: Greedy of schedules. -/
namespace Go.Proofs.YtfpnjbomlmhlpaaGreat
open Go.RowKit

/-! a hall is kept where only a variable of a slice, nil at first, is written -/
theorem ne_nilvar {W : World} {b6 b o : Nat} {v : Value} {ty : TypeId} (ho : ObjAt W b6 #[.slice none 0 0] ty) (hc : W.cell? ⟨b, o, none⟩ = some v) (hv : v ≠ .slice none 0 0) : b ≠ b6 := by
  intro e; subst e
  rw [ho.cell] at hc
  match o, hc with
  | 0, hc => cases hc; exact hv rfl
  | o + 1, hc => simp at hc
theorem frv_at {n b6 : Nat} {W u : World} (hf : FrV n (blkV b6) W u) {b o : Nat} {v : Value} (hc : W.cell? ⟨b, o, none⟩ = some v) (hn : W.heap.size ≤ n) (hb : b ≠ b6) : u.cell? ⟨b, o, none⟩ = some v :=
  frv_cell hf hc (Nat.lt_of_lt_of_le (World.block_lt_of_cell? W _ hc) hn) (fun e => hb (Option.some.inj e).symm)
theorem HallJ.frv {W u : World} {b6 hb : Nat} {ja : Option Addr} {jc : Nat} {l : List MH} {fr : Int} {bv ov : Value} {bl : List (List UInt8)} {E : Edg} {ty : TypeId} (h : HallJ W hb ja jc l fr bv ov bl E) (ho : ObjAt W b6 #[.slice none 0 0] ty) (hf : FrV W.heap.size (blkV b6) W u) : HallJ u hb ja jc l fr bv ov bl E := by
  have K : ∀ {b o : Nat} {v : Value}, W.cell? ⟨b, o, none⟩ = some v → b ≠ b6 → u.cell? ⟨b, o, none⟩ = some v := fun hc hb => frv_at hf hc (Nat.le_refl _) hb
  have N : ∀ {b o : Nat} {v : Value}, W.cell? ⟨b, o, none⟩ = some v → v ≠ .slice none 0 0 → b ≠ b6 := fun hc hv => ne_nilvar ho hc hv
  obtain ⟨⟨⟨c0, c1, c2, c3⟩, hr, hs⟩, hj, hc⟩ := h
  have hne := N c1 (by intro e; cases e)
  refine ⟨⟨⟨K c0 hne, K c1 hne, K c2 hne, K c3 hne⟩, ?_, ?_⟩, ?_, ?_⟩
  · obtain ⟨a, cap, rfl, h⟩ := hr
    refine ⟨a, cap, rfl, fun i hi => ?_⟩
    obtain ⟨b, off, g, e, d1, d2⟩ := h i hi
    exact ⟨b, off, g, e, K d1 (N d1 (by intro e; cases e)), fun k hk => K (d2 k hk) (N (d2 k hk) (by intro e; cases e))⟩
  · obtain ⟨a, cap, rfl, h1, h2, h⟩ := hs
    refine ⟨a, cap, rfl, h1, h2, fun i hi => ?_⟩
    obtain ⟨b, off, e, d⟩ := h i hi
    exact ⟨b, off, e, K d (N d (by intro e; cases e))⟩
  · obtain ⟨a, cap, e, h1, h2, h⟩ := hj
    refine ⟨a, cap, e, h1, h2, fun i hi => ?_⟩
    obtain ⟨b, off, e, d⟩ := h i hi
    have hn := N d.c0 (by intro e; cases e)
    exact ⟨b, off, e, K d.c0 hn, K d.c1 hn, K d.c2 hn⟩
  · intro m hm
    obtain ⟨a, cap, e, h1, h2, h⟩ := hc m hm
    refine ⟨a, cap, e, h1, h2, fun i hi => ?_⟩
    obtain ⟨b, off, e, d⟩ := h i hi
    exact ⟨b, off, e, K d (N d (by intro e; cases e))⟩
/-! plans that can be reached -/
theorem reach_in {l : List MH} {bl : List (List UInt8)} {E : Edg} {fr : Int} {q : List Ern} (hJ : JobsOK (hl l)) (h : Reach (hl l) (BefJ l bl E) fr q) : InJ l q := fun x hx => ((h.inv hJ).ent x hx).block
theorem reach_st {l : List MH} {bl : List (List UInt8)} {E : Edg} {fr : Int} {q : List Ern} (hJ : JobsR (hl l) bl) (f0 : 0 ≤ fr) (f1 : fr ≤ 1048576) (h : Reach (hl l) (BefJ l bl E) fr q) {i : Nat} (hi : i < l.length) (c : List UInt8) : StOK l bl E fr q i c := by
  have hv := h.inv hJ.ok
  have hlen := h.len hJ.ok
  have hfew := hJ.few
  have hh := hJ.hr _ (hsi_mem (by rw [hl_len]; exact hi))
  rw [hsi_ml hi] at hh
  refine ⟨Int.le_trans f0 (start_fold _ _ i c q fr).1, ?_, by omega, hh.2⟩
  refine start_le _ _ i c q fr (by omega) fun x hx => ?_
  have := (hv.ent x hx).le
  omega
theorem pairwise_take {α : Type} [Inhabited α] {R : α → α → Prop} {q : List α} (h : q.Pairwise R) {k : Nat} (hk : k < q.length) : ∀ y ∈ q.take k, R y q[k] := by
  intro y hy
  obtain ⟨i, hi, rfl⟩ := List.mem_iff_getElem.1 hy
  rw [List.length_take] at hi
  rw [List.getElem_take]
  exact List.pairwise_iff_getElem.1 h i k (by omega) hk (by omega)
/-- they are valid -/
theorem reach_ok {l : List MH} {bl : List (List UInt8)} {E : Edg} {fr : Int} {q : List Ern} (hJ : JobsR (hl l) bl) (f0 : 0 ≤ fr) (f1 : fr ≤ 1048576) (h : Reach (hl l) (BefJ l bl E) fr q) (hlen : q.length = l.length) : PlanOK l fr bl E q := by
  have hv := h.inv hJ.ok
  have hfew := hJ.few
  rw [hl_len] at hfew
  refine ⟨hlen, fun k hk => ?_, fun x hx y hy hB => apart_all (befB_irr _ _ _) hv.ap hx hy hB⟩
  have he := hv.ent _ (eri_mem hk)
  obtain ⟨i, hi, e1, e2, e3⟩ := he.job
  have hji : jobI (hl l) (eri q k).block = i := by rw [e1]; exact jobI_at hJ.ok.nd hi
  have hil : i < l.length := by rw [hl_len] at hi; exact hi
  have hh := hJ.hr _ (hsi_mem hi)
  rw [hsi_ml hil] at e2 e3 hh
  have hle := he.le
  have hge := he.ge
  refine ⟨he.block, ?_, by rw [hji]; exact e2, hge, by omega, by rw [hji]; exact e3, by rw [hji]; omega, by rw [hji]; exact hh.2, f0, ?_⟩
  · rw [List.any_eq_false]
    intro y hy
    have := hv.nd
    rw [List.nodup_iff_pairwise_ne, List.pairwise_map] at this
    have h2 := pairwise_take this hk y hy
    rw [eri_lt hk]; simpa using h2
  · rw [List.any_eq_false]
    intro y hy
    have h2 := (pairwise_take hv.ap hk y hy).1
    rw [← eri_lt hk] at h2
    unfold meetE
    intro h3
    rw [Bool.and_eq_true, Bool.and_eq_true, beq_iff_eq, decide_eq_true_eq, decide_eq_true_eq] at h3
    have := h2 h3.1.1
    omega
set_option maxRecDepth 100000 in
theorem greedyC_any (hb : Nat) (ja : Option Addr) (jc : Nat) (l : List MH) (fr : Int) (bv ov : Value) (bl : List (List UInt8)) (E : Edg) (va : Option Addr) (vc : Nat) (q : List Ern) (i : Nat) (x y : List UInt8) (b8 b6 b10 : Nat) (w : World) (h : HallJ w hb ja jc l fr bv ov bl E) (hq : SEn w (.slice va q.length vc) q) (hin : InJ l q) (hi : i < l.length) (hs : ∀ c, StOK l bl E fr q i c)
    (h8 : w.cell? ⟨b8, 0, none⟩ = some (.pointer (some ⟨hb, 0, none⟩))) (h6 : w.cell? ⟨b6, 0, none⟩ = some (.slice va q.length vc)) (h10 : w.cell? ⟨b10, 0, none⟩ = some (.int .i64 i)) :
    Calls Tryz.prog 27 (#[.string (bs x), .string (bs y)] ++ #[.pointer (some ⟨b8, 0, none⟩), .pointer (some ⟨b6, 0, none⟩), .pointer (some ⟨b10, 0, none⟩)]) w (Ret w (.int .i64 (startF (hl l) (BefJ l bl E) fr q i x - startF (hl l) (BefJ l bl E) fr q i y))) := by
  have HST := Lib.hid (fun u (hu : Below w.heap.size w u) c => start_any hb ja jc l fr bv ov bl E _ q i c u (h.keep hu) (hq.keep hu) hin hi)
  have s1 := hs x
  have s2 := hs y
  have C8 := Lib.hid h8; have C6 := Lib.hid h6; have C10 := Lib.hid h10
  show Calls Tryz.prog 27 #[.string (bs x), .string (bs y), .pointer (some ⟨b8, 0, none⟩), .pointer (some ⟨b6, 0, none⟩), .pointer (some ⟨b10, 0, none⟩)] w _
  clear h hq hs h8 h6 h10
  go_enter Tryz.func27, Tryz.ntmps27
  go_upto_region 1 with fail
  refine wp_region_ev sqT sqT_ok [⟨b8, 0, [.pointer (some ⟨hb, 0, none⟩)]⟩, ⟨b6, 0, [.slice va q.length vc]⟩, ⟨b10, 0, [.int .i64 i]⟩] (Below w.heap.size w) [(2, 0), (3, 1), (4, 2)] [(12, .ret (.int .i64 (startF (hl l) (BefJ l bl E) fr q i x))), (17, .ret (.int .i64 (startF (hl l) (BefJ l bl E) fr q i y)))] [(7, .int .i64 (startF (hl l) (BefJ l bl E) fr q i x - startF (hl l) (BefJ l bl E) fr q i y))] (by kernel_rfl) mixed (by kernel_rfl) ((Below.refl _ _).drew)
    (obsC (fun u hu => rangeKeep (intR C8.out) hu) (obsC (fun u hu => rangeKeep (intR C6.out) hu) (obsC (fun u hu => rangeKeep (intR C10.out) hu) obsN))) ⟨rfl, rfl, rfl, trivial⟩ ?_
  conv => whnf
  refine And.intro (under_of fun u hu => ret_in (HST.out u hu x) hu) ?_
  conv => whnf
  refine And.intro (under_of fun u hu => ret_in (HST.out u hu y) hu) ?_
  conv => whnf
  refine And.intro (under_of (by have := s1.a; have := s1.b; have := s2.a; have := s2.b; omega)) ?_
  conv => whnf
  intro f1
  conv => whnf
  refine And.intro rfl ?_
  conv => whnf
  intro w2 h2
  have HB := Lib.hid h2
  clear h2 HST
  go_wp2_with fail
  go_ret
  exact ⟨rfl, HB.out⟩
theorem enter_greedyC : ∀ args w, (callFunc 27 args).run Tryz.prog w = .ok (.enter 27 args) w := enters_of Tryz.func27 (by kernel_rfl) rfl
end Go.Proofs.YtfpnjbomlmhlpaaGreat
