/- Contracts: comes and Edges of the reference of need. -/
import Derived.Test.YtfpnjbomlmhlpaaGreatPk19
import Derived.Test.YtfpnjbomlmhlpaaGreatPk07
import Derived.Test.YtfpnjbomlmhlpaaGreatPk13
set_option linter.unusedSimpArgs false
set_option linter.unusedVariables false

/- The reference's structure: seams, contents (printed by wip/gen_gmv.py). -/
namespace Go.Proofs.YtfpnjbomlmhlpaaGreat
open Go.RowKit

theorem alloc_part (w : World) : (Instr.alloc 123 true (.tuple #[])).run Tryz.prog w = .ok (.pointer (some ⟨w.heap.size, 0, none⟩)) (w.alloc (.cells #[.string ⟨#[]⟩, .int .i64 0, .int .i64 0, .string ⟨#[]⟩, .string ⟨#[]⟩, .int .i64 0, .slice none 0 0, .slice none 0 0, .string ⟨#[]⟩, .int .i64 0, .int .i64 0, .int .i64 0, .int .i64 0, .int .i64 0, .int .i64 0, .int .i64 0, .int .i64 0, .int .i64 0] 123)) := by go_simp
/-- a part that is looked for: its cells, whether it is there, and the call in later worlds -/
theorem part_call (D : Des) (ps : List Prt) (nid : List UInt8) (w : World) (hp : SPr w (.slice D.p.a D.p.n D.p.c) ps) (ho : ∀ x ∈ ps, PrtOK w x) (hl : ps.length ≤ 100000) :
    ∃ (yi : List UInt8) (rev kd : Int) (nd gr : List UInt8) (th : Int) (oa : Option Addr) (on oc : Nat) (ha : Option Addr) (hn hc : Nat) (sct : List UInt8) (ln2 ms cx cy cz ax ay az tn : Int) (bz : Bool), ∀ u, Below w.heap.size w u → Calls Tryz.prog 59 #[.agg (desA D), .string (bs nid)] u (Ret u (.tuple #[.agg #[.string (bs yi), .int .i64 rev, .int .i64 kd, .string (bs nd), .string (bs gr), .int .i64 th, .slice oa on oc, .slice ha hn hc, .string (bs sct), .int .i64 ln2, .int .i64 ms, .int .i64 cx, .int .i64 cy, .int .i64 cz, .int .i64 ax, .int .i64 ay, .int .i64 az, .int .i64 tn], .bool bz])) := by
  obtain ⟨oa, on, oc, e1, ha, hn, hc, e2⟩ := part_slices ho nid
  obtain ⟨y, hy⟩ : ∃ y, (prFind ps nid).getD default = y := ⟨_, rfl⟩
  obtain ⟨bz, hbz⟩ : ∃ b, (prFind ps nid).isSome = b := ⟨_, rfl⟩
  rw [hy] at e1 e2
  obtain ⟨yi, rev, kd, nd, gr, th, ov, hv, sct, ln2, ms, cx, cy, cz, ax, ay, az, tn, outer, holes, hvs⟩ := y
  dsimp only at e1 e2
  subst e1 e2
  refine ⟨yi, rev, kd, nd, gr, th, oa, on, oc, ha, hn, hc, sct, ln2, ms, cx, cy, cz, ax, ay, az, tn, bz, fun u hu => ?_⟩
  have h := rPart_any D ps nid u (hp.keep hu) (fun x hx => (ho x hx).keep hu) hl
  unfold partV at h
  rw [hy, hbz] at h
  exact h
theorem one_part (yi : List UInt8) (rev kd : Int) (nd gr : List UInt8) (th : Int) (oa : Option Addr) (on oc : Nat) (ha : Option Addr) (hn hc : Nat) (sct : List UInt8) (ln2 ms cx cy cz ax ay az tn : Int) : (#[.string (bs yi), .int .i64 rev, .int .i64 kd, .string (bs nd), .string (bs gr), .int .i64 th, .slice oa on oc, .slice ha hn hc, .string (bs sct), .int .i64 ln2, .int .i64 ms, .int .i64 cx, .int .i64 cy, .int .i64 cz, .int .i64 ax, .int .i64 ay, .int .i64 az, .int .i64 tn] : Array Value).all (·.oneCell') = true := by simp [Value.oneCell']
theorem pk_range5 {w : World} {b off : Nat} {x : Pkg} (h : PkAt w b off x) : w.rangeAt b off (pkCells x) := pk_range h

set_option maxRecDepth 100000 in
set_option maxHeartbeats 1600000 in
theorem rseams_any (D : Des) (ns : List Nod) (es : List Nd) (ps : List Prt) (ss : List Sea) (ks : List Pkg) (w : World) (h : DesX w D ns es ps ss ks) (hpl : ps.length ≤ 100000) (hs : ∀ x ∈ ss, x.id.length ≤ 1100000 ∧ x.a.length ≤ 1100000 ∧ x.b.length ≤ 1100000) :
    Calls Tryz.prog 19 #[.agg (desA D)] w (RetN w) := by
  have HSZ := Lib.hid hs
  clear hs
  have en := h.n.n
  have ep := h.p.n
  have es' := h.s.n
  have ek := h.k.n
  have ee := h.e.n
  have HX := Lib.hid h
  clear h
  obtain ⟨hull, ⟨na, nn, nc⟩, ⟨pa, pn, pc⟩, ⟨sa, sn, sc⟩, ⟨ka, kn, kc⟩, ⟨ea, en2, ec⟩⟩ := D
  dsimp only at en ep es' ek ee
  obtain rfl : nn = ns.length := en
  obtain rfl : pn = ps.length := ep
  obtain rfl : sn = ss.length := es'
  obtain rfl : kn = ks.length := ek
  obtain rfl : en2 = es.length := ee
  have H3 := Lib.hid (fun i (hi : i < ss.length) => HX.out.s.at hi)
  have hpm := HX.out.s.len
  unfold maxLen at hpm
  show Calls Tryz.prog 19 #[.agg #[.string (bs hull), .slice na ns.length nc, .slice pa ps.length pc, .slice sa ss.length sc, .slice ka ks.length kc, .slice ea es.length ec]] w _
  obtain ⟨W1, HO1, HB1, HW⟩ := one_box w #[.string (bs hull), .slice na ns.length nc, .slice pa ps.length pc, .slice sa ss.length sc, .slice ka ks.length kc, .slice ea es.length ec] 28
  go_enter Tryz.func19, Tryz.ntmps19
  go_upto_region 1 with fail
  rw [HW.out]
  clear HW
  go_wp2_with fail
  go_loopw [3] (fun i wr => ∃ k : Nat, k ≤ ss.length ∧ i = .int .i64 k ∧ Hid (Below W1.heap.size W1 wr)) (fun i _ => ss.length - (intOf i).toNat)
  case atStart => exact ⟨0, Nat.zero_le _, rfl, Below.refl _ _⟩
  case round =>
    obtain ⟨wrA, hwr⟩ : ∃ u, u = wr := ⟨_, rfl⟩
    subst hwr
    obtain ⟨k, hk, rfl, hb⟩ := hrel
    have HBW := Lib.hid (ext_trans HB1.out hb.out)
    have HOR := Lib.hid (HO1.out.keep hb.out)
    have c3 := HOR.out.cell 3
    dsimp at c3
    by_cases hlt : k < ss.length
    · obtain ⟨b, off, ha, hc⟩ := H3.out k hlt
      obtain rfl : sa = some ⟨b, off, none⟩ := ha
      have hc := hc.keep HBW.out
      have HSK := Lib.hid (HSZ.out _ (smi_mem hlt))
      obtain ⟨⟨xi, xa, xb, xk, xl, xc⟩, hx⟩ : ∃ y, smi ss k = y := ⟨_, rfl⟩
      rw [hx] at hc HSK
      obtain ⟨e0, e1, e2, e3, e4, e5⟩ := hc
      dsimp only at e0 e1 e2 e3 e4 e5
      have HCS : Hid (wrA.rangeAt b (off + k * 6) [.string (bs xi), .string (bs xa), .string (bs xb)]) := fun j v hv => by
        match j, hv with
        | 0, hv => cases hv; exact e0
        | 1, hv => cases hv; exact e1
        | 2, hv => cases hv; exact e2
      have i1 : (k : Int) < ss.length := by omega
      clear hx
      go_upto_region 4 with fail
      go_wp2_with fail
      refine (rSeam_any ⟨xi, xa, xb, xk, xl, xc⟩ wrA HSK.out.1 HSK.out.2.1 HSK.out.2.2).mono ?_
      rintro e w2 ⟨y, rfl, h2⟩
      have HB2 := Lib.hid (ext_trans hb.out h2)
      have HBW2 := Lib.hid (ext_trans HBW.out h2)
      have HO2 := Lib.hid (HOR.out.keep h2)
      have HC2 := Lib.hid (rangeKeep HCS.out h2)
      clear h2 hb HBW HOR HCS e0 e1 e2 e3 e4 e5 c3
      by_cases hy : y = 0
      rotate_left
      · go_wp2_with fail
        go_ret
        exact ⟨_, rfl, HBW2.out⟩
      subst hy
      obtain ⟨yi1, rev1, kd1, nd1, gr1, th1, oa1, on1, oc1, ha1, hn1, hc1, sct1, ln21, ms1, cx1, cy1, cz1, ax1, ay1, az1, tn1, bz1, hcall1⟩ := part_call ⟨hull, ⟨na, ns.length, nc⟩, ⟨pa, ps.length, pc⟩, ⟨some ⟨b, off, none⟩, ss.length, sc⟩, ⟨ka, ks.length, kc⟩, ⟨ea, es.length, ec⟩⟩ ps xa w2 (HX.out.p.keep HBW2.out) (fun x hx => (HX.out.po x hx).keep HBW2.out) hpl
      obtain ⟨yi2, rev2, kd2, nd2, gr2, th2, oa2, on2, oc2, ha2, hn2, hc2, sct2, ln22, ms2, cx2, cy2, cz2, ax2, ay2, az2, tn2, bz2, hcall2⟩ := part_call ⟨hull, ⟨na, ns.length, nc⟩, ⟨pa, ps.length, pc⟩, ⟨some ⟨b, off, none⟩, ss.length, sc⟩, ⟨ka, ks.length, kc⟩, ⟨ea, es.length, ec⟩⟩ ps xb w2 (HX.out.p.keep HBW2.out) (fun x hx => (HX.out.po x hx).keep HBW2.out) hpl
      have HC1 := Lib.hid hcall1
      have HC9 := Lib.hid hcall2
      clear hcall1 hcall2
      go_upto_region 7 with fail
      refine wp_region_nw gmT gmT_ok [⟨w.heap.size, 0, [.string (bs hull), .slice na ns.length nc, .slice pa ps.length pc, .slice (some ⟨b, off, none⟩) ss.length sc, .slice ka ks.length kc, .slice ea es.length ec]⟩, ⟨b, off + k * 6, [.string (bs xi), .string (bs xa), .string (bs xb)]⟩] [(1, 0)] [(30, .ix k 1), (33, .ret (.tuple #[.agg #[.string (bs yi1), .int .i64 rev1, .int .i64 kd1, .string (bs nd1), .string (bs gr1), .int .i64 th1, .slice oa1 on1 oc1, .slice ha1 hn1 hc1, .string (bs sct1), .int .i64 ln21, .int .i64 ms1, .int .i64 cx1, .int .i64 cy1, .int .i64 cz1, .int .i64 ax1, .int .i64 ay1, .int .i64 az1, .int .i64 tn1], .bool bz1]))] [(6, .bool bz1)] [⟨11, 12, 5, 34, 123, #[.string ⟨#[]⟩, .int .i64 0, .int .i64 0, .string ⟨#[]⟩, .string ⟨#[]⟩, .int .i64 0, .slice none 0 0, .slice none 0 0, .string ⟨#[]⟩, .int .i64 0, .int .i64 0, .int .i64 0, .int .i64 0, .int .i64 0, .int .i64 0, .int .i64 0, .int .i64 0, .int .i64 0], #[.string (bs yi1), .int .i64 rev1, .int .i64 kd1, .string (bs nd1), .string (bs gr1), .int .i64 th1, .slice oa1 on1 oc1, .slice ha1 hn1 hc1, .string (bs sct1), .int .i64 ln21, .int .i64 ms1, .int .i64 cx1, .int .i64 cy1, .int .i64 cz1, .int .i64 ax1, .int .i64 ay1, .int .i64 az1, .int .i64 tn1]⟩]
        (by kernel_rfl) mixed (by kernel_rfl) (by show ([11, 12] : List Nat).Nodup; decide) ?_ (obsC (fun u hu => rangeKeep (range_new HO2.out) hu) (obsC (fun u hu => rangeKeep (HC2.out) hu) obsN)) ⟨rfl, trivial⟩ ?_
      · exact List.forall_mem_cons.2 ⟨⟨⟨_, rfl, rfl, rfl⟩, ⟨_, rfl, rfl, rfl, ⟨11, .data⟩, by simp, rfl, rfl⟩, alloc_part, by kernel_rfl, rfl, one_part _ _ _ _ _ _ _ _ _ _ _ _ _ _ _ _ _ _ _ _ _ _⟩, fun p hp => by cases hp⟩
      conv => whnf
      refine And.intro (Nat.le_of_ble_eq_true rfl) ?_
      conv => whnf
      refine And.intro (under_of ⟨rfl, hlt, rfl, rfl⟩) ?_
      conv => whnf
      refine And.intro (under_of fun u hu => HC1.out u hu) ?_
      conv => whnf
      refine And.intro ⟨rfl, trivial⟩ ?_
      intro f2
      conv => whnf
      refine And.intro rfl ?_
      conv => whnf
      intro w3 h3 hnw3
      obtain ⟨b5, e5, g5, o5⟩ := hnw3 _ (.head _)
      dsimp only at e5
      rw [e5]
      clear hnw3 e5
      have HB3 := Lib.hid (ext_trans HB2.out h3)
      have HBW3 := Lib.hid (ext_trans HBW2.out h3)
      have HO3 := Lib.hid (HO2.out.keep h3)
      have HC3 := Lib.hid (rangeKeep HC2.out h3)
      have HH3 := Lib.hid h3
      clear h3 HB2 HBW2 HO2 HC2 o5 HC1
      go_upto_region 8 with fail
      refine wp_region_nw gmT gmT_ok [⟨w.heap.size, 0, [.string (bs hull), .slice na ns.length nc, .slice pa ps.length pc, .slice (some ⟨b, off, none⟩) ss.length sc, .slice ka ks.length kc, .slice ea es.length ec]⟩, ⟨b, off + k * 6, [.string (bs xi), .string (bs xa), .string (bs xb)]⟩] [(1, 0)] [(41, .ix k 1), (44, .ret (.tuple #[.agg #[.string (bs yi2), .int .i64 rev2, .int .i64 kd2, .string (bs nd2), .string (bs gr2), .int .i64 th2, .slice oa2 on2 oc2, .slice ha2 hn2 hc2, .string (bs sct2), .int .i64 ln22, .int .i64 ms2, .int .i64 cx2, .int .i64 cy2, .int .i64 cz2, .int .i64 ax2, .int .i64 ay2, .int .i64 az2, .int .i64 tn2], .bool bz2]))] [(8, .bool bz2)] [⟨11, 12, 7, 45, 123, #[.string ⟨#[]⟩, .int .i64 0, .int .i64 0, .string ⟨#[]⟩, .string ⟨#[]⟩, .int .i64 0, .slice none 0 0, .slice none 0 0, .string ⟨#[]⟩, .int .i64 0, .int .i64 0, .int .i64 0, .int .i64 0, .int .i64 0, .int .i64 0, .int .i64 0, .int .i64 0, .int .i64 0], #[.string (bs yi2), .int .i64 rev2, .int .i64 kd2, .string (bs nd2), .string (bs gr2), .int .i64 th2, .slice oa2 on2 oc2, .slice ha2 hn2 hc2, .string (bs sct2), .int .i64 ln22, .int .i64 ms2, .int .i64 cx2, .int .i64 cy2, .int .i64 cz2, .int .i64 ax2, .int .i64 ay2, .int .i64 az2, .int .i64 tn2]⟩]
        (by kernel_rfl) mixed (by kernel_rfl) (by show ([11, 12] : List Nat).Nodup; decide) ?_ (obsC (fun u hu => rangeKeep (range_new HO3.out) hu) (obsC (fun u hu => rangeKeep (HC3.out) hu) obsN)) ⟨rfl, trivial⟩ ?_
      · exact List.forall_mem_cons.2 ⟨⟨⟨_, rfl, rfl, rfl⟩, ⟨_, rfl, rfl, rfl, ⟨11, .data⟩, by simp, rfl, rfl⟩, alloc_part, by kernel_rfl, rfl, one_part _ _ _ _ _ _ _ _ _ _ _ _ _ _ _ _ _ _ _ _ _ _⟩, fun p hp => by cases hp⟩
      conv => whnf
      refine And.intro (Nat.le_of_ble_eq_true rfl) ?_
      conv => whnf
      refine And.intro (under_of ⟨rfl, hlt, rfl, rfl⟩) ?_
      conv => whnf
      refine And.intro (under_of fun u hu => HC9.out u (ext_trans HH3.out hu)) ?_
      conv => whnf
      refine And.intro ⟨rfl, trivial⟩ ?_
      intro f3
      conv => whnf
      refine And.intro rfl ?_
      conv => whnf
      intro w4 h4 hnw4
      obtain ⟨b7, e7, g7, o7⟩ := hnw4 _ (.head _)
      dsimp only at e7
      rw [e7]
      clear hnw4 e7
      have HB4 := Lib.hid (ext_trans HB3.out h4)
      have HBW4 := Lib.hid (ext_trans HBW3.out h4)
      clear h4 HB3 HBW3 HO3 HC3 o7 HC9
      cases bz1
      · go_wp2_with fail
        go_ret
        exact ⟨_, rfl, HBW4.out⟩
      cases bz2
      · go_wp2_with fail
        go_ret
        exact ⟨_, rfl, HBW4.out⟩
      go_wp2_with fail
      go_roundw
      case rel => exact ⟨k + 1, by omega, by go_num, HB4⟩
      case measure => simp [intOf]; omega
    have i1 : ¬ (k : Int) < ss.length := by omega
    go_wp2_with fail
    go_ret
    exact ⟨_, rfl, HBW.out⟩

end Go.Proofs.YtfpnjbomlmhlpaaGreat

/- The reference's structure: contents (printed by wip/gen_gmw.py). -/
namespace Go.Proofs.YtfpnjbomlmhlpaaGreat
open Go.RowKit

theorem pack_forms {w : World} {x : Pkg} (h : PkgOK w x) : ∃ pa pc, x.pv = .slice pa x.parts.length pc ∧ ∃ aa ac, x.av = .slice aa x.aft.length ac := by
  obtain ⟨a, c, e, _⟩ := h.p
  obtain ⟨a', c', e', _⟩ := h.a
  rw [List.length_map] at e e'
  exact ⟨_, _, e, _, _, e'⟩
set_option maxRecDepth 100000 in
set_option maxHeartbeats 1600000 in
theorem rcontents_any (D : Des) (ns : List Nod) (es : List Nd) (ps : List Prt) (ss : List Sea) (ks : List Pkg) (kk : Nat) (w : World) (h : DesX w D ns es ps ss ks) (hl : ns.length ≤ 100000) (hpl : ps.length ≤ 100000) (hkl : ks.length ≤ 100000) (hkk : kk < ks.length) :
    Calls Tryz.prog 61 #[.agg (desA D), .int .i64 kk] w (RetN w) := by
  have en := h.n.n
  have ep := h.p.n
  have es' := h.s.n
  have ek := h.k.n
  have ee := h.e.n
  have HX := Lib.hid h
  clear h
  obtain ⟨hull, ⟨na, nn, nc⟩, ⟨pa, pn, pc⟩, ⟨sa, sn, sc⟩, ⟨ka, kn, kc⟩, ⟨ea, en2, ec⟩⟩ := D
  dsimp only at en ep es' ek ee
  obtain rfl : nn = ns.length := en
  obtain rfl : pn = ps.length := ep
  obtain rfl : sn = ss.length := es'
  obtain rfl : kn = ks.length := ek
  obtain rfl : en2 = es.length := ee
  have H3 := Lib.hid (fun i (hi : i < ks.length) => HX.out.k.at hi)
  show Calls Tryz.prog 61 #[.agg #[.string (bs hull), .slice na ns.length nc, .slice pa ps.length pc, .slice sa ss.length sc, .slice ka ks.length kc, .slice ea es.length ec], .int .i64 kk] w _
  obtain ⟨W1, HO1, HB1, HW⟩ := one_box w #[.string (bs hull), .slice na ns.length nc, .slice pa ps.length pc, .slice sa ss.length sc, .slice ka ks.length kc, .slice ea es.length ec] 28
  obtain ⟨b, off, ha, hc⟩ := H3.out kk hkk
  obtain rfl : ka = some ⟨b, off, none⟩ := ha
  have hc := hc.keep HB1.out
  have hko := HX.out.ko _ (pki_mem hkk)
  obtain ⟨⟨ki, kb, kpv, kh, kav, kp, kf⟩, hx⟩ : ∃ y, pki ks kk = y := ⟨_, rfl⟩
  rw [hx] at hc hko
  obtain ⟨ka2, kc2, e1, kd2, ke2, e2⟩ := pack_forms hko
  have hkp := hko.p
  dsimp only at e1 e2 hkp
  subst e1 e2
  obtain ⟨_, _, e9, hpm, hps⟩ := SZ.form hkp
  cases e9
  have HPS := Lib.hid hps
  obtain ⟨q0, q1, q2, q3, q4⟩ := hc
  dsimp only at q0 q1 q2 q3 q4
  have i1 : (kk : Int) < ks.length := by omega
  clear hx hko hkp hps
  obtain ⟨W2, HK2, HB12, HW2⟩ := one_box W1 #[.string (bs ki), .string (bs kb), .slice ka2 kp.length kc2, .int .i64 kh, .slice kd2 kf.length ke2] 54
  obtain ⟨bx, hbx⟩ : ∃ n, W1.heap.size = n := ⟨_, rfl⟩
  have HBX := Lib.hid hbx
  have d4 := HO1.out.cell 4
  dsimp at d4
  go_enter Tryz.func61, Tryz.ntmps61
  go_upto_region 1 with fail
  rw [HW.out]
  clear HW
  go_upto_region 2 with fail
  rw [HW2.out]
  rw [HBX.out] at HK2
  clear HW2 q0 q1 q2 q3 q4 i1 d4 hbx HBX
  have HB2 := Lib.hid (ext_trans HB1.out HB12.out)
  have HO2 := Lib.hid (HO1.out.keep HB12.out)
  clear HB12 HO1
  go_wp2_with fail
  go_loopw [6] (fun i wr => ∃ k : Nat, k ≤ kp.length ∧ i = .int .i64 k ∧ Hid (Below W2.heap.size W2 wr)) (fun i _ => kp.length - (intOf i).toNat)
  case atStart => exact ⟨0, Nat.zero_le _, rfl, Below.refl _ _⟩
  case round =>
    obtain ⟨wrA, hwr⟩ : ∃ u, u = wr := ⟨_, rfl⟩
    subst hwr
    obtain ⟨k, hk, rfl, hb⟩ := hrel
    have HBW := Lib.hid (ext_trans HB2.out hb.out)
    have HOR := Lib.hid (HO2.out.keep hb.out)
    have HKR := Lib.hid (HK2.out.keep hb.out)
    have c2 := HKR.out.cell 2
    dsimp at c2
    by_cases hlt : k < kp.length
    · obtain ⟨b3, off3, e3, t, hct⟩ := HPS.out k hlt
      have HCT : Hid (wrA.rangeAt b3 (off3 + k) [.string (bs t)]) := rangeKeep (intR hct) HBW.out
      subst e3
      have i1 : (k : Int) < kp.length := by omega
      obtain ⟨yi1, rev1, kd1, nd1, gr1, th1, oa1, on1, oc1, ha1, hn1, hc1, sct1, ln21, ms1, cx1, cy1, cz1, ax1, ay1, az1, tn1, bz1, hcall1⟩ := part_call ⟨hull, ⟨na, ns.length, nc⟩, ⟨pa, ps.length, pc⟩, ⟨sa, ss.length, sc⟩, ⟨some ⟨b, off, none⟩, ks.length, kc⟩, ⟨ea, es.length, ec⟩⟩ ps t wrA (HX.out.p.keep HBW.out) (fun x hx => (HX.out.po x hx).keep HBW.out) hpl
      have HC1 := Lib.hid hcall1
      clear hcall1 hct
      go_upto_region 5 with fail
      clear c2
      refine wp_region_nw gmT gmT_ok [⟨w.heap.size, 0, [.string (bs hull), .slice na ns.length nc, .slice pa ps.length pc, .slice sa ss.length sc, .slice (some ⟨b, off, none⟩) ks.length kc, .slice ea es.length ec]⟩, ⟨bx, 0, [.string (bs ki), .string (bs kb), .slice (some ⟨b3, off3, none⟩) kp.length kc2, .int .i64 kh, .slice kd2 kf.length ke2]⟩, ⟨b3, off3 + k, [.string (bs t)]⟩] [(2, 0), (5, 1)] [(29, .ix k 2), (31, .ret (.tuple #[.agg #[.string (bs yi1), .int .i64 rev1, .int .i64 kd1, .string (bs nd1), .string (bs gr1), .int .i64 th1, .slice oa1 on1 oc1, .slice ha1 hn1 hc1, .string (bs sct1), .int .i64 ln21, .int .i64 ms1, .int .i64 cx1, .int .i64 cy1, .int .i64 cz1, .int .i64 ax1, .int .i64 ay1, .int .i64 az1, .int .i64 tn1], .bool bz1]))] [(8, .bool bz1)] [⟨10, 11, 7, 32, 123, #[.string ⟨#[]⟩, .int .i64 0, .int .i64 0, .string ⟨#[]⟩, .string ⟨#[]⟩, .int .i64 0, .slice none 0 0, .slice none 0 0, .string ⟨#[]⟩, .int .i64 0, .int .i64 0, .int .i64 0, .int .i64 0, .int .i64 0, .int .i64 0, .int .i64 0, .int .i64 0, .int .i64 0], #[.string (bs yi1), .int .i64 rev1, .int .i64 kd1, .string (bs nd1), .string (bs gr1), .int .i64 th1, .slice oa1 on1 oc1, .slice ha1 hn1 hc1, .string (bs sct1), .int .i64 ln21, .int .i64 ms1, .int .i64 cx1, .int .i64 cy1, .int .i64 cz1, .int .i64 ax1, .int .i64 ay1, .int .i64 az1, .int .i64 tn1]⟩]
        (by kernel_rfl) mixed (by kernel_rfl) (by show ([10, 11] : List Nat).Nodup; decide) ?_ (obsC (fun u hu => rangeKeep (range_new HOR.out) hu) (obsC (fun u hu => rangeKeep (range_new HKR.out) hu) (obsC (fun u hu => rangeKeep (HCT.out) hu) obsN))) ⟨rfl, rfl, trivial⟩ ?_
      · exact List.forall_mem_cons.2 ⟨⟨⟨_, rfl, rfl, rfl⟩, ⟨_, rfl, rfl, rfl, ⟨10, .data⟩, by simp, rfl, rfl⟩, alloc_part, by kernel_rfl, rfl, one_part _ _ _ _ _ _ _ _ _ _ _ _ _ _ _ _ _ _ _ _ _ _⟩, fun p hp => by cases hp⟩
      conv => whnf
      refine And.intro (Nat.le_of_ble_eq_true rfl) ?_
      conv => whnf
      refine And.intro (under_of ⟨rfl, hlt, rfl, by show off3 + k = off3 + k * 1; omega⟩) ?_
      conv => whnf
      refine And.intro (under_of fun u hu => HC1.out u hu) ?_
      conv => whnf
      refine And.intro ⟨rfl, trivial⟩ ?_
      intro f2
      conv => whnf
      refine And.intro rfl ?_
      conv => whnf
      intro w3 h3 hnw3
      obtain ⟨b7, e7, g7, o7⟩ := hnw3 _ (.head _)
      dsimp only at e7
      rw [e7]
      clear hnw3 e7
      have HB3 := Lib.hid (ext_trans hb.out h3)
      have HBW3 := Lib.hid (ext_trans HBW.out h3)
      have HO3 := Lib.hid (HOR.out.keep h3)
      have HK3 := Lib.hid (HKR.out.keep h3)
      have HP3 := Lib.hid o7
      clear h3 hb HBW HOR HKR HCT HC1 o7
      cases bz1
      · go_wp2_with fail
        go_ret
        exact ⟨_, rfl, HBW3.out⟩
      go_upto_region 8 with fail
      refine wp_region_et gmT gmT_ok [⟨b7, 0, [.string (bs yi1), .int .i64 rev1, .int .i64 kd1]⟩] (Below w3.heap.size w3) [(7, 0)] [] [(43, .bool ((kd1 != 4) && (kd1 != 3)))] (by kernel_rfl) (Below.refl _ _)
        (obsC (fun u hu => rangeKeep (range_take 3 (range_new HP3.out)) hu) obsN) ⟨rfl, trivial⟩ ?_
      conv => whnf
      intro f3
      conv => whnf
      refine And.intro (rfl) ?_
      conv => whnf
      intro w4 h4
      have HB4 := Lib.hid (ext_trans HB3.out h4)
      have HBW4 := Lib.hid (ext_trans HBW3.out h4)
      have HO4 := Lib.hid (HO3.out.keep h4)
      have HK4 := Lib.hid (HK3.out.keep h4)
      have HP4 := Lib.hid (HP3.out.keep h4)
      clear h4 HB3 HBW3 HO3 HK3 HP3
      obtain ⟨z, hz⟩ : ∃ p, ((kd1 != 4) && (kd1 != 3)) = p := ⟨_, rfl⟩
      rw [hz]
      clear hz
      cases z
      rotate_left
      · go_wp2_with fail
        go_ret
        exact ⟨_, rfl, HBW4.out⟩
      have d0 := HO4.out.cell 0
      have d1 := HO4.out.cell 1
      have d2 := HO4.out.cell 2
      have d3 := HO4.out.cell 3
      have d4 := HO4.out.cell 4
      have d5 := HO4.out.cell 5
      have p0 := HP4.out.cell 0
      dsimp at d0 d1 d2 d3 d4 d5 p0
      go_wp2_with fail
      refine (rBlock_any ⟨hull, ⟨na, ns.length, nc⟩, ⟨pa, ps.length, pc⟩, ⟨sa, ss.length, sc⟩, ⟨some ⟨b, off, none⟩, ks.length, kc⟩, ⟨ea, es.length, ec⟩⟩ ns ps ks yi1 w4 (HX.out.n.keep HBW4.out) hl (HX.out.p.keep HBW4.out) (fun x hx => (HX.out.po x hx).keep HBW4.out) hpl (HX.out.k.keep HBW4.out) (fun x hx => (HX.out.ko x hx).keep HBW4.out) hkl).mono ?_
      rintro e w5 ⟨s5, z5, rfl, h5⟩
      have HB5 := Lib.hid (ext_trans HB4.out h5)
      have HBW5 := Lib.hid (ext_trans HBW4.out h5)
      have HO5 := Lib.hid (HO4.out.keep h5)
      have HK5 := Lib.hid (HK4.out.keep h5)
      have HP5 := Lib.hid (HP4.out.keep h5)
      clear h5 HB4 HBW4 HO4 HK4 HP4 d0 d1 d2 d3 d4 d5 p0
      go_upto_region 11 with fail
      refine wp_region_et gmT gmT_ok [⟨bx, 0, [.string (bs ki), .string (bs kb), .slice (some ⟨b3, off3, none⟩) kp.length kc2, .int .i64 kh, .slice kd2 kf.length ke2]⟩] (Below w5.heap.size w5) [(5, 0)] [] [(54, .bool (!((bs s5).toList == (bs kb).toList)))] (by kernel_rfl) (Below.refl _ _)
        (obsC (fun u hu => rangeKeep (range_new HK5.out) hu) obsN) ⟨rfl, trivial⟩ ?_
      conv => whnf
      intro f4
      conv => whnf
      refine And.intro (rfl) ?_
      conv => whnf
      intro w6 h6
      have HB6 := Lib.hid (ext_trans HB5.out h6)
      have HBW6 := Lib.hid (ext_trans HBW5.out h6)
      have HO6 := Lib.hid (HO5.out.keep h6)
      have HP6 := Lib.hid (HP5.out.keep h6)
      clear h6 HB5 HBW5 HO5 HK5 HP5
      obtain ⟨z, hz⟩ : ∃ p, (!((bs s5).toList == (bs kb).toList)) = p := ⟨_, rfl⟩
      rw [hz]
      clear hz
      cases z
      rotate_left
      · go_wp2_with fail
        go_ret
        exact ⟨_, rfl, HBW6.out⟩
      go_wp2_with fail
      go_loopw [11] (fun i wr => ∃ m : Nat, m ≤ kk ∧ i = .int .i64 m ∧ Hid (Below w6.heap.size w6 wr)) (fun i _ => kk - (intOf i).toNat)
      case atStart => exact ⟨0, Nat.zero_le _, rfl, Below.refl _ _⟩
      case round =>
        obtain ⟨wrB, hwr⟩ : ∃ u, u = wr := ⟨_, rfl⟩
        subst hwr
        obtain ⟨m, hm, rfl, hb⟩ := hrel
        have HBB := Lib.hid (ext_trans HB6.out hb.out)
        have HBWB := Lib.hid (ext_trans HBW6.out hb.out)
        have HOB := Lib.hid (HO6.out.keep hb.out)
        have HPB := Lib.hid (HP6.out.keep hb.out)
        by_cases hmk : m < kk
        · have i2 : (m : Int) < kk := by omega
          have hmlt : m < ks.length := by omega
          obtain ⟨b8, off8, ha, hc⟩ := H3.out m hmlt
          have ha := Option.some.inj ha
          simp only [Addr.mk.injEq] at ha
          obtain ⟨rfl, rfl, _⟩ := ha
          have hc := hc.keep HBWB.out
          have hko := HX.out.ko _ (pki_mem hmlt)
          obtain ⟨⟨mi, mb, mpv, mh, mav, mp, mf⟩, hx⟩ : ∃ y, pki ks m = y := ⟨_, rfl⟩
          rw [hx] at hc hko
          obtain ⟨ma2, mc2, e1, md2, me2, e2⟩ := pack_forms hko
          have hmp := hko.p
          dsimp only at e1 e2 hmp
          subst e1 e2
          have HMP := Lib.hid hmp
          have HCM : Hid (wrB.rangeAt b (off + m * 5) [.string (bs mi), .string (bs mb), .slice ma2 mp.length mc2]) := range_take 3 (pk_range hc)
          clear hx hko hmp hc
          go_upto_region 16 with fail
          refine wp_region_ev gmT gmT_ok [⟨w.heap.size, 0, [.string (bs hull), .slice na ns.length nc, .slice pa ps.length pc, .slice sa ss.length sc, .slice (some ⟨b, off, none⟩) ks.length kc, .slice ea es.length ec]⟩, ⟨b, off + m * 5, [.string (bs mi), .string (bs mb), .slice ma2 mp.length mc2]⟩, ⟨b7, 0, [.string (bs yi1), .int .i64 rev1, .int .i64 kd1]⟩] (Below wrB.heap.size wrB) [(2, 0), (7, 2)] [(63, .ix m 1), (68, .ret (.bool (hasS mp yi1)))] [(68, .bool (hasS mp yi1))] (by kernel_rfl) mixed (by kernel_rfl) ((Below.refl _ _).drew)
            (obsC (fun u hu => rangeKeep (range_new HOB.out) hu) (obsC (fun u hu => rangeKeep (HCM.out) hu) (obsC (fun u hu => rangeKeep (range_take 3 (range_new HPB.out)) hu) obsN))) ⟨rfl, rfl, trivial⟩ ?_
          conv => whnf
          refine And.intro (under_of ⟨rfl, hmlt, rfl, rfl⟩) ?_
          conv => whnf
          refine And.intro (under_of fun u hu => ret_in (rHas_any _ mp yi1 u (HMP.out.keep (ext_trans HBWB.out hu))) hu) ?_
          conv => whnf
          intro f5
          conv => whnf
          refine And.intro (rfl) ?_
          conv => whnf
          intro w7 h7
          have HB7 := Lib.hid (ext_trans hb.out h7)
          have HBW7 := Lib.hid (ext_trans HBWB.out h7)
          clear h7
          obtain ⟨z, hz⟩ : ∃ p, hasS mp yi1 = p := ⟨_, rfl⟩
          rw [hz]
          clear hz
          cases z
          · go_wp2_with fail
            go_roundw
            case rel => exact ⟨m + 1, by omega, by go_num, HB7⟩
            case measure => simp [intOf]; omega
          · go_wp2_with fail
            go_ret
            exact ⟨_, rfl, HBW7.out⟩
        have i2 : ¬ (m : Int) < kk := by omega
        go_wp2_with fail
        go_roundw
        case rel => exact ⟨k + 1, by omega, by go_num, HBB⟩
        case measure => simp [intOf]; omega
    have i1 : ¬ (k : Int) < kp.length := by omega
    go_wp2_with fail
    go_ret
    exact ⟨_, rfl, HBW.out⟩
end Go.Proofs.YtfpnjbomlmhlpaaGreat

/- Contracts: check and Order of the reference of dag. -/
namespace Go.Proofs.YtfpnjbomlmhlpaaGreat
open Go.RowKit

theorem below_drewN {n : Nat} {w w' : World} (h : Below n w w') (m : Nat) : Below n w (w'.drewN m) := ⟨h.os, h.tape, h.output, h.size, h.block⟩
set_option maxRecDepth 100000 in
set_option maxHeartbeats 1000000 in
theorem rcheck_any (n : Nat) (ev : Value) (E : Edg) (w : World) (h : SEg w ev E) (hE : EdgOK n E) (hl : E.length ≤ 1000000) : Calls Tryz.prog 99 #[.int .i64 n, ev] w (Ret w (.int .i64 0)) := by
  obtain ⟨a, cap, rfl, h1, h2, h3⟩ := h
  have H3 := Lib.hid h3; have HE := Lib.hid hE
  clear h3 hE
  have hm : E.length ≤ 9223372036854775807 := by omega
  go_enter Tryz.func99, Tryz.ntmps99
  go_wp2_with fail
  go_loopw [5] (fun i wr => ∃ k : Nat, k ≤ E.length ∧ i = .int .i64 k ∧ Hid (Below w.heap.size w wr)) (fun i _ => E.length - (intOf i).toNat)
  case atStart => exact ⟨0, Nat.zero_le _, rfl, Below.refl _ _⟩
  case round =>
    obtain ⟨k, hk, rfl, hb⟩ := hrel
    by_cases hlt : k < E.length
    · obtain ⟨b, off, rfl, hc⟩ := H3.out k hlt
      obtain ⟨c0, c1⟩ := hc.keep hb.out
      obtain ⟨e1, e2, e3⟩ := HE.out _ (egi_mem hlt)
      generalize egi E k = x at *
      clear hc
      have i1 : (k : Int) < E.length := by omega
      go_upto_region 4 with fail
      go_quiet (fail)
      have d1 : ¬ ((x.1 : Int) < 0) := by omega
      have d2 : ¬ ((n : Int) ≤ x.1) := by omega
      have d3 : ¬ ((x.2 : Int) < 0) := by omega
      have d4 : ¬ ((n : Int) ≤ x.2) := by omega
      have d5 : ((x.1 : Int) == (x.2 : Int)) = false := by rw [beq_eq_false_iff_ne]; omega
      clear c0 c1
      have HB2 : Hid (Below w.heap.size w (wr.drewN nq)) := below_drewN hb.out nq
      go_wp2_with fail
      go_roundw
      case rel => exact ⟨k + 1, by omega, by go_num, HB2⟩
      case measure => simp [intOf]; omega
    · obtain rfl : k = E.length := by omega
      go_wp2_with fail
      go_ret
      exact ⟨rfl, hb.out⟩
def waitB (E : Edg) (T : List Nat) (m v : Nat) : Bool := (E.take m).any fun e => e.2 == v && !T.contains e.1
theorem wait_take {E : Edg} {T : List Nat} {m : Nat} (h : m < E.length) (v : Nat) : waitB E T (m + 1) v = (waitB E T m v || ((egi E m).2 == v && !T.contains (egi E m).1)) := by
  unfold waitB
  rw [take_egi h, List.any_append]
  simp
theorem open_wait (E : Edg) (T : List Nat) (v : Nat) : openV E T v = (!T.contains v && !waitB E T E.length v) := by
  unfold openV waitB
  rw [List.take_length]
  congr 1
  induction E with
  | nil => rfl
  | cons e E ih => simp only [List.all_cons, List.any_cons, ih]; cases (e.2 == v) <;> cases T.contains e.1 <;> simp
/-- what the loops work with -/
structure ROrd (w w' : World) (B g1 n : Nat) (T : List Nat) (o : Value) : Prop where
  t : ObjAt w' g1 (rowA n fun v => .bool (T.contains v)) 4
  o : OwnI w' B o (natI T)
  bw : Below w.heap.size w w'
theorem ROrd.below {w w' w'' : World} {B g1 n : Nat} {T : List Nat} {o : Value} (h : ROrd w w' B g1 n T o) (hb : Below w'.heap.size w' w'') : ROrd w w'' B g1 n T o := ⟨h.t.keep hb, h.o.below hb, ext_trans h.bw hb⟩
/-- another row of flags is written -/
theorem ROrd.flag {w w' : World} {B g1 g2 n : Nat} {T : List Nat} {o : Value} (h : ROrd w w' B g1 n T o) {cs : Array Value} (h2 : ObjAt w' g2 cs 4) (hg : g1 ≠ g2) (hw : w.heap.size ≤ g2) (k : Nat) (x : Value) : ROrd w (w'.setCell ⟨g2, k, none⟩ x) B g1 n T o :=
  ⟨h.t.other hg _ _, h2.rowSet h.o (by decide) _ _, h.bw.setCell (p := ⟨g2, k, none⟩) hw _⟩
/-- the least open node at j or behind it -/
def LeastO (E : Edg) (T : List Nat) (n j : Nat) (z : Int) : Prop := (z = -1 ∧ ∀ u, j ≤ u → u < n → openV E T u = false) ∨ ∃ q : Nat, z = q ∧ j ≤ q ∧ q < n ∧ openV E T q = true ∧ ∀ u, j ≤ u → u < q → openV E T u = false
theorem LeastO.hit {E : Edg} {T : List Nat} {n j : Nat} (hj : j < n) (h : openV E T j = true) : LeastO E T n j (j : Int) := .inr ⟨j, rfl, Nat.le_refl _, hj, h, fun u h1 h2 => by omega⟩
theorem LeastO.miss {E : Edg} {T : List Nat} {n j : Nat} {z : Int} (h : LeastO E T n (j + 1) z) (hj : openV E T j = false) : LeastO E T n j z := by
  rcases h with ⟨h1, h2⟩ | ⟨q, h1, h2, h3, h4, h5⟩
  · exact .inl ⟨h1, fun u h3 h4 => by by_cases e : u = j; · subst e; exact hj
                                      · exact h2 u (by omega) h4⟩
  · exact .inr ⟨q, h1, by omega, h3, h4, fun u h6 h7 => by by_cases e : u = j; · subst e; exact hj
                                                           · exact h5 u (by omega) h7⟩
set_option maxRecDepth 100000 in
set_option maxHeartbeats 2000000 in
theorem rdOrder_any (n : Nat) (ev : Value) (E : Edg) (w : World) (h : SEg w ev E) (hE : EdgOK n E) (hn : n ≤ 256) (hl : E.length ≤ 100000) : Calls Tryz.prog 62 #[.int .i64 n, ev] w fun e w' => ∃ v, e = .returned (.tuple #[v, .int .i64 (if (topo n E n).length = n then 0 else 20)]) ∧ ((topo n E n).length = n → SI w' v (natI (topo n E n))) ∧ Below w.heap.size w w' := by
  have HEN := Lib.hid (rcheck_any n ev E w h hE (by omega))
  obtain ⟨a, cap, rfl, h1, h2, h3⟩ := h
  have H3 := Lib.hid h3; have HE := Lib.hid hE
  clear h3 hE
  have hm : E.length ≤ 9223372036854775807 := by omega
  have mk3 := make_bools n (by omega)
  have d1 : ¬ ((n : Int) < 0) := by omega
  have d2 : ¬ ((256 : Int) < n) := by omega
  go_enter Tryz.func62, Tryz.ntmps62
  go_wp2_with fail
  refine HEN.out.mono ?_
  rintro e w1 ⟨rfl, h1'⟩
  have HB1 := Lib.hid h1'
  clear h1' HEN d1 d2
  obtain ⟨W2, hW2⟩ : ∃ W2, w1.alloc (.cells (rowA n fun _ => .bool false) 4) = W2 := ⟨_, rfl⟩
  have HW1 : Hid (w.heap.size ≤ w1.heap.size) := HB1.out.size
  have HS2 : Hid (w1.heap.size + 1 = W2.heap.size) := by show _ = _; rw [← hW2]; simp
  have HP0 : Hid (ROrd w W2 W2.heap.size w1.heap.size n (topo n E 0) (.slice none 0 0)) := by
    show ROrd ..
    rw [← hW2]
    exact ⟨ObjAt.new _ _ _, World.ownsRow_nil _ _ _ _, HB1.out.alloc HB1.out.size _⟩
  have HW2 := Lib.hid hW2
  clear hW2
  go_upto_region 8 with fail
  rw [HW2.out]
  clear HW2
  generalize hB : W2.heap.size = B at *
  generalize hg1 : w1.heap.size = g1 at *
  clear HB1 hB hg1
  go_wp2_with fail
  go_loopg [7] (n + 1) (fun g o wr => ∃ k : Nat, k ≤ n ∧ g = n + 1 - k ∧ (∃ a c, o = .slice a k c) ∧ Hid ((topo n E k).length = k) ∧ Hid (ROrd w wr B g1 n (topo n E k) o))
  case atStart => exact ⟨0, Nat.zero_le _, by omega, ⟨_, _, rfl⟩, rfl, HP0⟩
  case round =>
    obtain ⟨k, hk, rfl, ⟨oa, oc, rfl⟩, hlen, hp⟩ := hrel
    by_cases hlt : k < n
    · obtain ⟨T, hT⟩ : ∃ T, topo n E k = T := ⟨_, rfl⟩
      have HT := Lib.hid hT
      rw [hT] at hlen hp
      clear hT
      have i0 : (k : Int) < n := by omega
      obtain ⟨W3, hW3⟩ : ∃ W3, wr.alloc (.cells (rowA n fun _ => .bool false) 4) = W3 := ⟨_, rfl⟩
      have hs : g1 < wr.heap.size := hp.out.t.lt
      have HW1' : Hid (w.heap.size ≤ wr.heap.size) := hp.out.bw.size
      have HP3 : Hid (ROrd w W3 B g1 n T (.slice oa k oc)) := by show ROrd ..; rw [← hW3]; exact hp.out.below ((Below.refl _ _).alloc (Nat.le_refl _) _)
      have HG3 : Hid (ObjAt W3 wr.heap.size (rowA n fun v => .bool (waitB E T 0 v)) 4) := by show ObjAt ..; rw [← hW3]; exact ObjAt.new _ _ _
      have HW3 := Lib.hid hW3
      clear hW3 hp
      go_upto_region 10 with fail
      rw [HW3.out]
      clear HW3
      have HS := Lib.hid hs
      generalize wr.heap.size = g2 at *
      clear hs i0
      go_wp2_with fail
      go_loopw [10] (fun i w' => ∃ m : Nat, m ≤ E.length ∧ i = .int .i64 m ∧ Hid (ROrd w w' B g1 n T (.slice oa k oc)) ∧ Hid (ObjAt w' g2 (rowA n fun v => .bool (waitB E T m v)) 4)) (fun i _ => E.length - (intOf i).toNat)
      case atStart => exact ⟨0, Nat.zero_le _, rfl, HP3, HG3⟩
      case round =>
        obtain ⟨m, hm2, rfl, hp, hg⟩ := hrel
        by_cases hlt2 : m < E.length
        · obtain ⟨b, off, rfl, hc⟩ := H3.out m hlt2
          obtain ⟨c0, c1⟩ := hc.keep hp.out.bw
          obtain ⟨e1, e2, e3⟩ := HE.out _ (egi_mem hlt2)
          have HWT := Lib.hid (wait_take (T := T) hlt2)
          generalize egi E m = x at *
          clear hc
          have i1 : (m : Int) < E.length := by omega
          have i2 : (x.1 : Int) < n := by omega
          have i3 : (x.2 : Int) < n := by omega
          have r1 : wr.cell? ⟨g1, x.1, none⟩ = some (.bool (T.contains x.1)) := by rw [hp.out.t.cell]; exact rowA_get e1
          obtain ⟨cv, hcv⟩ : ∃ cv, T.contains x.1 = cv := ⟨_, rfl⟩
          have HCV := Lib.hid hcv
          rw [hcv] at r1 HWT
          clear hcv
          cases cv
          · have r2 : wr.cell? ⟨g2, x.2, none⟩ = some (.bool (waitB E T m x.2)) := by rw [hg.out.cell]; exact rowA_get e2
            have r3 := hg.out.frozen x.2
            obtain ⟨q, hq⟩ : ∃ q, waitB E T m x.2 = q := ⟨_, rfl⟩
            rw [hq] at r2
            clear hq
            have HP4 : Hid (ROrd w (wr.setCell ⟨g2, x.2, none⟩ (.bool true)) B g1 n T (.slice oa k oc)) := hp.out.flag hg.out (by have := HS.out; omega) HW1'.out _ _
            have HG4 : Hid (ObjAt (wr.setCell ⟨g2, x.2, none⟩ (.bool true)) g2 (rowA n fun v => .bool (waitB E T (m + 1) v)) 4) := by
              have := hg.out.set x.2 (.bool true)
              rw [rowA_set] at this
              show ObjAt ..
              rw [rowA_congr (g := fun j => if j = x.2 then .bool true else .bool (waitB E T m j)) fun v hv => by
                rw [HWT.out v]
                by_cases e : v = x.2
                · subst e; rw [if_pos rfl]; simp
                · rw [if_neg e, show (x.2 == v) = false from beq_eq_false_iff_ne.2 (Ne.symm e)]; simp]
              exact this
            go_wp2_with fail
            go_roundw
            case rel => exact ⟨m + 1, by omega, by go_num, HP4, HG4⟩
            case measure => simp [intOf]; omega
          · have HG4 : Hid (ObjAt wr g2 (rowA n fun v => .bool (waitB E T (m + 1) v)) 4) := by
              show ObjAt ..
              rw [rowA_congr (g := fun j => .bool (waitB E T m j)) fun v hv => by rw [HWT.out v]; simp]
              exact hg.out
            go_wp2_with fail
            go_roundw
            case rel => exact ⟨m + 1, by omega, by go_num, hp, HG4⟩
            case measure => simp [intOf]; omega
        · obtain rfl : m = E.length := by omega
          have w4 : IntKind.i64.wrap ((n : Int) - 1) = (n : Int) - 1 := IntWalk.i64_in _ (by omega)
          have i1 : ¬ (E.length : Int) < E.length := by omega
          go_wp2_with fail
          go_loopw [11, 12] (fun z v w' => ∃ (j : Nat) (zz : Int), j ≤ n ∧ v = .int .i64 ((j : Int) - 1) ∧ z = .int .i64 zz ∧ wr = w' ∧ Hid (LeastO E T n j zz)) (fun _ v _ => (intOf v + 1).toNat)
          case atStart => exact ⟨n, -1, Nat.le_refl _, rfl, rfl, rfl, .inl ⟨rfl, fun u h1 h2 => by omega⟩⟩
          case round =>
            obtain ⟨j, zz, hj, rfl, rfl, rfl, hlo⟩ := hrel
            by_cases hlt3 : 0 < j
            · obtain ⟨i, rfl⟩ : ∃ i, j = i + 1 := ⟨j - 1, by omega⟩
              have hi : i < n := by omega
              have ei : ((i + 1 : Nat) : Int) - 1 = (i : Int) := by omega
              rw [ei]
              have i2 : (i : Int) < n := by omega
              have i3 : (0 : Int) ≤ i := by omega
              have w5 : IntKind.i64.wrap ((i : Int) - 1) = (i : Int) - 1 := IntWalk.i64_in _ (by omega)
              have r1 : wr.cell? ⟨g1, i, none⟩ = some (.bool (T.contains i)) := by rw [hp.out.t.cell]; exact rowA_get hi
              have r2 : wr.cell? ⟨g2, i, none⟩ = some (.bool (waitB E T E.length i)) := by rw [hg.out.cell]; exact rowA_get hi
              have HOW := Lib.hid (open_wait E T i)
              obtain ⟨c, hc⟩ : ∃ c, T.contains i = c := ⟨_, rfl⟩
              obtain ⟨d, hd⟩ : ∃ d, waitB E T E.length i = d := ⟨_, rfl⟩
              rw [hc] at r1 HOW
              rw [hd] at r2 HOW
              clear hc hd ei
              cases c
              · cases d
                · have HO : Hid (LeastO E T n i (i : Int)) := LeastO.hit hi HOW.out
                  go_wp2_with fail
                  go_roundw
                  case rel => exact ⟨i, i, by omega, by go_num, by first | rfl | trivial, by first | rfl | trivial, HO⟩
                  case measure => simp [intOf]
                · have HO : Hid (LeastO E T n i zz) := hlo.out.miss HOW.out
                  go_wp2_with fail
                  go_roundw
                  case rel => exact ⟨i, zz, by omega, by go_num, by first | rfl | trivial, by first | rfl | trivial, HO⟩
                  case measure => simp [intOf]
              · have HO : Hid (LeastO E T n i zz) := hlo.out.miss HOW.out
                go_wp2_with fail
                go_roundw
                case rel => exact ⟨i, zz, by omega, by go_num, by first | rfl | trivial, by first | rfl | trivial, HO⟩
                case measure => simp [intOf]
            · obtain rfl : j = 0 := by omega
              rw [show ((0 : Nat) : Int) - 1 = -1 from rfl]
              have HTL : Hid (T.length = k) := hlen
              have HLO := Lib.hid hlo.out
              clear hlo
              rcases HLO.out with ⟨rfl, hno⟩ | ⟨v, rfl, _, hv, hop, hpre⟩
              · have HSH : Hid ((topo n E n).length ≠ n) := topo_short hlt (by rw [HT.out]; exact stepT_none.2 fun u hu => hno u (Nat.zero_le _) hu)
                clear hno
                go_wp2_with fail
                go_ret2
                refine ⟨⟨.slice none 0 0, ?_⟩, hp.out.bw⟩
                first | rfl | (rw [if_neg HSH.out]; rfl)
              · have HTP : Hid (topo n E (k + 1) = T ++ [v]) := by
                  show (match stepT n E (topo n E k) with | some v => topo n E k ++ [v] | none => topo n E k) = _
                  rw [HT.out, stepT_hit hv hop fun u hu => hpre u (Nat.zero_le _) hu]
                have i1 : (v : Int) < n := by omega
                have i2 : (0 : Int) ≤ v := by omega
                have r1 : wr.cell? ⟨g1, v, none⟩ = some (.bool (T.contains v)) := by rw [hp.out.t.cell]; exact rowA_get hv
                have r3 := hp.out.t.frozen v
                obtain ⟨WS, hWS⟩ : ∃ WS, wr.setCell ⟨g1, v, none⟩ (.bool true) = WS := ⟨_, rfl⟩
                have HTS : Hid (ObjAt WS g1 (rowA n fun u => .bool ((T ++ [v]).contains u)) 4) := by
                  show ObjAt ..
                  rw [← hWS]
                  have := hp.out.t.set v (.bool true)
                  rw [rowA_set] at this
                  rw [rowA_congr (g := fun j => if j = v then .bool true else .bool (T.contains j)) fun u hu => by
                    by_cases e : u = v
                    · subst e; rw [if_pos rfl, show (T ++ [u]).contains u = true from List.contains_iff_mem.2 (by simp)]
                    · rw [if_neg e, show (T ++ [v]).contains u = T.contains u by rw [Bool.eq_iff_iff, List.contains_iff_mem, List.contains_iff_mem]; simp [e]]]
                  exact this
                have HOS : Hid (OwnI WS B (.slice oa k oc) (natI T)) := by show OwnI ..; rw [← hWS]; exact hp.out.t.rowSet hp.out.o (by decide) _ _
                have HBS : Hid (Below w.heap.size w WS) := by show Below ..; rw [← hWS]; exact hp.out.bw.setCell (p := ⟨g1, v, none⟩) HW1.out _
                have HZS : Hid (B ≤ WS.heap.size) := by show _ ≤ _; rw [← hWS]; have := hp.out.t.lt; have := HS2.out; simp [World.setCell]; omega
                have HLT : Hid ((natI T).length + ([(v : Int)] : List Int).length ≤ 100000000) := by show _ ≤ _; unfold natI; rw [List.length_map, HTL.out]; simp only [List.length_singleton]; omega
                have HWS := Lib.hid hWS
                clear hWS hop hpre
                go_upto_region 24 with fail
                rw [HWS.out]
                clear HWS r1 r3
                go_wp2_with (at_builtin; refine wpList_app_int rfl (.tmp 79) (.tmp 81) rfl B (.slice oa k oc) _ (natI T) [(v : Int)] rfl rfl (HOS.out.alloc _) (SI_one _ _ _) HLT.out (by have := HZS.out; simp; omega) ?_)
                intro va wa hoa hga _
                have HOA : Hid (OwnI wa B va (natI (T ++ [v]))) := by show OwnI ..; unfold natI; rw [List.map_append]; exact hoa
                have HPA : Hid (ROrd w wa B g1 n (topo n E (k + 1)) va) := by
                  show ROrd ..
                  rw [HTP.out]
                  refine ⟨(HTS.out.alloc _).grown hga (by show (Value.slice oa k oc).ownBlock ≠ some g1; exact HTS.out.ne HOS.out (by decide)), HOA.out, (HBS.out.alloc HBS.out.size _).grown hga (by have := HBS.out.size; simp; omega) (fun q hq => ?_)⟩
                  have := (World.ownsRow.lt HOS.out q hq).1; have := HW1.out; have := HS2.out; omega
                have HTL1 : Hid ((topo n E (k + 1)).length = k + 1) := by show _ = _; rw [HTP.out, List.length_append, HTL.out]; rfl
                obtain ⟨pa, pc, hpa, _⟩ := HOA.out.si
                have hpl : (natI (T ++ [v])).length = k + 1 := by unfold natI; rw [List.length_map, List.length_append, HTL.out]; rfl
                rw [hpl] at hpa
                subst hpa
                clear hoa hga hpl HOA HOS HTS HBS HZS HLT
                go_wp2_with fail
                go_roundg (n + 1 - (k + 1))
                case measure => omega
                case rel => exact ⟨k + 1, by omega, rfl, ⟨_, _, rfl⟩, HTL1, HPA⟩
    · obtain rfl : k = n := by omega
      have HF : Hid ((topo k E k).length = k) := hlen
      go_wp2_with fail
      go_ret2
      refine ⟨.slice oa k oc, ?_, ?_, hp.out.bw⟩
      · first | rfl | (rw [if_pos HF.out]; rfl)
      · first | exact fun _ => hp.out.o.si | exact hp.out.o.si
end Go.Proofs.YtfpnjbomlmhlpaaGreat

/- Contracts: comes and Edges of the reference of need. -/
namespace Go.Proofs.YtfpnjbomlmhlpaaGreat
open Go.RowKit

def taFo : TypeId → Nat → Option Nat
  | 104, 0 => some 0
  | 104, 1 => some 1
  | 104, 2 => some 2
  | t, f => sqFo t f
theorem taFo_ok (t f d : Nat) (h : taFo t f = some d) (b off : Nat) (w : World) : (Instr.fieldAt t (.pointer (some ⟨b, off, none⟩)) f).run Tryz.prog w = .ok (.pointer (some ⟨b, off + d, none⟩)) w := by
  unfold taFo at h
  split at h
  · cases h; go_simp
  · cases h; go_simp
  · cases h; go_simp
  · exact sqFo_ok _ _ _ h b off w
def taEn : FuncId → Bool
  | 82 => true
  | f => sqEn f
theorem taEn_ok (f : FuncId) (h : taEn f = true) (args : Array Value) (w : World) : (callFunc f args).run Tryz.prog w = .ok (.enter f args) w := by
  unfold taEn at h
  split at h
  · exact enters_of Tryz.func82 (by kernel_rfl) rfl args w
  · exact sqEn_ok f h args w
def taT : QTab := { sqT with fo := taFo, en := taEn }
theorem taT_ok : taT.Ok := ⟨taFo_ok, sqSc_ok, sqAg_ok, sqEs_ok, sqLn_ok, taEn_ok, sqSl_ok⟩
set_option maxRecDepth 100000 in
set_option maxHeartbeats 1000000 in
theorem comes_any (D : Des) (ns : List Nod) (es : List Nd) (a b : List UInt8) (w : World) (h : DesOK w D ns es) (he : es.length ≤ 10000) : Calls Tryz.prog 82 #[.agg (desA D), .string (bs a), .string (bs b)] w (Ret w (.bool (comesF es a b))) := by
  have HDE := Lib.hid h.e.n
  have H3 := Lib.hid (fun i (hi : i < es.length) => h.e.at hi)
  clear h
  obtain ⟨W0, HO0, HB0, HW0, HZ0⟩ := boxD w D
  have hm : es.length ≤ 9223372036854775807 := by omega
  unfold desA
  go_enter Tryz.func82, Tryz.ntmps82
  go_upto_region 1 with fail
  rw [HW0.out]
  clear HW0
  go_wp2_with fail
  go_loopw [7] (fun i wr => ∃ k : Nat, k ≤ es.length ∧ i = .int .i64 k ∧ Hid (Below W0.heap.size W0 wr) ∧ Hid (∀ m, m < k → asksN (ndi es m) a b = false)) (fun i _ => es.length - (intOf i).toNat)
  case atStart => exact ⟨0, Nat.zero_le _, rfl, Below.refl _ _, fun m hm => by omega⟩
  case round =>
    obtain ⟨k, hk, rfl, hb, hal⟩ := hrel
    have HO1 := Lib.hid (HO0.out.keep hb.out)
    have HB1 := Lib.hid (ext_trans HB0.out hb.out)
    obtain ⟨c0, c1, c2, c3, c4, c5⟩ := desC HO1.out
    rw [HDE.out] at c5
    clear c0 c1 c2 c3 c4
    by_cases hlt : k < es.length
    · obtain ⟨nb, no, ha, hc⟩ := H3.out k hlt
      obtain ⟨d0, d1, d2⟩ := hc.keep HB1.out
      obtain ⟨W2, HO2, HC2, HW2, HZ2⟩ := copyNd wr (ndi es k)
      rw [ha] at c5
      clear hc
      go_upto_region 5 with fail
      rw [HW2.out]
      clear HW2 d0 d1 d2 c5
      refine wp_region_et taT taT_ok [⟨wr.heap.size, 0, (ndA (ndi es k)).toList⟩] (Below W2.heap.size W2) [(8, 0)] [] [(52, .bool (asksN (ndi es k) a b))] (by kernel_rfl) (Below.refl _ _) (obsC (fun u hu => rangeKeep (range_new HO2.out) hu) obsN) ⟨rfl, trivial⟩ ?_
      conv => whnf
      intro f1
      conv => whnf
      refine And.intro ?_ ?_
      · rw [bs_eq, bs_eq, bs_eq, bs_eq]; rfl
      conv => whnf
      intro w3 h3
      have HB3 : Hid (Below W0.heap.size W0 w3) := ext_trans (ext_trans hb.out HC2.out) h3
      have HB4 : Hid (Below w.heap.size w w3) := ext_trans HB0.out HB3.out
      obtain ⟨z, hz⟩ : ∃ z, asksN (ndi es k) a b = z := ⟨_, rfl⟩
      have HZ := Lib.hid hz
      rw [hz]
      clear hz h3
      cases z
      · have HAL : Hid (∀ m, m < k + 1 → asksN (ndi es m) a b = false) := upto (q := fun m => asksN (ndi es m) a b = false) hal.out HZ.out
        go_wp2_with fail
        go_roundw
        case rel => exact ⟨k + 1, by omega, by go_num, HB3, HAL⟩
        case measure => simp [intOf]; omega
      · have HF : Hid (comesF es a b = true) := List.any_eq_true.2 ⟨_, ndi_mem hlt, HZ.out⟩
        go_wp2_with fail
        go_ret
        exact ⟨ret_bool HF.out.symm, HB4.out⟩
    · obtain rfl : k = es.length := by omega
      have HF : Hid (comesF es a b = false) := by
        show _ = _
        unfold comesF
        rw [List.any_eq_false]
        intro x hx
        obtain ⟨m, hm, rfl⟩ := List.mem_iff_getElem.1 hx
        have := hal.out m hm
        rw [ndi_lt hm] at this
        rw [this]; decide
      go_wp2_with fail
      go_ret
      exact ⟨ret_bool HF.out.symm, HB1.out⟩
end Go.Proofs.YtfpnjbomlmhlpaaGreat
