/- The reference's structure: parts, seams (printed by wip/gen_gmu.py). -/
import Derived.Test.YtfpnjbomlmhlpaaGreatPk18
set_option linter.unusedSimpArgs false
set_option linter.unusedVariables false

/- The reference's structure: form (printed by wip/gen_gmr.py). -/
namespace Go.Proofs.YtfpnjbomlmhlpaaGreat
open Go.RowKit

theorem s4_any (b : Nat) {k : Nat} (hk : k < 4) (w : World) : (Instr.indexAt 99 (.pointer (some ⟨b, 0, none⟩)) (.int .i64 (k : Int))).run Tryz.prog w = .ok (.pointer (some ⟨b, k + 0, none⟩)) w := by
  match k, hk with
  | 0, _ => exact s4_at0 b 0 w
  | 1, _ => exact s4_at1 b 0 w
  | 2, _ => exact s4_at2 b 0 w
  | 3, _ => exact s4_at3 b 0 w
/-- the four lists -/
def L4 (ns : List Nod) (ps : List Prt) (ss : List Sea) (ks : List Pkg) : Nat → List (List UInt8)
  | 0 => ns.map (·.id)
  | 1 => ps.map (·.id)
  | 2 => ss.map (·.id)
  | _ => ks.map (·.id)
theorem L4_all {w : World} {ns : List Nod} {ps : List Prt} {ss : List Sea} {ks : List Pkg} {v0 v1 v2 v3 : Value} (h0 : SZ w v0 ((ns.map (·.id)).map bs)) (h1 : SZ w v1 ((ps.map (·.id)).map bs)) (h2 : SZ w v2 ((ss.map (·.id)).map bs)) (h3 : SZ w v3 ((ks.map (·.id)).map bs)) :
    ∀ k, k < 4 → ∃ v, #[v0, v1, v2, v3][k]? = some v ∧ SZ w v ((L4 ns ps ss ks k).map bs) := fun k hk => by
  match k, hk with
  | 0, _ => exact ⟨_, rfl, h0⟩
  | 1, _ => exact ⟨_, rfl, h1⟩
  | 2, _ => exact ⟨_, rfl, h2⟩
  | 3, _ => exact ⟨_, rfl, h3⟩
/-- a number; none where the nodes' names are not ascending -/
def RetA (w : World) (ns : List Nod) (e : Ending) (w' : World) : Prop := ∃ z : Int, e = .returned (.int .i64 z) ∧ (z = 0 → AscS (ns.map (·.id))) ∧ Below w.heap.size w w'
theorem SZ.form {w : World} {v : Value} {l : List (List UInt8)} (h : SZ w v (l.map bs)) : ∃ a c, v = .slice a l.length c ∧ l.length ≤ 9223372036854775807 ∧ ∀ i, i < l.length → ∃ b off, a = some ⟨b, off, none⟩ ∧ ∃ s, w.cell? ⟨b, off + i, none⟩ = some (.string (bs s)) := by
  obtain ⟨a, c, rfl, h1, h2, h3⟩ := h
  rw [List.length_map] at h1 h3
  unfold maxLen at h2
  refine ⟨a, c, by rw [List.length_map], by omega, fun i hi => ?_⟩
  obtain ⟨b, off, e, hc⟩ := h3 i hi
  dsimp only at hc
  rw [zi_bs hi] at hc
  exact ⟨b, off, e, _, hc⟩
set_option maxRecDepth 100000 in
set_option maxHeartbeats 1600000 in
theorem rform_any (D : Des) (ns : List Nod) (es : List Nd) (ps : List Prt) (ss : List Sea) (ks : List Pkg) (w : World) (h : DesX w D ns es ps ss ks) (hh : D.hull.length ≤ maxLen) :
    Calls Tryz.prog 16 #[.agg (desA D)] w (RetA w ns) := by
  have HH := Lib.hid hh
  clear hh
  have en := h.n.n
  have ep := h.p.n
  have es' := h.s.n
  have ek := h.k.n
  have ee := h.e.n
  have HX := Lib.hid h
  clear h
  obtain ⟨hull, ⟨na, nn, nc⟩, ⟨pa, pn, pc⟩, ⟨sa, sn, sc⟩, ⟨ka, kn, kc⟩, ⟨ea, en2, ec⟩⟩ := D
  dsimp only at en ep es' ek ee
  obtain rfl : nn = ns.length := en
  obtain rfl : pn = ps.length := ep
  obtain rfl : sn = ss.length := es'
  obtain rfl : kn = ks.length := ek
  obtain rfl : en2 = es.length := ee
  have HH : Hid (hull.length ≤ maxLen) := HH.out
  show Calls Tryz.prog 16 #[.agg #[.string (bs hull), .slice na ns.length nc, .slice pa ps.length pc, .slice sa ss.length sc, .slice ka ks.length kc, .slice ea es.length ec]] w _
  obtain ⟨W1, HO1, HB1, HW⟩ := one_box w #[.string (bs hull), .slice na ns.length nc, .slice pa ps.length pc, .slice sa ss.length sc, .slice ka ks.length kc, .slice ea es.length ec] 28
  have e3 := HX.out.e.len
  unfold maxLen at e3
  go_enter Tryz.func16, Tryz.ntmps16
  go_upto_region 1 with fail
  rw [HW.out]
  clear HW
  refine wp_region_et gmT gmT_ok [⟨w.heap.size, 0, [.string (bs hull), .slice na ns.length nc, .slice pa ps.length pc, .slice sa ss.length sc, .slice ka ks.length kc, .slice ea es.length ec]⟩] (Below W1.heap.size W1) [(1, 0)] [(11, .ret (.bool (nameB hull)))] [(12, .bool (!nameB hull))] (by kernel_rfl) (Below.refl _ _)
    (obsC (fun u hu => rangeKeep (range_new HO1.out) hu) obsN) ⟨rfl, trivial⟩ ?_
  conv => whnf
  refine And.intro (under_of fun u hu => ret_in (rName_any hull u HH.out) hu) ?_
  conv => whnf
  intro f1
  conv => whnf
  refine And.intro (rfl) ?_
  conv => whnf
  intro w2 h2
  have HB2 := Lib.hid (ext_trans HB1.out h2)
  have HO2 := Lib.hid (HO1.out.keep h2)
  clear h2 HO1
  obtain ⟨z, hz⟩ : ∃ p, (!nameB hull) = p := ⟨_, rfl⟩
  have HQ1 := Lib.hid hz
  rw [hz]
  clear hz
  cases z
  rotate_left
  · go_wp2_with fail
    go_ret
    exact ⟨_, rfl, (fun h => by cases h), HB2.out⟩
  go_upto_region 3 with fail
  refine wp_region_et gmT gmT_ok [⟨w.heap.size, 0, [.string (bs hull), .slice na ns.length nc, .slice pa ps.length pc, .slice sa ss.length sc, .slice ka ks.length kc, .slice ea es.length ec]⟩] (Below w2.heap.size w2) [(1, 0)] [] [(40, .bool ((((decide (64 < (ns.length : Int)) || decide (256 < (ps.length : Int))) || decide (256 < (ss.length : Int))) || decide (64 < (ks.length : Int))) || decide (256 < (es.length : Int))))] (by kernel_rfl) (Below.refl _ _)
    (obsC (fun u hu => rangeKeep (range_new HO2.out) hu) obsN) ⟨rfl, trivial⟩ ?_
  conv => whnf
  intro f2
  conv => whnf
  refine And.intro (rfl) ?_
  conv => whnf
  intro w3 h3
  have HB3 := Lib.hid (ext_trans HB2.out h3)
  have HO3 := Lib.hid (HO2.out.keep h3)
  clear h3 HO2
  obtain ⟨z, hz⟩ : ∃ p, ((((decide (64 < (ns.length : Int)) || decide (256 < (ps.length : Int))) || decide (256 < (ss.length : Int))) || decide (64 < (ks.length : Int))) || decide (256 < (es.length : Int))) = p := ⟨_, rfl⟩
  have HQ2 := Lib.hid hz
  rw [hz]
  clear hz
  cases z
  rotate_left
  · go_wp2_with fail
    go_ret
    exact ⟨_, rfl, (fun h => by cases h), HB3.out⟩
  have HL : Hid (ns.length ≤ 64 ∧ ps.length ≤ 256 ∧ ss.length ≤ 256 ∧ ks.length ≤ 64 ∧ es.length ≤ 256) := by
    show _ ∧ _
    have q := HQ2.out
    simp only [Bool.or_eq_false_iff, decide_eq_false_iff_not] at q
    omega
  clear HQ1 HQ2
  have d0 := HO3.out.cell 0
  have d1 := HO3.out.cell 1
  have d2 := HO3.out.cell 2
  have d3 := HO3.out.cell 3
  have d4 := HO3.out.cell 4
  have d5 := HO3.out.cell 5
  dsimp at d0 d1 d2 d3 d4 d5
  go_wp2_with fail
  refine (rlists_any ⟨hull, ⟨na, ns.length, nc⟩, ⟨pa, ps.length, pc⟩, ⟨sa, ss.length, sc⟩, ⟨ka, ks.length, kc⟩, ⟨ea, es.length, ec⟩⟩ ns es ps ss ks w3 (HX.out.keep HB3.out) (by have := HL.out; omega) (by have := HL.out; omega) (by have := HL.out; omega) (by have := HL.out; omega)).mono ?_
  rintro e w4 ⟨v0, v1, v2, v3, rfl, hv0, hv1, hv2, hv3, hb4⟩
  have HB4 := Lib.hid (ext_trans HB3.out hb4)
  have HO4 := Lib.hid (HO3.out.keep hb4)
  clear d0 d1 d2 d3 d4 d5 hb4 HO3
  obtain ⟨p0, m0, q0, rfl⟩ : ∃ p m q, v0 = .slice p m q := by obtain ⟨a, c, e, _⟩ := hv0; exact ⟨_, _, _, e⟩
  obtain ⟨p1, m1, q1, rfl⟩ : ∃ p m q, v1 = .slice p m q := by obtain ⟨a, c, e, _⟩ := hv1; exact ⟨_, _, _, e⟩
  obtain ⟨p2, m2, q2, rfl⟩ : ∃ p m q, v2 = .slice p m q := by obtain ⟨a, c, e, _⟩ := hv2; exact ⟨_, _, _, e⟩
  obtain ⟨p3, m3, q3, rfl⟩ : ∃ p m q, v3 = .slice p m q := by obtain ⟨a, c, e, _⟩ := hv3; exact ⟨_, _, _, e⟩
  obtain ⟨W5, HA5, HB45, HW5⟩ := one_box w4 #[.slice p0 m0 q0, .slice p1 m1 q1, .slice p2 m2 q2, .slice p3 m3 q3] 99
  have HV := Lib.hid (L4_all (hv0.keep HB45.out) (hv1.keep HB45.out) (hv2.keep HB45.out) (hv3.keep HB45.out))
  clear hv0 hv1 hv2 hv3
  go_upto_region 6 with fail
  rw [HW5.out]
  clear HW5
  have HB5 := Lib.hid (ext_trans HB4.out HB45.out)
  have HO5 := Lib.hid (HO4.out.keep HB45.out)
  clear HO4 HB45
  go_wp2_with fail
  go_loopw [4] (fun i wr => ∃ k : Nat, k ≤ 4 ∧ i = .int .i64 k ∧ Hid (Below W5.heap.size W5 wr) ∧ Hid (1 ≤ k → AscS (ns.map (·.id)))) (fun i _ => 4 - (intOf i).toNat)
  case atStart => exact ⟨0, by omega, rfl, Below.refl _ _, fun h => by omega⟩
  case round =>
    obtain ⟨wrA, hwr⟩ : ∃ u, u = wr := ⟨_, rfl⟩
    subst hwr
    obtain ⟨k, hk, rfl, hb, hasc⟩ := hrel
    have HBW := Lib.hid (ext_trans HB5.out hb.out)
    have HAR := Lib.hid (HA5.out.keep hb.out)
    by_cases hlt : k < 4
    · obtain ⟨vk, g1, g2⟩ := HV.out k hlt
      have HVK := Lib.hid (g2.keep hb.out)
      obtain ⟨ka', kc', rfl, _⟩ := SZ.form g2
      have HCK : Hid (wrA.rangeAt w4.heap.size k [.slice ka' (L4 ns ps ss ks k).length kc']) := intR (by rw [HAR.out.cell]; exact g1)
      have HAS : Hid (k = 0 → L4 ns ps ss ks k = ns.map (·.id)) := fun h => by subst h; rfl
      clear g1 g2
      have i1 : (k : Int) < 4 := by omega
      go_upto_region 9 with fail
      refine wp_region_et gmT gmT_ok [⟨w4.heap.size, 0, []⟩, ⟨w4.heap.size, k, [.slice ka' (L4 ns ps ss ks k).length kc']⟩] (Below wrA.heap.size wrA) [(3, 0)] [(48, .ix 0 1), (50, .ret (.bool (ascB (L4 ns ps ss ks k))))] [(51, .bool (!ascB (L4 ns ps ss ks k)))] (by kernel_rfl) (Below.refl _ _)
        (obsC (fun u hu => rangeKeep (range_nil _ _ _) hu) (obsC (fun u hu => rangeKeep (HCK.out) hu) obsN)) ⟨rfl, trivial⟩ ?_
      conv => whnf
      refine And.intro (under_of fun u => s4_any _ hlt u) ?_
      conv => whnf
      refine And.intro (under_of fun u hu => ret_in (rAsc_any _ _ u (HVK.out.keep hu)) hu) ?_
      conv => whnf
      intro f1
      conv => whnf
      refine And.intro (rfl) ?_
      conv => whnf
      intro w6 h6
      have HB6 := Lib.hid (ext_trans hb.out h6)
      have HBW6 := Lib.hid (ext_trans HBW.out h6)
      clear h6
      obtain ⟨z, hz⟩ : ∃ p, ascB (L4 ns ps ss ks k) = p := ⟨_, rfl⟩
      have HZ := Lib.hid hz
      rw [hz]
      clear hz
      cases z
      · go_wp2_with fail
        go_ret
        exact ⟨_, rfl, (fun h => by cases h), HBW6.out⟩
      · have HN : Hid (1 ≤ k + 1 → AscS (ns.map (·.id))) := fun _ => by
          by_cases e : k = 0
          · rw [← HAS.out e]; exact ascB_iff.1 HZ.out
          · exact hasc.out (by omega)
        clear hasc
        go_wp2_with fail
        go_roundw
        case rel => exact ⟨k + 1, by omega, by go_num, HB6, HN⟩
        case measure => simp [intOf]; omega
    have HASC : Hid (AscS (ns.map (·.id))) := hasc.out (by omega)
    have i1 : ¬ (k : Int) < 4 := by omega
    have HO6 := Lib.hid (HO5.out.keep hb.out)
    have HB5W := hb
    have HEE := Lib.hid (fun i (hi : i < es.length) => (HX.out.e.keep HBW.out).at hi)
    clear hb hasc
    go_wp2_with fail
    go_loopw [5] (fun i wr2 => ∃ k : Nat, k ≤ es.length ∧ i = .int .i64 ((k : Int) + 1) ∧ Hid (Below wrA.heap.size wrA wr2)) (fun i _ => es.length + 1 - (intOf i).toNat)
    case atStart => exact ⟨0, Nat.zero_le _, rfl, Below.refl _ _⟩
    case round =>
      obtain ⟨wr2, hwr⟩ : ∃ u, u = wr := ⟨_, rfl⟩
      subst hwr
      obtain ⟨k2, hk2, rfl, hb⟩ := hrel
      have HBW2 := Lib.hid (ext_trans HBW.out hb.out)
      have HOR := Lib.hid (HO6.out.keep hb.out)
      have d5 := HOR.out.cell 5
      dsimp at d5
      by_cases hlt : k2 + 1 < es.length
      · obtain ⟨b, off, ha, hc⟩ := HEE.out k2 (by omega)
        obtain rfl : ea = some ⟨b, off, none⟩ := ha
        obtain ⟨b', off', ha, hc'⟩ := HEE.out (k2 + 1) hlt
        have ha := Option.some.inj ha
        simp only [Addr.mk.injEq] at ha
        obtain ⟨rfl, rfl, _⟩ := ha
        have HC1 := Lib.hid (nn_range (hc.keep hb.out))
        have HC2 := Lib.hid (nn_range (hc'.keep hb.out))
        obtain ⟨⟨xk, xb, xo⟩, hx⟩ : ∃ y, ndi es k2 = y := ⟨_, rfl⟩
        obtain ⟨⟨yk, yb, yo⟩, hy⟩ : ∃ y, ndi es (k2 + 1) = y := ⟨_, rfl⟩
        rw [hx] at HC1
        rw [hy] at HC2
        have hi1 : (k2 : Int) + 1 < es.length := by omega
        clear hc hc' hx hy ha
        go_upto_region 14 with fail
        clear d5
        refine wp_region_ev gmN gmN_ok [⟨w.heap.size, 0, [.string (bs hull), .slice na ns.length nc, .slice pa ps.length pc, .slice sa ss.length sc, .slice ka ks.length kc, .slice (some ⟨b, off, none⟩) es.length ec]⟩, ⟨b, off + k2 * 3, [.int .i64 xk, .string (bs xb), .string (bs xo)]⟩, ⟨b, off + (k2 + 1) * 3, [.int .i64 yk, .string (bs yb), .string (bs yo)]⟩] (Below wr2.heap.size wr2) [(1, 0)] [(63, .ix k2 1), (68, .ix (k2 + 1) 2), (70, .ret (.bool (befN ⟨xk, xb, xo⟩ ⟨yk, yb, yo⟩)))] [(71, .bool (!befN ⟨xk, xb, xo⟩ ⟨yk, yb, yo⟩))] (by kernel_rfl) mixed (by kernel_rfl) ((Below.refl _ _).drew)
          (obsC (fun u hu => rangeKeep (range_new HOR.out) hu) (obsC (fun u hu => rangeKeep (HC1.out) hu) (obsC (fun u hu => rangeKeep (HC2.out) hu) obsN))) ⟨rfl, trivial⟩ ?_
        conv => whnf
        refine And.intro (under_of (by omega)) ?_
        conv => whnf
        refine And.intro (under_of ⟨by omega, by omega, rfl, rfl⟩) ?_
        conv => whnf
        refine And.intro (Nat.le_of_ble_eq_true rfl) ?_
        conv => whnf
        refine And.intro (under_of ⟨by omega, hlt, rfl, rfl⟩) ?_
        conv => whnf
        refine And.intro (Nat.le_of_ble_eq_true rfl) ?_
        conv => whnf
        refine And.intro (under_of fun u hu => ret_in (rbefore_any ⟨xk, xb, xo⟩ ⟨yk, yb, yo⟩ u) hu) ?_
        conv => whnf
        intro f1
        conv => whnf
        refine And.intro (rfl) ?_
        conv => whnf
        intro w7 h7
        have HB7 := Lib.hid (ext_trans hb.out h7)
        have HBW7 := Lib.hid (ext_trans HBW2.out h7)
        clear h7 hb
        obtain ⟨z, hz⟩ : ∃ p, befN ⟨xk, xb, xo⟩ ⟨yk, yb, yo⟩ = p := ⟨_, rfl⟩
        rw [hz]
        clear hz
        cases z
        · go_wp2_with fail
          go_ret
          exact ⟨_, rfl, (fun h => by cases h), HBW7.out⟩
        · go_wp2_with fail
          go_roundw
          case rel => exact ⟨k2 + 1, by omega, by go_num, HB7⟩
          case measure => simp [intOf]; omega
      have hi1 : ¬ (k2 : Int) + 1 < es.length := by omega
      have HAB : Hid (Below W5.heap.size W5 wr2) := ext_trans HB5W.out hb.out
      have HA2 := Lib.hid (HA5.out.keep HAB.out)
      have HV2 := Lib.hid (fun k hk => let ⟨v, a1, a2⟩ := HV.out k hk; (⟨v, a1, (a2.keep HAB.out)⟩ : ∃ v, (#[.slice p0 m0 q0, .slice p1 m1 q1, .slice p2 m2 q2, .slice p3 m3 q3] : Array Value)[k]? = some v ∧ SZ wr2 v ((L4 ns ps ss ks k).map bs)))
      clear hb
      go_wp2_with fail
      go_loopw [6] (fun i wr3 => ∃ k : Nat, k ≤ 4 ∧ i = .int .i64 k ∧ Hid (Below wr2.heap.size wr2 wr3)) (fun i _ => 4 - (intOf i).toNat)
      case atStart => exact ⟨0, by omega, rfl, Below.refl _ _⟩
      case round =>
        obtain ⟨wr3, hwr⟩ : ∃ u, u = wr := ⟨_, rfl⟩
        subst hwr
        obtain ⟨k, hk, rfl, hb⟩ := hrel
        have HBW3 := Lib.hid (ext_trans HBW2.out hb.out)
        by_cases hlt : k < 4
        rotate_left
        · have i1 : ¬ (k : Int) < 4 := by omega
          go_wp2_with fail
          go_ret
          exact ⟨_, rfl, fun _ => HASC.out, HBW3.out⟩
        have i1 : (k : Int) < 4 := by omega
        obtain ⟨vk, g1, g2⟩ := HV2.out k hlt
        obtain ⟨ua, uc, rfl, hu1, hu2⟩ := SZ.form g2
        have HU2 := Lib.hid hu2
        have HAK : Hid (wr2.rangeAt w4.heap.size k [.slice ua (L4 ns ps ss ks k).length uc]) := intR (by rw [HA2.out.cell]; exact g1)
        clear hu2 g1 g2
        go_wp2_with fail
        go_loopw [7] (fun i wr4 => ∃ m : Nat, m ≤ k ∧ i = .int .i64 m ∧ Hid (Below wr2.heap.size wr2 wr4)) (fun i _ => k - (intOf i).toNat)
        case atStart => exact ⟨0, by omega, rfl, hb⟩
        case round =>
          obtain ⟨wr4, hwr⟩ : ∃ u, u = wr := ⟨_, rfl⟩
          subst hwr
          obtain ⟨m, hm, rfl, hb4⟩ := hrel
          by_cases hlm : m < k
          rotate_left
          · have i2 : ¬ (m : Int) < k := by omega
            go_wp2_with fail
            go_roundw
            case rel => exact ⟨k + 1, by omega, by go_num, hb4⟩
            case measure => simp [intOf]; omega
          have i2 : (m : Int) < k := by omega
          obtain ⟨vm, g1, g2⟩ := HV2.out m (by omega)
          have HVM := Lib.hid g2
          obtain ⟨ma, mc, rfl, _⟩ := SZ.form g2
          have HAM : Hid (wr2.rangeAt w4.heap.size m [.slice ma (L4 ns ps ss ks m).length mc]) := intR (by rw [HA2.out.cell]; exact g1)
          clear g1 g2
          go_wp2_with fail
          go_loopw [8] (fun i wr5 => ∃ n : Nat, n ≤ (L4 ns ps ss ks k).length ∧ i = .int .i64 n ∧ Hid (Below wr2.heap.size wr2 wr5)) (fun i _ => (L4 ns ps ss ks k).length - (intOf i).toNat)
          case atStart => exact ⟨0, by omega, rfl, hb4⟩
          case round =>
            obtain ⟨wr5, hwr⟩ : ∃ u, u = wr := ⟨_, rfl⟩
            subst hwr
            obtain ⟨n, hn, rfl, hb5⟩ := hrel
            have HBW5 := Lib.hid (ext_trans HBW2.out hb5.out)
            go_upto_region 23 with fail
            refine wp_region_et gmT gmT_ok [⟨w4.heap.size, 0, []⟩, ⟨w4.heap.size, k, [.slice ua (L4 ns ps ss ks k).length uc]⟩] (Below wr5.heap.size wr5) [(3, 0)] [(83, .ix 0 1)] [(86, .bool (decide ((n : Int) < (L4 ns ps ss ks k).length)))] (by kernel_rfl) (Below.refl _ _)
              (obsC (fun u hu => rangeKeep (range_nil _ _ _) hu) (obsC (fun u hu => rangeKeep (rangeKeep HAK.out hb5.out) hu) obsN)) ⟨rfl, trivial⟩ ?_
            conv => whnf
            refine And.intro (under_of fun u => s4_any _ hlt u) ?_
            conv => whnf
            intro f1
            conv => whnf
            refine And.intro (rfl) ?_
            conv => whnf
            intro w6 h6
            have HB6 := Lib.hid (ext_trans hb5.out h6)
            clear h6
            by_cases hln : n < (L4 ns ps ss ks k).length
            rotate_left
            · rw [decide_eq_false (by omega : ¬ (n : Int) < (L4 ns ps ss ks k).length)]
              go_wp2_with fail
              go_roundw
              case rel => exact ⟨m + 1, by omega, by go_num, HB6⟩
              case measure => simp [intOf]; omega
            rw [decide_eq_true (by omega : (n : Int) < (L4 ns ps ss ks k).length)]
            obtain ⟨b, off, rfl, t, hc⟩ := HU2.out n hln
            have HCT := Lib.hid (intR hc)
            clear hc
            go_upto_region 25 with fail
            refine wp_region_ev gmT gmT_ok [⟨w4.heap.size, 0, []⟩, ⟨w4.heap.size, k, [.slice (some ⟨b, off, none⟩) (L4 ns ps ss ks k).length uc]⟩, ⟨w4.heap.size, m, [.slice ma (L4 ns ps ss ks m).length mc]⟩, ⟨b, off + n, [.string (bs t)]⟩] (Below w6.heap.size w6) [(3, 0)] [(90, .ix 0 2), (93, .ix 0 1), (96, .ix n 3), (98, .ret (.bool (hasS (L4 ns ps ss ks m) t)))] [(98, .bool (hasS (L4 ns ps ss ks m) t))] (by kernel_rfl) mixed (by kernel_rfl) ((Below.refl _ _).drew)
              (obsC (fun u hu => rangeKeep (range_nil _ _ _) hu) (obsC (fun u hu => rangeKeep (rangeKeep HAK.out HB6.out) hu) (obsC (fun u hu => rangeKeep (rangeKeep HAM.out HB6.out) hu) (obsC (fun u hu => rangeKeep (rangeKeep HCT.out HB6.out) hu) obsN)))) ⟨rfl, trivial⟩ ?_
            conv => whnf
            refine And.intro (under_of fun u => s4_any _ (by omega) u) ?_
            conv => whnf
            refine And.intro (under_of fun u => s4_any _ hlt u) ?_
            conv => whnf
            refine And.intro (under_of ⟨rfl, hln, rfl, by show off + n = off + n * 1; omega⟩) ?_
            conv => whnf
            refine And.intro (under_of fun u hu => ret_in (rHas_any _ _ t u (HVM.out.keep (ext_trans HB6.out hu))) hu) ?_
            conv => whnf
            intro f2
            conv => whnf
            refine And.intro (rfl) ?_
            conv => whnf
            intro w7 h7
            have HB7 := Lib.hid (ext_trans HB6.out h7)
            have HBW7 := Lib.hid (ext_trans HBW2.out HB7.out)
            clear h7
            obtain ⟨z, hz⟩ : ∃ p, hasS (L4 ns ps ss ks m) t = p := ⟨_, rfl⟩
            rw [hz]
            clear hz
            cases z
            · go_wp2_with fail
              go_roundw
              case rel => exact ⟨n + 1, by omega, by go_num, HB7⟩
              case measure => simp [intOf]; omega
            · go_wp2_with fail
              go_ret
              exact ⟨_, rfl, (fun h => by cases h), HBW7.out⟩
end Go.Proofs.YtfpnjbomlmhlpaaGreat

/- The reference's structure: nodes, parts (printed by wip/gen_gms.py). -/
namespace Go.Proofs.YtfpnjbomlmhlpaaGreat
open Go.RowKit

def IsBv (v : Value) : Prop := ∃ b : Bool, v = .bool b
def IsSl (v : Value) : Prop := ∃ a n c, v = .slice a n c
def TupP (p q : Value → Prop) (v : Value) : Prop := ∃ x y, v = .tuple #[x, y] ∧ p x ∧ q y
def fstV : Value → Value
  | .tuple vs => vs.getD 0 undef
  | v => v
def sndV : Value → Value
  | .tuple vs => vs.getD 1 undef
  | v => v
def lenV : Value → Value
  | .slice _ n _ => .int .i64 n
  | v => v
def gtrV (k : Int) : Value → Value
  | .int .i64 n => .bool (decide (k < n))
  | v => v
theorem kept_P (P : Value → Prop) : KeptV fun v _ => P v := ⟨fun _ _ _ h _ => h, fun _ _ _ _ _ _ _ h _ _ _ => h⟩
theorem run_move {P : Value → Prop} {o : Oper} {m : Nat} (ho : o.op = .move (.tmp m)) (a : Act) (x : Value) (u : World) (h1 : a.eval (.tmp m) = x) (h : P x) : P (id x) ∧ (execOp a.eval o).run Tryz.prog u = .ok (.value (id x)) u := by
  refine ⟨h, ?_⟩
  unfold execOp; simp only [ho, h1]; rfl
theorem run_fst {P Q : Value → Prop} {o : Oper} {m : Nat} (ho : o.op = .extract (.tmp m) 0) (a : Act) (x : Value) (u : World) (h1 : a.eval (.tmp m) = x) (h : TupP P Q x) : P (fstV x) ∧ (execOp a.eval o).run Tryz.prog u = .ok (.value (fstV x)) u := by
  obtain ⟨p, q, rfl, hp, hq⟩ := h
  refine ⟨hp, ?_⟩
  unfold execOp; simp only [ho, h1]; rfl
theorem run_snd {P Q : Value → Prop} {o : Oper} {m : Nat} (ho : o.op = .extract (.tmp m) 1) (a : Act) (x : Value) (u : World) (h1 : a.eval (.tmp m) = x) (h : TupP P Q x) : Q (sndV x) ∧ (execOp a.eval o).run Tryz.prog u = .ok (.value (sndV x)) u := by
  obtain ⟨p, q, rfl, hp, hq⟩ := h
  refine ⟨hq, ?_⟩
  unfold execOp; simp only [ho, h1]; rfl
theorem run_lenS {o : Oper} {m : Nat} (ho : o.op = .call { callee := .builtin .len, args := #[.tmp m], argTypes := #[43] }) (a : Act) (x : Value) (u : World) (h1 : a.eval (.tmp m) = x) (h : IsSl x) : IsI (lenV x) ∧ (execOp a.eval o).run Tryz.prog u = .ok (.value (lenV x)) u := by
  obtain ⟨p, n, c, rfl⟩ := h
  refine ⟨⟨_, rfl⟩, ?_⟩
  have hl : (Builtin.len_ #[43] o.type #[.slice p n c]).run Tryz.prog u = .ok (.int .i64 n) u := gmLn_ok 43 (by kernel_rfl) p n c o.type u
  unfold execOp
  simp only [ho]
  show Sem.run _ (do let d ← resolve a.eval { callee := Callee.builtin Builtin.len, args := #[Operand.tmp m], argTypes := #[43] } o.type; invoke d.target d.args) u = _
  have e : (#[Operand.tmp m] : Array Operand).map a.eval = #[.slice p n c] := by simp [h1]
  simp only [resolve, e, Sem.run_bind, Sem.run_pure, Result.andThen_ok]
  show Sem.run _ (do let v ← Builtin.len_ #[43] o.type #[.slice p n c]; pure (Next.value v)) u = _
  simp only [Sem.run_bind, hl]
  rfl
theorem run_gtrV {o : Oper} {m : Nat} {t t' : TypeId} (k : Int) (ho : o.op = .binOp .gtr t (.tmp m) (.const (.int .i64 k)) t') (a : Act) (x : Value) (u : World) (h1 : a.eval (.tmp m) = x) (h : IsI x) : IsBv (gtrV k x) ∧ (execOp a.eval o).run Tryz.prog u = .ok (.value (gtrV k x)) u := by
  obtain ⟨n, rfl⟩ := h
  refine ⟨⟨_, rfl⟩, ?_⟩
  have h5 : a.eval (.const (.int .i64 k)) = .int .i64 k := rfl
  unfold execOp
  simp only [ho, h1, h5, Sem.run_bind, guard_int, Result.andThen_ok]
  rfl
theorem enter_up17 (args : Array Value) (w : World) : (callFunc 54 args).run Tryz.prog w = .ok (.enter 54 args) w := enters_of Tryz.func54 (by kernel_rfl) rfl args w
theorem enter_Path17 (args : Array Value) (w : World) : (callFunc 55 args).run Tryz.prog w = .ok (.enter 55 args) w := enters_of Tryz.func55 (by kernel_rfl) rfl args w
theorem enter_Chk16 (args : Array Value) (w : World) : (callFunc 56 args).run Tryz.prog w = .ok (.enter 56 args) w := enters_of Tryz.func56 (by kernel_rfl) rfl args w
theorem enter_Mass16 (args : Array Value) (w : World) : (callFunc 57 args).run Tryz.prog w = .ok (.enter 57 args) w := enters_of Tryz.func57 (by kernel_rfl) rfl args w

set_option maxRecDepth 100000 in
set_option maxHeartbeats 1600000 in
theorem rnodes_any (D : Des) (ns : List Nod) (es : List Nd) (ps : List Prt) (ss : List Sea) (ks : List Pkg) (w : World) (h : DesX w D ns es ps ss ks) (hl : ns.length ≤ 100000) (hpl : ps.length ≤ 100000) (hs : ∀ x ∈ ns, x.id.length ≤ 1100000) :
    Calls Tryz.prog 17 #[.agg (desA D)] w (RetN w) := by
  have HSZ := Lib.hid hs
  clear hs
  have en := h.n.n
  have ep := h.p.n
  have es' := h.s.n
  have ek := h.k.n
  have ee := h.e.n
  have HX := Lib.hid h
  clear h
  obtain ⟨hull, ⟨na, nn, nc⟩, ⟨pa, pn, pc⟩, ⟨sa, sn, sc⟩, ⟨ka, kn, kc⟩, ⟨ea, en2, ec⟩⟩ := D
  dsimp only at en ep es' ek ee
  obtain rfl : nn = ns.length := en
  obtain rfl : pn = ps.length := ep
  obtain rfl : sn = ss.length := es'
  obtain rfl : kn = ks.length := ek
  obtain rfl : en2 = es.length := ee
  have H3 := Lib.hid (fun i (hi : i < ns.length) => HX.out.n.at hi)
  show Calls Tryz.prog 17 #[.agg #[.string (bs hull), .slice na ns.length nc, .slice pa ps.length pc, .slice sa ss.length sc, .slice ka ks.length kc, .slice ea es.length ec]] w _
  obtain ⟨W1, HO1, HB1, HW⟩ := one_box w #[.string (bs hull), .slice na ns.length nc, .slice pa ps.length pc, .slice sa ss.length sc, .slice ka ks.length kc, .slice ea es.length ec] 28
  go_enter Tryz.func17, Tryz.ntmps17
  go_upto_region 1 with fail
  rw [HW.out]
  clear HW
  go_wp2_with fail
  go_loopw [3] (fun i wr => ∃ k : Nat, k ≤ ns.length ∧ i = .int .i64 k ∧ Hid (Below W1.heap.size W1 wr)) (fun i _ => ns.length - (intOf i).toNat)
  case atStart => exact ⟨0, Nat.zero_le _, rfl, Below.refl _ _⟩
  case round =>
    obtain ⟨wrA, hwr⟩ : ∃ u, u = wr := ⟨_, rfl⟩
    subst hwr
    obtain ⟨k, hk, rfl, hb⟩ := hrel
    have HBW := Lib.hid (ext_trans HB1.out hb.out)
    have HOR := Lib.hid (HO1.out.keep hb.out)
    have c1 := HOR.out.cell 1
    dsimp at c1
    by_cases hlt : k < ns.length
    · obtain ⟨b, off, ha, hc⟩ := H3.out k hlt
      obtain rfl : na = some ⟨b, off, none⟩ := ha
      have hc := hc.keep HBW.out
      have HSK := Lib.hid (HSZ.out _ (noi_mem hlt))
      obtain ⟨⟨xi, xk, xp⟩, hx⟩ : ∃ y, noi ns k = y := ⟨_, rfl⟩
      rw [hx] at hc HSK
      obtain ⟨e0, e1, e2⟩ := hc
      dsimp only at e0 e1 e2 HSK
      have i1 : (k : Int) < ns.length := by omega
      clear hx
      obtain ⟨W2, HO2, HB2, HW2, _⟩ := copyNo wrA ⟨xi, xk, xp⟩
      dsimp only [noA] at HO2
      go_upto_region 5 with fail
      rw [HW2.out]
      clear HW2 e0 e1 e2 c1
      have HBW2 := Lib.hid (ext_trans HBW.out HB2.out)
      have HB2' := Lib.hid (ext_trans hb.out HB2.out)
      have HOD2 := Lib.hid (HOR.out.keep HB2.out)
      clear HOR hb
      have d0 := HOD2.out.cell 0
      have d1 := HOD2.out.cell 1
      have d2 := HOD2.out.cell 2
      have d3 := HOD2.out.cell 3
      have d4 := HOD2.out.cell 4
      have d5 := HOD2.out.cell 5
      have x2 := HO2.out.cell 2
      dsimp at d0 d1 d2 d3 d4 d5 x2
      go_wp2_with fail
      refine (rNode_any ⟨hull, ⟨some ⟨b, off, none⟩, ns.length, nc⟩, ⟨pa, ps.length, pc⟩, ⟨sa, ss.length, sc⟩, ⟨ka, ks.length, kc⟩, ⟨ea, es.length, ec⟩⟩ ns xp W2 (HX.out.n.keep HBW2.out) hl).mono ?_
      rintro e w3 ⟨rfl, hb3⟩
      have HB3 := Lib.hid (ext_trans HB2'.out hb3)
      have HBW3 := Lib.hid (ext_trans HBW2.out hb3)
      have HX3 := Lib.hid (HO2.out.keep hb3)
      clear hb3 d0 d1 d2 d3 d4 d5 x2 HO2 HB2' HBW2
      unfold nodeV
      obtain ⟨⟨yi, yk, yp⟩, hy⟩ : ∃ y, (noFind ns xp).getD default = y := ⟨_, rfl⟩
      obtain ⟨b3, hbb⟩ : ∃ b, (noFind ns xp).isSome = b := ⟨_, rfl⟩
      rw [hy, hbb]
      clear hy hbb
      obtain ⟨W3b, hW3b⟩ : ∃ W, w3.alloc (.cells #[.string (bs yi), .int .i64 yk, .string (bs yp)] 107) = W := ⟨_, rfl⟩
      have HO3b : Hid (ObjAt W3b w3.heap.size #[.string (bs yi), .int .i64 yk, .string (bs yp)] 107) := by show ObjAt ..; rw [← hW3b]; exact ObjAt.new _ _ _
      have HN3 : Hid (Below w3.heap.size w3 W3b) := by show Below ..; rw [← hW3b]; exact (Below.refl _ _).alloc (Nat.le_refl _) _
      have HW3b := Lib.hid hW3b
      clear hW3b
      simp only [noA]
      go_upto_region 6 with fail
      rw [HW3b.out]
      clear HW3b
      have HB4 := Lib.hid (ext_trans HB3.out HN3.out)
      have HBW4 := Lib.hid (ext_trans HBW3.out HN3.out)
      have HX4 := Lib.hid (HX3.out.keep HN3.out)
      clear HO3b HN3 HX3 HB3 HBW3
      refine wp_region_et gmT gmT_ok [⟨wrA.heap.size, 0, [.string (bs xi), .int .i64 xk, .string (bs xp)]⟩] (Below W3b.heap.size W3b) [(4, 0)] [(33, .ret (.bool (idB xi)))] [(30, .bool (!idB xi))] (by kernel_rfl) (Below.refl _ _)
        (obsC (fun u hu => rangeKeep (range_new HX4.out) hu) obsN) ⟨rfl, trivial⟩ ?_
      conv => whnf
      refine And.intro (under_of fun u hu => ret_in (rId_any xi u HSK.out) hu) ?_
      conv => whnf
      intro f4
      conv => whnf
      refine And.intro (rfl) ?_
      conv => whnf
      intro w5 h5
      have HB5 := Lib.hid (ext_trans HB4.out h5)
      have HBW5 := Lib.hid (ext_trans HBW4.out h5)
      have HX5 := Lib.hid (HX4.out.keep h5)
      clear h5 HX4 HB4 HBW4
      obtain ⟨z, hz⟩ : ∃ p, (!idB xi) = p := ⟨_, rfl⟩
      rw [hz]
      clear hz
      cases z
      rotate_left
      · go_wp2_with fail
        go_ret
        exact ⟨_, rfl, HBW5.out⟩
      go_upto_region 8 with fail
      refine wp_region_et gmT gmT_ok [⟨wrA.heap.size, 0, [.string (bs xi), .int .i64 xk, .string (bs xp)]⟩] (Below w5.heap.size w5) [(4, 0)] [] [(35, .bool ((xk != 1) && (xk != 2)))] (by kernel_rfl) (Below.refl _ _)
        (obsC (fun u hu => rangeKeep (range_new HX5.out) hu) obsN) ⟨rfl, trivial⟩ ?_
      conv => whnf
      intro f5
      conv => whnf
      refine And.intro (rfl) ?_
      conv => whnf
      intro w6 h6
      have HB6 := Lib.hid (ext_trans HB5.out h6)
      have HBW6 := Lib.hid (ext_trans HBW5.out h6)
      have HX6 := Lib.hid (HX5.out.keep h6)
      clear h6 HX5 HB5 HBW5
      obtain ⟨z, hz⟩ : ∃ p, ((xk != 1) && (xk != 2)) = p := ⟨_, rfl⟩
      rw [hz]
      clear hz
      cases z
      rotate_left
      · go_wp2_with fail
        go_ret
        exact ⟨_, rfl, HBW6.out⟩
      go_upto_region 10 with fail
      refine wp_region_et gmT gmT_ok [⟨wrA.heap.size, 0, [.string (bs xi), .int .i64 xk, .string (bs xp)]⟩] (Below w6.heap.size w6) [(4, 0)] [] [(44, .bool ((xk == 1) && (!((bs xp).toList == (⟨#[]⟩ : ByteArray).toList))))] (by kernel_rfl) (Below.refl _ _)
        (obsC (fun u hu => rangeKeep (range_new HX6.out) hu) obsN) ⟨rfl, trivial⟩ ?_
      conv => whnf
      intro f6
      conv => whnf
      refine And.intro (rfl) ?_
      conv => whnf
      intro w7 h7
      have HB7 := Lib.hid (ext_trans HB6.out h7)
      have HBW7 := Lib.hid (ext_trans HBW6.out h7)
      have HX7 := Lib.hid (HX6.out.keep h7)
      clear h7 HX6 HB6 HBW6
      obtain ⟨z, hz⟩ : ∃ p, ((xk == 1) && (!((bs xp).toList == (⟨#[]⟩ : ByteArray).toList))) = p := ⟨_, rfl⟩
      rw [hz]
      clear hz
      cases z
      rotate_left
      · go_wp2_with fail
        go_ret
        exact ⟨_, rfl, HBW7.out⟩
      go_upto_region 12 with fail
      refine wp_region_et gmT gmT_ok [⟨wrA.heap.size, 0, [.string (bs xi), .int .i64 xk, .string (bs xp)]⟩] (Below w7.heap.size w7) [(4, 0)] [] [(53, .bool ((xk == 2) && (!b3)))] (by kernel_rfl) (Below.refl _ _)
        (obsC (fun u hu => rangeKeep (range_new HX7.out) hu) obsN) ⟨rfl, trivial⟩ ?_
      conv => whnf
      intro f7
      conv => whnf
      refine And.intro (rfl) ?_
      conv => whnf
      intro w8 h8
      have HB8 := Lib.hid (ext_trans HB7.out h8)
      have HBW8 := Lib.hid (ext_trans HBW7.out h8)
      have HX8 := Lib.hid (HX7.out.keep h8)
      clear h8 HX7 HB7 HBW7
      obtain ⟨z, hz⟩ : ∃ p, ((xk == 2) && (!b3)) = p := ⟨_, rfl⟩
      rw [hz]
      clear hz
      cases z
      rotate_left
      · go_wp2_with fail
        go_ret
        exact ⟨_, rfl, HBW8.out⟩
      go_wp2_with fail
      go_roundw
      case rel => exact ⟨k + 1, by omega, by go_num, HB8⟩
      case measure => simp [intOf]; omega
    have i1 : ¬ (k : Int) < ns.length := by omega
    clear HOR hk hlt
    have HB1' := hb
    go_wp2_with fail
    go_loopw [7] (fun i wr => ∃ k : Nat, k ≤ ns.length ∧ i = .int .i64 k ∧ Hid (Below W1.heap.size W1 wr)) (fun i _ => ns.length - (intOf i).toNat)
    case atStart => exact ⟨0, Nat.zero_le _, rfl, HB1'⟩
    case round =>
      clear HB1' hb HBW c1
      obtain ⟨wrB, hwr⟩ : ∃ u, u = wr := ⟨_, rfl⟩
      subst hwr
      obtain ⟨k, hk, rfl, hb⟩ := hrel
      have HBW := Lib.hid (ext_trans HB1.out hb.out)
      have HOR := Lib.hid (HO1.out.keep hb.out)
      have c1 := HOR.out.cell 1
      dsimp at c1
      by_cases hlt : k < ns.length
      · obtain ⟨b, off, ha, hc⟩ := H3.out k hlt
        obtain rfl : na = some ⟨b, off, none⟩ := ha
        have hc := hc.keep HBW.out
        obtain ⟨⟨xi, xk, xp⟩, hx⟩ : ∃ y, noi ns k = y := ⟨_, rfl⟩
        rw [hx] at hc
        have HC0 := Lib.hid (intR hc.c0)
        have i1 : (k : Int) < ns.length := by omega
        clear hx hc
        go_upto_region 17 with fail
        clear c1
        refine wp_region_sp gmT gmT_ok [⟨w.heap.size, 0, [.string (bs hull), .slice (some ⟨b, off, none⟩) ns.length nc, .slice pa ps.length pc, .slice sa ss.length sc, .slice ka ks.length kc, .slice ea es.length ec]⟩, ⟨b, off + k * 3, [.string (bs xi)]⟩] [(1, 0)] [(73, .ix k 1)] [] [(7, .call 54 [69, 75] [.agg #[.string (bs hull), .slice (some ⟨b, off, none⟩) ns.length nc, .slice pa ps.length pc, .slice sa ss.length sc, .slice ka ks.length kc, .slice ea es.length ec], .string (bs xi)] (fun v _ => TupP IsSl IsBv v)), (8, .fn 7 [] [] (TupP IsSl IsBv) (id)), (9, .fn 8 [] [] (IsSl) (fstV)), (10, .fn 8 [] [] (IsBv) (sndV)), (11, .asg 9), (12, .asg 10)]
          (by kernel_rfl) mixed (by kernel_rfl) (by simp) (by simp [SpK.isPut]) ?_ (obsC (fun u hu => rangeKeep (range_new HOR.out) hu) (obsC (fun u hu => rangeKeep (HC0.out) hu) obsN)) ⟨rfl, trivial⟩ ?_
        · exact List.forall_mem_cons.2 ⟨⟨⟨_, _, rfl, rfl, rfl, rfl⟩, enter_up17, kept_P _, fun u hu => (rup_any ⟨hull, ⟨some ⟨b, off, none⟩, ns.length, nc⟩, ⟨pa, ps.length, pc⟩, ⟨sa, ss.length, sc⟩, ⟨ka, ks.length, kc⟩, ⟨ea, es.length, ec⟩⟩ ns xi u (HX.out.n.keep (ext_trans HBW.out hu)) hl).mono fun e w' ⟨v, l, b, e1, e2, _, _, e3⟩ => ⟨_, e1, ⟨_, _, rfl, by obtain ⟨_, _, e4, _⟩ := e2; exact ⟨_, _, _, e4⟩, _, rfl⟩, e3⟩⟩, List.forall_mem_cons.2 ⟨⟨_, (.head _), _, _, rfl, ⟨_, _, rfl, rfl, rfl, ⟨7, .data⟩, by simp, rfl, rfl⟩, (fun n hn => by cases hn), fun a x u h1 h2 h3 => run_move rfl a x u h1 h3⟩, List.forall_mem_cons.2 ⟨⟨_, (.tail _ (.head _)), _, _, rfl, ⟨_, _, rfl, rfl, rfl, ⟨8, .data⟩, by simp, rfl, rfl⟩, (fun n hn => by cases hn), fun a x u h1 h2 h3 => run_fst rfl a x u h1 h3⟩, List.forall_mem_cons.2 ⟨⟨_, (.tail _ (.head _)), _, _, rfl, ⟨_, _, rfl, rfl, rfl, ⟨8, .data⟩, by simp, rfl, rfl⟩, (fun n hn => by cases hn), fun a x u h1 h2 h3 => run_snd rfl a x u h1 h3⟩, List.forall_mem_cons.2 ⟨⟨by simp, _, _, rfl, rfl, ⟨_, _, rfl, rfl, rfl, ⟨9, .data⟩, by simp, rfl, rfl⟩⟩, List.forall_mem_cons.2 ⟨⟨by simp, _, _, rfl, rfl, ⟨_, _, rfl, rfl, rfl, ⟨10, .data⟩, by simp, rfl, rfl⟩⟩, fun p hp => by cases hp⟩⟩⟩⟩⟩⟩
        conv => whnf
        refine And.intro (Nat.le_of_ble_eq_true rfl) ?_
        conv => whnf
        refine And.intro (under_of ⟨rfl, hlt, rfl, rfl⟩) ?_
        conv => whnf
        refine And.intro ⟨⟨rfl, rfl, trivial⟩, trivial, trivial, trivial, trivial⟩ ?_
        intro f1 s1 hs1
        conv => whnf
        intro w7 h7 hj7
        obtain ⟨v7, a7, b7⟩ := hs1 7 rfl _ rfl
        have e7 := hj7 _ ((.head _)) v7 a7
        obtain ⟨v8, a8, b8⟩ := hs1 8 rfl _ rfl
        have e8 := hj7 _ ((.tail _ (.head _))) v8 a8
        obtain ⟨v9, a9, b9⟩ := hs1 9 rfl _ rfl
        have e9 := hj7 _ ((.tail _ (.tail _ (.head _)))) v9 a9
        obtain ⟨v10, a10, b10⟩ := hs1 10 rfl _ rfl
        have e10 := hj7 _ ((.tail _ (.tail _ (.tail _ (.head _))))) v10 a10
        obtain ⟨v11, a11, b11⟩ := hs1 11 rfl _ rfl
        have e11 := hj7 _ ((.tail _ (.tail _ (.tail _ (.tail _ (.head _)))))) v11 a11
        obtain ⟨v12, a12, b12⟩ := hs1 12 rfl _ rfl
        have e12 := hj7 _ ((.tail _ (.tail _ (.tail _ (.tail _ (.tail _ (.head _))))))) v12 a12
        clear hs1 hj7
        rw [a9] at e11
        cases e11
        rw [a10] at e12
        cases e12
        obtain ⟨⟨z, rfl⟩, _⟩ := e10
        rw [← b12 _ rfl]
        have HB7 := Lib.hid (ext_trans hb.out h7)
        have HBW7 := Lib.hid (ext_trans HBW.out h7)
        clear h7 hb HBW HOR e7 e8 e9 a7 a8 a9 a10 a11 a12 b7 b8 b9 b10 b11 b12
        cases z
        · go_wp2_with fail
          go_ret
          exact ⟨_, rfl, HBW7.out⟩
        · go_wp2_with fail
          go_roundw
          case rel => exact ⟨k + 1, by omega, by go_num, HB7⟩
          case measure => simp [intOf]; omega
      have i1 : ¬ (k : Int) < ns.length := by omega
      clear HOR hk hlt
      have HB1' := hb
      go_wp2_with fail
      go_loopw [10] (fun i wr => ∃ k : Nat, k ≤ ns.length ∧ i = .int .i64 k ∧ Hid (Below W1.heap.size W1 wr)) (fun i _ => ns.length - (intOf i).toNat)
      case atStart => exact ⟨0, Nat.zero_le _, rfl, HB1'⟩
      case round =>
        clear HB1' hb HBW c1
        obtain ⟨wrC, hwr⟩ : ∃ u, u = wr := ⟨_, rfl⟩
        subst hwr
        obtain ⟨k, hk, rfl, hb⟩ := hrel
        have HBW := Lib.hid (ext_trans HB1.out hb.out)
        have HOR := Lib.hid (HO1.out.keep hb.out)
        have c1 := HOR.out.cell 1
        dsimp at c1
        by_cases hlt : k < ns.length
        · obtain ⟨b, off, ha, hc⟩ := H3.out k hlt
          obtain rfl : na = some ⟨b, off, none⟩ := ha
          have hc := hc.keep HBW.out
          obtain ⟨⟨xi, xk, xp⟩, hx⟩ : ∃ y, noi ns k = y := ⟨_, rfl⟩
          rw [hx] at hc
          have HC0 := Lib.hid (intR hc.c0)
          have i1 : (k : Int) < ns.length := by omega
          clear hx hc
          go_upto_region 23 with fail
          clear c1
          refine wp_region_sp gmT gmT_ok [⟨w.heap.size, 0, [.string (bs hull), .slice (some ⟨b, off, none⟩) ns.length nc, .slice pa ps.length pc, .slice sa ss.length sc, .slice ka ks.length kc, .slice ea es.length ec]⟩, ⟨b, off + k * 3, [.string (bs xi)]⟩] [(1, 0)] [(92, .ix k 1)] [] [(7, .call 55 [88, 94] [.agg #[.string (bs hull), .slice (some ⟨b, off, none⟩) ns.length nc, .slice pa ps.length pc, .slice sa ss.length sc, .slice ka ks.length kc, .slice ea es.length ec], .string (bs xi)] (fun v _ => IsSl v)), (8, .fn 7 [] [] (IsI) (lenV)), (9, .fn 8 [] [] (IsBv) (gtrV 8))]
            (by kernel_rfl) mixed (by kernel_rfl) (by simp) (by simp [SpK.isPut]) ?_ (obsC (fun u hu => rangeKeep (range_new HOR.out) hu) (obsC (fun u hu => rangeKeep (HC0.out) hu) obsN)) ⟨rfl, trivial⟩ ?_
          · exact List.forall_mem_cons.2 ⟨⟨⟨_, _, rfl, rfl, rfl, rfl⟩, enter_Path17, kept_P _, fun u hu => (rPath_any ⟨hull, ⟨some ⟨b, off, none⟩, ns.length, nc⟩, ⟨pa, ps.length, pc⟩, ⟨sa, ss.length, sc⟩, ⟨ka, ks.length, kc⟩, ⟨ea, es.length, ec⟩⟩ ns ps xi u (HX.out.n.keep (ext_trans HBW.out hu)) hl (HX.out.p.keep (ext_trans HBW.out hu)) (fun x hx => (HX.out.po x hx).keep (ext_trans HBW.out hu)) hpl).mono fun e w' ⟨v, l, e1, e2, e3⟩ => ⟨_, e1, (by obtain ⟨_, _, e4, _⟩ := e2; exact ⟨_, _, _, e4⟩), e3⟩⟩, List.forall_mem_cons.2 ⟨⟨_, (.head _), _, _, rfl, ⟨_, _, rfl, rfl, rfl, ⟨7, .data⟩, by simp, rfl, rfl⟩, (fun n hn => by cases hn), fun a x u h1 h2 h3 => run_lenS rfl a x u h1 h3⟩, List.forall_mem_cons.2 ⟨⟨_, (.tail _ (.head _)), _, _, rfl, ⟨_, _, rfl, rfl, rfl, ⟨8, .data⟩, by simp, rfl, rfl⟩, (fun n hn => by cases hn), fun a x u h1 h2 h3 => run_gtrV 8 rfl a x u h1 h3⟩, fun p hp => by cases hp⟩⟩⟩
          conv => whnf
          refine And.intro (Nat.le_of_ble_eq_true rfl) ?_
          conv => whnf
          refine And.intro (under_of ⟨rfl, hlt, rfl, rfl⟩) ?_
          conv => whnf
          refine And.intro ⟨⟨rfl, rfl, trivial⟩, trivial, trivial, trivial⟩ ?_
          intro f1 s1 hs1
          conv => whnf
          intro w7 h7 hj7
          obtain ⟨v7, a7, b7⟩ := hs1 7 rfl _ rfl
          have e7 := hj7 _ ((.head _)) v7 a7
          obtain ⟨v8, a8, b8⟩ := hs1 8 rfl _ rfl
          have e8 := hj7 _ ((.tail _ (.head _))) v8 a8
          obtain ⟨v9, a9, b9⟩ := hs1 9 rfl _ rfl
          have e9 := hj7 _ ((.tail _ (.tail _ (.head _)))) v9 a9
          clear hs1 hj7
          obtain ⟨⟨z, rfl⟩, _⟩ := e9
          rw [← b9 _ rfl]
          have HB7 := Lib.hid (ext_trans hb.out h7)
          have HBW7 := Lib.hid (ext_trans HBW.out h7)
          clear h7 hb HBW HOR e7 e8 a7 a8 a9 b7 b8 b9
          cases z
          · go_wp2_with fail
            go_roundw
            case rel => exact ⟨k + 1, by omega, by go_num, HB7⟩
            case measure => simp [intOf]; omega
          · go_wp2_with fail
            go_ret
            exact ⟨_, rfl, HBW7.out⟩
        have i1 : ¬ (k : Int) < ns.length := by omega
        go_wp2_with fail
        go_ret
        exact ⟨_, rfl, HBW.out⟩
end Go.Proofs.YtfpnjbomlmhlpaaGreat

/- The reference's structure: parts, seams (printed by wip/gen_gmu.py). -/
namespace Go.Proofs.YtfpnjbomlmhlpaaGreat
open Go.RowKit

theorem alloc_node (w : World) : (Instr.alloc 107 true (.tuple #[])).run Tryz.prog w = .ok (.pointer (some ⟨w.heap.size, 0, none⟩)) (w.alloc (.cells #[.string ⟨#[]⟩, .int .i64 0, .string ⟨#[]⟩] 107)) := by go_simp
theorem one_node (a b : ByteArray) (k : Int) : (#[.string a, .int .i64 k, .string b] : Array Value).all (·.oneCell') = true := by simp [Value.oneCell']
theorem part_forms {w : World} {x : Prt} (h : PrtOK w x) : ∃ oa on oc, x.ov = .slice oa on oc ∧ ∃ ha hn hc, x.hv = .slice ha hn hc := by
  obtain ⟨a, c, e, _⟩ := h.o
  obtain ⟨a', c', e', _⟩ := h.hs
  exact ⟨_, _, _, e, _, _, _, e'⟩
theorem kept_IsI : KeptV fun v _ => IsI v := kept_I

set_option maxRecDepth 100000 in
set_option maxHeartbeats 1600000 in
theorem r17parts_any (D : Des) (ns : List Nod) (es : List Nd) (ps : List Prt) (ss : List Sea) (ks : List Pkg) (g s : Sv) (gs : List Grd) (cs : List Sct) (w : World) (h : DesX w D ns es ps ss ks) (hM : MatOK w g s gs cs) (hgl : ∀ x ∈ gs, x.gauges.length ≤ 1000000) (hcl : cs.length ≤ 100000) (hl : ns.length ≤ 100000) (hs : ∀ x ∈ ps, x.id.length ≤ 1100000 ∧ x.node.length ≤ 1100000) :
    Calls Tryz.prog 18 #[.agg (desA D), .agg (matA g s)] w (RetN w) := by
  have HSZ := Lib.hid hs
  have HM := Lib.hid hM
  have HGL := Lib.hid hgl
  clear hs hM hgl
  have en := h.n.n
  have ep := h.p.n
  have es' := h.s.n
  have ek := h.k.n
  have ee := h.e.n
  have HX := Lib.hid h
  clear h
  obtain ⟨hull, ⟨na, nn, nc⟩, ⟨pa, pn, pc⟩, ⟨sa, sn, sc⟩, ⟨ka, kn, kc⟩, ⟨ea, en2, ec⟩⟩ := D
  dsimp only at en ep es' ek ee
  obtain rfl : nn = ns.length := en
  obtain rfl : pn = ps.length := ep
  obtain rfl : sn = ss.length := es'
  obtain rfl : kn = ks.length := ek
  obtain rfl : en2 = es.length := ee
  have H3 := Lib.hid (fun i (hi : i < ps.length) => HX.out.p.at hi)
  have hpm := HX.out.p.len
  unfold maxLen at hpm
  show Calls Tryz.prog 18 #[.agg #[.string (bs hull), .slice na ns.length nc, .slice pa ps.length pc, .slice sa ss.length sc, .slice ka ks.length kc, .slice ea es.length ec], .agg #[.slice g.a g.n g.c, .slice s.a s.n s.c]] w _
  obtain ⟨W1, HO1, HQ1, HB1, HW⟩ := two_box w #[.string (bs hull), .slice na ns.length nc, .slice pa ps.length pc, .slice sa ss.length sc, .slice ka ks.length kc, .slice ea es.length ec] #[.slice g.a g.n g.c, .slice s.a s.n s.c] 28 32
  go_enter Tryz.func18, Tryz.ntmps18
  go_upto_region 1 with fail
  rw [HW.out]
  clear HW
  go_wp2_with fail
  go_loopw [5] (fun i wr => ∃ k : Nat, k ≤ ps.length ∧ i = .int .i64 k ∧ Hid (Below W1.heap.size W1 wr)) (fun i _ => ps.length - (intOf i).toNat)
  case atStart => exact ⟨0, Nat.zero_le _, rfl, Below.refl _ _⟩
  case round =>
    obtain ⟨wrA, hwr⟩ : ∃ u, u = wr := ⟨_, rfl⟩
    subst hwr
    obtain ⟨k, hk, rfl, hb⟩ := hrel
    have HBW := Lib.hid (ext_trans HB1.out hb.out)
    have HOR := Lib.hid (HO1.out.keep hb.out)
    have HQR := Lib.hid (HQ1.out.keep hb.out)
    have c2 := HOR.out.cell 2
    dsimp at c2
    by_cases hlt : k < ps.length
    · skip
      obtain ⟨b, off, ha, hc⟩ := H3.out k hlt
      obtain rfl : pa = some ⟨b, off, none⟩ := ha
      have hc := hc.keep HBW.out
      have HPK := Lib.hid (HX.out.po _ (pri_mem hlt))
      have HSK := Lib.hid (HSZ.out _ (pri_mem hlt))
      obtain ⟨⟨yi, rev, kd, nd, gr, th, ov, hv, sct, ln2, ms, cx, cy, cz, ax, ay, az, tn, outer, holes, hvs⟩, hx⟩ : ∃ y, pri ps k = y := ⟨_, rfl⟩
      rw [hx] at hc HPK HSK
      obtain ⟨oa, on, oc, rfl, ha, hn, hc2, rfl⟩ : ∃ oa on oc, ov = .slice oa on oc ∧ ∃ ha hn hc, hv = .slice ha hn hc := part_forms HPK.out
      have HCP := Lib.hid (pr_range hc)
      dsimp only at HSK
      have i1 : (k : Int) < ps.length := by omega
      clear hx hc
      go_upto_region 4 with fail
      clear c2
      refine wp_region_sp gmT gmT_ok [⟨w.heap.size, 0, [.string (bs hull), .slice na ns.length nc, .slice (some ⟨b, off, none⟩) ps.length pc, .slice sa ss.length sc, .slice ka ks.length kc, .slice ea es.length ec]⟩, ⟨b, off + k * 18, [.string (bs yi), .int .i64 rev, .int .i64 kd, .string (bs nd), .string (bs gr), .int .i64 th, .slice oa on oc, .slice ha hn hc2, .string (bs sct), .int .i64 ln2, .int .i64 ms, .int .i64 cx, .int .i64 cy, .int .i64 cz, .int .i64 ax, .int .i64 ay, .int .i64 az, .int .i64 tn]⟩, ⟨w.heap.size + 1, 0, [.slice g.a g.n g.c, .slice s.a s.n s.c]⟩] [(2, 0), (3, 2)] [(23, .ix k 1)] [] [(6, .call 56 [24, 25] [.agg #[.string (bs yi), .int .i64 rev, .int .i64 kd, .string (bs nd), .string (bs gr), .int .i64 th, .slice oa on oc, .slice ha hn hc2, .string (bs sct), .int .i64 ln2, .int .i64 ms, .int .i64 cx, .int .i64 cy, .int .i64 cz, .int .i64 ax, .int .i64 ay, .int .i64 az, .int .i64 tn], .agg #[.slice g.a g.n g.c, .slice s.a s.n s.c]] (fun v _ => IsI v)), (7, .asg 6)]
        (by kernel_rfl) mixed (by kernel_rfl) (by simp) (by simp [SpK.isPut]) ?_ (obsC (fun u hu => rangeKeep (range_new HOR.out) hu) (obsC (fun u hu => rangeKeep (HCP.out) hu) (obsC (fun u hu => rangeKeep (range_new HQR.out) hu) obsN))) ⟨rfl, rfl, trivial⟩ ?_
      · exact List.forall_mem_cons.2 ⟨⟨⟨_, _, rfl, rfl, rfl, rfl⟩, enter_Chk16, kept_IsI, fun u hu => (rChk16_any ⟨yi, rev, kd, nd, gr, th, .slice oa on oc, .slice ha hn hc2, sct, ln2, ms, cx, cy, cz, ax, ay, az, tn, outer, holes, hvs⟩ g s gs cs u (HPK.out.keep (ext_trans HBW.out hu)) (HM.out.keep (ext_trans HBW.out hu)) HGL.out hcl HSK.out.1 HSK.out.2).mono fun e w' ⟨z, e1, e2⟩ => ⟨_, e1, ⟨z, rfl⟩, e2⟩⟩, List.forall_mem_cons.2 ⟨⟨by simp, _, _, rfl, rfl, ⟨_, _, rfl, rfl, rfl, ⟨6, .data⟩, by simp, rfl, rfl⟩⟩, fun p hp => by cases hp⟩⟩
      conv => whnf
      refine And.intro (under_of ⟨rfl, hlt, rfl, rfl⟩) ?_
      conv => whnf
      refine And.intro (Nat.le_of_ble_eq_true rfl) ?_
      conv => whnf
      refine And.intro (Nat.le_of_ble_eq_true rfl) ?_
      conv => whnf
      refine And.intro ⟨⟨rfl, rfl, trivial⟩, trivial⟩ ?_
      intro f1 s1 hs1
      conv => whnf
      intro w2 h2 hj2
      obtain ⟨v6, a6, b6⟩ := hs1 6 rfl _ rfl
      have e6 := hj2 _ ((.head _)) v6 a6
      obtain ⟨v7, a7, b7⟩ := hs1 7 rfl _ rfl
      have e7 := hj2 _ ((.tail _ (.head _))) v7 a7
      clear hs1 hj2
      rw [a6] at e7
      cases e7
      obtain ⟨y, rfl⟩ := e6
      rw [← b7 _ rfl]
      have HB2 := Lib.hid (ext_trans hb.out h2)
      have HBW2 := Lib.hid (ext_trans HBW.out h2)
      have HO2 := Lib.hid (HOR.out.keep h2)
      have HC2 := Lib.hid (rangeKeep HCP.out h2)
      clear h2 hb HBW HOR HQR HCP a6 b6 a7 b7
      by_cases hy : y = 0
      rotate_left
      · go_wp2_with fail
        go_ret
        exact ⟨_, rfl, HBW2.out⟩
      subst hy
      obtain ⟨⟨ni, nk, np⟩, hnx⟩ : ∃ y, (noFind ns nd).getD default = y := ⟨_, rfl⟩
      obtain ⟨bz, hbz⟩ : ∃ b, (noFind ns nd).isSome = b := ⟨_, rfl⟩
      have HNV : Hid (nodeV ns nd = .tuple #[.agg #[.string (bs ni), .int .i64 nk, .string (bs np)], .bool bz]) := by show _ = _; unfold nodeV; rw [hnx, hbz]; rfl
      have HNC : Hid (∀ u, Below w.heap.size w u → Calls Tryz.prog 52 #[.agg (desA ⟨hull, ⟨na, ns.length, nc⟩, ⟨some ⟨b, off, none⟩, ps.length, pc⟩, ⟨sa, ss.length, sc⟩, ⟨ka, ks.length, kc⟩, ⟨ea, es.length, ec⟩⟩), .string (bs nd)] u (Ret u (.tuple #[.agg #[.string (bs ni), .int .i64 nk, .string (bs np)], .bool bz]))) := fun u hu => by rw [← HNV.out]; exact rNode_any ⟨hull, ⟨na, ns.length, nc⟩, ⟨some ⟨b, off, none⟩, ps.length, pc⟩, ⟨sa, ss.length, sc⟩, ⟨ka, ks.length, kc⟩, ⟨ea, es.length, ec⟩⟩ ns nd u (HX.out.n.keep hu) hl
      clear hnx hbz
      go_upto_region 7 with fail
      refine wp_region_nw gmT gmT_ok [⟨w.heap.size, 0, [.string (bs hull), .slice na ns.length nc, .slice (some ⟨b, off, none⟩) ps.length pc, .slice sa ss.length sc, .slice ka ks.length kc, .slice ea es.length ec]⟩, ⟨b, off + k * 18, [.string (bs yi), .int .i64 rev, .int .i64 kd, .string (bs nd)]⟩] [(2, 0)] [(35, .ix k 1), (38, .ret (.tuple #[.agg #[.string (bs ni), .int .i64 nk, .string (bs np)], .bool bz]))] [(8, .bool bz)] [⟨11, 12, 7, 39, 107, #[.string ⟨#[]⟩, .int .i64 0, .string ⟨#[]⟩], #[.string (bs ni), .int .i64 nk, .string (bs np)]⟩]
        (by kernel_rfl) mixed (by kernel_rfl) (by show ([11, 12] : List Nat).Nodup; decide) ?_ (obsC (fun u hu => rangeKeep (range_new HO2.out) hu) (obsC (fun u hu => rangeKeep (range_take 4 HC2.out) hu) obsN)) ⟨rfl, trivial⟩ ?_
      · exact List.forall_mem_cons.2 ⟨⟨⟨_, rfl, rfl, rfl⟩, ⟨_, rfl, rfl, rfl, ⟨11, .data⟩, by simp, rfl, rfl⟩, alloc_node, by kernel_rfl, rfl, one_node _ _ _⟩, fun p hp => by cases hp⟩
      conv => whnf
      refine And.intro (Nat.le_of_ble_eq_true rfl) ?_
      conv => whnf
      refine And.intro (under_of ⟨rfl, hlt, rfl, rfl⟩) ?_
      conv => whnf
      refine And.intro (under_of fun u hu => HNC.out u (ext_trans HBW2.out hu)) ?_
      conv => whnf
      refine And.intro ⟨rfl, trivial⟩ ?_
      intro f2
      conv => whnf
      refine And.intro rfl ?_
      conv => whnf
      intro w3 h3 hnw3
      obtain ⟨b7, e7, g7, o7⟩ := hnw3 _ (.head _)
      dsimp only at e7
      rw [e7]
      clear hnw3 e7
      have HB3 := Lib.hid (ext_trans HB2.out h3)
      have HBW3 := Lib.hid (ext_trans HBW2.out h3)
      clear h3
      cases bz
      · go_wp2_with fail
        go_ret
        exact ⟨_, rfl, HBW3.out⟩
      · go_wp2_with fail
        go_roundw
        case rel => exact ⟨k + 1, by omega, by go_num, HB3⟩
        case measure => simp [intOf]; omega
    have i1 : ¬ (k : Int) < ps.length := by omega
    clear HOR HQR hk hlt
    have HB1' := hb
    go_wp2_with fail
    go_loopw [9, 10] (fun t i wr => ∃ (k : Nat) (z : Int), k ≤ ps.length ∧ i = .int .i64 k ∧ t = .int .i64 z ∧ Hid (Below W1.heap.size W1 wr)) (fun _ i _ => ps.length - (intOf i).toNat)
    case atStart => exact ⟨0, 0, Nat.zero_le _, rfl, rfl, HB1'⟩
    case round =>
      clear HB1' hb HBW c2
      obtain ⟨wrB, hwr⟩ : ∃ u, u = wr := ⟨_, rfl⟩
      subst hwr
      obtain ⟨k, z, hk, rfl, rfl, hb⟩ := hrel
      have HBW := Lib.hid (ext_trans HB1.out hb.out)
      have HOR := Lib.hid (HO1.out.keep hb.out)
      have HQR := Lib.hid (HQ1.out.keep hb.out)
      have c2 := HOR.out.cell 2
      dsimp at c2
      by_cases hlt : k < ps.length
      · skip
        obtain ⟨b, off, ha, hc⟩ := H3.out k hlt
        obtain rfl : pa = some ⟨b, off, none⟩ := ha
        have hc := hc.keep HBW.out
        have HPK := Lib.hid (HX.out.po _ (pri_mem hlt))
        have HSK := Lib.hid (HSZ.out _ (pri_mem hlt))
        obtain ⟨⟨yi, rev, kd, nd, gr, th, ov, hv, sct, ln2, ms, cx, cy, cz, ax, ay, az, tn, outer, holes, hvs⟩, hx⟩ : ∃ y, pri ps k = y := ⟨_, rfl⟩
        rw [hx] at hc HPK HSK
        obtain ⟨oa, on, oc, rfl, ha, hn, hc2, rfl⟩ : ∃ oa on oc, ov = .slice oa on oc ∧ ∃ ha hn hc, hv = .slice ha hn hc := part_forms HPK.out
        have HCP := Lib.hid (pr_range hc)
        dsimp only at HSK
        have i1 : (k : Int) < ps.length := by omega
        clear hx hc
        go_upto_region 14 with fail
        clear c2
        refine wp_region_sp gmT gmT_ok [⟨w.heap.size, 0, [.string (bs hull), .slice na ns.length nc, .slice (some ⟨b, off, none⟩) ps.length pc, .slice sa ss.length sc, .slice ka ks.length kc, .slice ea es.length ec]⟩, ⟨b, off + k * 18, [.string (bs yi), .int .i64 rev, .int .i64 kd, .string (bs nd), .string (bs gr), .int .i64 th, .slice oa on oc, .slice ha hn hc2, .string (bs sct), .int .i64 ln2, .int .i64 ms, .int .i64 cx, .int .i64 cy, .int .i64 cz, .int .i64 ax, .int .i64 ay, .int .i64 az, .int .i64 tn]⟩, ⟨w.heap.size + 1, 0, [.slice g.a g.n g.c, .slice s.a s.n s.c]⟩] [(2, 0), (3, 2)] [(54, .ix k 1)] [] [(6, .call 57 [55, 56] [.agg #[.string (bs yi), .int .i64 rev, .int .i64 kd, .string (bs nd), .string (bs gr), .int .i64 th, .slice oa on oc, .slice ha hn hc2, .string (bs sct), .int .i64 ln2, .int .i64 ms, .int .i64 cx, .int .i64 cy, .int .i64 cz, .int .i64 ax, .int .i64 ay, .int .i64 az, .int .i64 tn], .agg #[.slice g.a g.n g.c, .slice s.a s.n s.c]] (fun v _ => TupP IsI IsI v)), (7, .fn 6 [] [] (TupP IsI IsI) (id)), (8, .fn 7 [] [] (IsI) (fstV)), (9, .fn 7 [] [] (IsI) (sndV)), (10, .asg 8), (11, .asg 9)]
          (by kernel_rfl) mixed (by kernel_rfl) (by simp) (by simp [SpK.isPut]) ?_ (obsC (fun u hu => rangeKeep (range_new HOR.out) hu) (obsC (fun u hu => rangeKeep (HCP.out) hu) (obsC (fun u hu => rangeKeep (range_new HQR.out) hu) obsN))) ⟨rfl, rfl, trivial⟩ ?_
        · exact List.forall_mem_cons.2 ⟨⟨⟨_, _, rfl, rfl, rfl, rfl⟩, enter_Mass16, kept_P _, fun u hu => (rMass_any ⟨yi, rev, kd, nd, gr, th, .slice oa on oc, .slice ha hn hc2, sct, ln2, ms, cx, cy, cz, ax, ay, az, tn, outer, holes, hvs⟩ g s gs cs u (HPK.out.keep (ext_trans HBW.out hu)) (HM.out.keep (ext_trans HBW.out hu)) HGL.out hcl HSK.out.1 HSK.out.2).mono fun e w' ⟨x1, x2, e1, e2⟩ => ⟨_, e1, ⟨_, _, rfl, ⟨x1, rfl⟩, ⟨x2, rfl⟩⟩, e2⟩⟩, List.forall_mem_cons.2 ⟨⟨_, (.head _), _, _, rfl, ⟨_, _, rfl, rfl, rfl, ⟨6, .data⟩, by simp, rfl, rfl⟩, (fun n hn => by cases hn), fun a x u h1 h2 h3 => run_move rfl a x u h1 h3⟩, List.forall_mem_cons.2 ⟨⟨_, (.tail _ (.head _)), _, _, rfl, ⟨_, _, rfl, rfl, rfl, ⟨7, .data⟩, by simp, rfl, rfl⟩, (fun n hn => by cases hn), fun a x u h1 h2 h3 => run_fst rfl a x u h1 h3⟩, List.forall_mem_cons.2 ⟨⟨_, (.tail _ (.head _)), _, _, rfl, ⟨_, _, rfl, rfl, rfl, ⟨7, .data⟩, by simp, rfl, rfl⟩, (fun n hn => by cases hn), fun a x u h1 h2 h3 => run_snd rfl a x u h1 h3⟩, List.forall_mem_cons.2 ⟨⟨by simp, _, _, rfl, rfl, ⟨_, _, rfl, rfl, rfl, ⟨8, .data⟩, by simp, rfl, rfl⟩⟩, List.forall_mem_cons.2 ⟨⟨by simp, _, _, rfl, rfl, ⟨_, _, rfl, rfl, rfl, ⟨9, .data⟩, by simp, rfl, rfl⟩⟩, fun p hp => by cases hp⟩⟩⟩⟩⟩⟩
        conv => whnf
        refine And.intro (under_of ⟨rfl, hlt, rfl, rfl⟩) ?_
        conv => whnf
        refine And.intro (Nat.le_of_ble_eq_true rfl) ?_
        conv => whnf
        refine And.intro (Nat.le_of_ble_eq_true rfl) ?_
        conv => whnf
        refine And.intro ⟨⟨rfl, rfl, trivial⟩, trivial, trivial, trivial, trivial⟩ ?_
        intro f1 s1 hs1
        conv => whnf
        intro w2 h2 hj2
        obtain ⟨v6, a6, b6⟩ := hs1 6 rfl _ rfl
        have e6 := hj2 _ ((.head _)) v6 a6
        obtain ⟨v7, a7, b7⟩ := hs1 7 rfl _ rfl
        have e7 := hj2 _ ((.tail _ (.head _))) v7 a7
        obtain ⟨v8, a8, b8⟩ := hs1 8 rfl _ rfl
        have e8 := hj2 _ ((.tail _ (.tail _ (.head _)))) v8 a8
        obtain ⟨v9, a9, b9⟩ := hs1 9 rfl _ rfl
        have e9 := hj2 _ ((.tail _ (.tail _ (.tail _ (.head _))))) v9 a9
        obtain ⟨v10, a10, b10⟩ := hs1 10 rfl _ rfl
        have e10 := hj2 _ ((.tail _ (.tail _ (.tail _ (.tail _ (.head _)))))) v10 a10
        obtain ⟨v11, a11, b11⟩ := hs1 11 rfl _ rfl
        have e11 := hj2 _ ((.tail _ (.tail _ (.tail _ (.tail _ (.tail _ (.head _))))))) v11 a11
        clear hs1 hj2
        rw [a8] at e10
        cases e10
        rw [a9] at e11
        cases e11
        obtain ⟨⟨y, rfl⟩, _⟩ := e8
        obtain ⟨⟨y2, rfl⟩, _⟩ := e9
        rw [← b10 _ rfl, ← b11 _ rfl]
        have HB2 := Lib.hid (ext_trans hb.out h2)
        have HBW2 := Lib.hid (ext_trans HBW.out h2)
        clear h2 hb HBW HOR HQR HCP e6 e7 a6 a7 a8 a9 a10 a11 b6 b7 b8 b9 b10 b11
        go_upto_region 15 with fail
        refine wp_region_et gmT gmT_ok [] (Below w2.heap.size w2) [] [] [(9, .int .i64 (IntKind.i64.wrap (z + y)))] (by kernel_rfl) (Below.refl _ _)
          obsN trivial ?_
        conv => whnf
        intro f3
        conv => whnf
        refine And.intro (rfl) ?_
        conv => whnf
        intro w3 h3
        have HB3 := Lib.hid (ext_trans HB2.out h3)
        clear h3
        go_wp2_with fail
        go_roundw
        case rel => exact ⟨k + 1, _, by omega, by go_num, rfl, HB3⟩
        case measure => simp [intOf]; omega
      have i1 : ¬ (k : Int) < ps.length := by omega
      by_cases hz : 1099511627776 < z
      · go_wp2_with fail
        go_ret
        exact ⟨_, rfl, HBW.out⟩
      · go_wp2_with fail
        go_ret
        exact ⟨_, rfl, HBW.out⟩

end Go.Proofs.YtfpnjbomlmhlpaaGreat
