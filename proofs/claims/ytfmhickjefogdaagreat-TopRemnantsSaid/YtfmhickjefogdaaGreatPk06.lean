/- What the tests of the reference say about contours in the plane. -/
import Derived.Test.YtfmhickjefogdaaGreatPk05
set_option linter.unusedSimpArgs false
set_option linter.unusedVariables false

/- Polygons of the reference: Area2, Where (printed by wip/gen_gmc.py). -/
namespace Go.Proofs.YtfmhickjefogdaaGreat
open Go.RowKit

def areaTo (l : List Pnt) : Nat → Int
  | 0 => 0
  | i + 1 => IntKind.i64.wrap (IntKind.i64.wrap (areaTo l i + IntKind.i64.wrap ((pti l i).x * (nxt l i).y)) - IntKind.i64.wrap ((pti l i).y * (nxt l i).x))
noncomputable def area2L (l : List Pnt) : Int := if pchkL l = 0 then areaTo l l.length else 0
def upP (a b q : Pnt) : Bool := decide (a.y ≤ q.y) && decide (q.y < b.y) && decide (0 < turnP a b q)
def dnP (a b q : Pnt) : Bool := decide (b.y ≤ q.y) && decide (q.y < a.y) && decide (turnP a b q < 0)
def insTo (l : List Pnt) (q : Pnt) : Nat → Bool
  | 0 => false
  | i + 1 => if (upP (pti l i) (nxt l i) q || dnP (pti l i) (nxt l i) q) = true then !insTo l q i else insTo l q i
def edgB (l : List Pnt) (q : Pnt) : Bool := (List.range l.length).any fun i => onP q (pti l i) (nxt l i)
noncomputable def whereL (l : List Pnt) (q : Pnt) : Int := if (pchkL l != 0 || !nearP q) = true then -1 else if edgB l q = true then 0 else if insTo l q l.length = true then 1 else -1
set_option maxRecDepth 100000 in
set_option maxHeartbeats 1000000 in
theorem rArea12_any (v : Value) (l : List Pnt) (w : World) (h : SPt w v l) : Calls Tryz.prog 63 #[v] w (Ret w (.int .i64 (area2L l))) := by
  have HS := Lib.hid h
  have hlm := h.len
  obtain ⟨pa, pc, rfl, k1, k2, k3⟩ := h
  have K3 := Lib.hid k3
  have hm : l.length ≤ 9223372036854775807 := by unfold maxLen at hlm; omega
  have HC : Hid (area2L l = if pchkL l = 0 then areaTo l l.length else 0) := rfl
  clear k3 hlm
  go_enter Tryz.func63, Tryz.ntmps63
  go_wp2_with fail
  refine (rChk12_any _ l w HS.out).mono ?_
  rintro e w1 ⟨rfl, hb1⟩
  have HB1 := Lib.hid hb1
  clear hb1
  by_cases hc : pchkL l = 0
  rotate_left
  · rw [if_neg hc] at HC
    go_wp2_with fail
    go_ret
    exact ⟨ret_int HC.out.symm, HB1.out⟩
  rw [if_pos hc] at HC
  have HCK : Hid (l.length ≤ 32) := by
    show _ ≤ _
    unfold pchkL at hc
    split at hc
    · cases hc
    · split at hc
      · cases hc
      · omega
  have hl32 := HCK.out
  rw [hc]
  clear hc HS
  go_wp2_with fail
  go_loopw [3, 4] (fun n i wr => ∃ k : Nat, k ≤ l.length ∧ i = .int .i64 k ∧ n = .int .i64 (areaTo l k) ∧ Hid (Below w.heap.size w wr)) (fun _ i _ => l.length - (intOf i).toNat)
  case atStart => exact ⟨0, Nat.zero_le _, rfl, rfl, HB1⟩
  case round =>
    obtain ⟨i, hi, rfl, rfl, hb⟩ := hrel
    by_cases hlt : i < l.length
    · have m1 : (i + 1) % l.length < l.length := Nat.mod_lt _ (by omega)
      obtain ⟨pb, po, rfl, hc⟩ := K3.out i hlt
      obtain ⟨pb', po', e', hc'⟩ := K3.out _ m1
      cases e'
      have HC1 := Lib.hid (hc.keep hb.out)
      have HC2 := Lib.hid (hc'.keep hb.out)
      have i1 : (i : Int) < l.length := by omega
      clear hc hc'
      go_upto_region 7 with fail
      refine wp_region_nw gmT gmT_ok [⟨pb, po + i * 2, ptCells (pti l i)⟩, ⟨pb, po + (i + 1) % l.length * 2, ptCells (nxt l i)⟩] [] [(18, .ix i 0), (26, .ix ((i + 1) % l.length) 1)] [] [⟨12, 14, 5, 19, 37, #[.int .i64 0, .int .i64 0], ptA (pti l i)⟩, ⟨13, 15, 6, 27, 37, #[.int .i64 0, .int .i64 0], ptA (nxt l i)⟩]
        (by kernel_rfl) mixed (by kernel_rfl) (by show ([12, 14, 13, 15] : List Nat).Nodup; decide) ?_ (obsC (fun u hu => rangeKeep (pt_range HC1.out) hu) (obsC (fun u hu => rangeKeep (pt_range HC2.out) hu) obsN)) trivial ?_
      · exact List.forall_mem_cons.2 ⟨⟨⟨_, rfl, rfl, rfl⟩, ⟨_, rfl, rfl, rfl, ⟨12, .data⟩, by simp, rfl, rfl⟩, alloc_point, by kernel_rfl, rfl, pt_one _⟩, List.forall_mem_cons.2 ⟨⟨⟨_, rfl, rfl, rfl⟩, ⟨_, rfl, rfl, rfl, ⟨13, .data⟩, by simp, rfl, rfl⟩, alloc_point, by kernel_rfl, rfl, pt_one _⟩, fun p hp => by cases hp⟩⟩
      conv => whnf
      refine And.intro (under_of ⟨rfl, hlt, rfl, rfl⟩) ?_
      conv => whnf
      refine And.intro (Nat.le_of_ble_eq_true rfl) ?_
      conv => whnf
      refine And.intro (under_of (by omega)) ?_
      conv => whnf
      refine And.intro (under_of ⟨modix1 (by omega), m1, rfl, rfl⟩) ?_
      conv => whnf
      refine And.intro (Nat.le_of_ble_eq_true rfl) ?_
      conv => whnf
      refine And.intro ⟨rfl, rfl, trivial⟩ ?_
      intro f1
      conv => whnf
      intro w2 h2 hnw2
      obtain ⟨b5, e5, g5, o5⟩ := hnw2 _ (.head _)
      obtain ⟨b6, e6, g6, o6⟩ := hnw2 _ (.tail _ (.head _))
      dsimp only at e5
      rw [e5]
      dsimp only at e6
      rw [e6]
      clear hnw2 e5 e6
      have HB2 := Lib.hid (ext_trans hb.out h2)
      have O5 := Lib.hid o5
      have O6 := Lib.hid o6
      clear h2 g5 g6 o5 o6
      go_upto_region 8 with fail
      refine wp_region_et gmT gmT_ok [⟨b5, 0, (ptA (pti l i)).toList⟩, ⟨b6, 0, (ptA (nxt l i)).toList⟩] (Below w2.heap.size w2) [(5, 0), (6, 1)] [] [(3, .int .i64 (areaTo l (i + 1)))] (by kernel_rfl) (Below.refl _ _)
        (obsC (fun u hu => rangeKeep (range_new O5.out) hu) (obsC (fun u hu => rangeKeep (range_new O6.out) hu) obsN)) ⟨rfl, rfl, trivial⟩ ?_
      conv => whnf
      intro f2
      conv => whnf
      refine And.intro (rfl) ?_
      conv => whnf
      intro w3 h3
      have HB3 := Lib.hid (ext_trans HB2.out h3)
      clear h3
      go_wp2_with fail
      go_roundw
      case rel => exact ⟨i + 1, by omega, by go_num, rfl, HB3⟩
      case measure => simp [intOf]; omega
    · have i1 : ¬ (i : Int) < l.length := by omega
      have e : i = l.length := by omega
      subst e
      go_wp2_with fail
      go_ret
      exact ⟨ret_int HC.out.symm, hb.out⟩
set_option maxRecDepth 100000 in
set_option maxHeartbeats 1000000 in
theorem rWhere_any (v : Value) (l : List Pnt) (q : Pnt) (w : World) (h : SPt w v l) : Calls Tryz.prog 65 #[v, ptV q] w (Ret w (.int .i64 (whereL l q))) := by
  have HS := Lib.hid h
  have hlm := h.len
  obtain ⟨pa, pc, rfl, k1, k2, k3⟩ := h
  have K3 := Lib.hid k3
  have hm : l.length ≤ 9223372036854775807 := by unfold maxLen at hlm; omega
  have HC : Hid (whereL l q = if (pchkL l != 0 || !nearP q) = true then -1 else if edgB l q = true then 0 else if insTo l q l.length = true then 1 else -1) := rfl
  clear k3 hlm
  obtain ⟨W1, HOa, HB1, HW⟩ := boxP1 w q
  unfold ptV
  go_enter Tryz.func65, Tryz.ntmps65
  go_upto_region 1 with fail
  rw [HW.out]
  refine wp_region_et gmT gmT_ok [⟨w.heap.size, 0, (ptA q).toList⟩] (Below W1.heap.size W1) [(3, 0)] [(12, .ret (.int .i64 (pchkL l))), (16, .ret (.bool (nearP q)))] [(18, .bool (pchkL l != 0 || !nearP q))] (by kernel_rfl) (Below.refl _ _)
    (obsC (fun u hu => rangeKeep (range_new HOa.out) hu) obsN) ⟨rfl, trivial⟩ ?_
  conv => whnf
  refine And.intro (under_of fun u hu => ret_in (rChk12_any _ l u (HS.out.keep (ext_trans HB1.out hu))) hu) ?_
  conv => whnf
  refine And.intro (Nat.le_of_ble_eq_true rfl) ?_
  conv => whnf
  refine And.intro (under_of fun u hu => ret_in (rNear_any q u) hu) ?_
  conv => whnf
  intro f1
  conv => whnf
  refine And.intro (rfl) ?_
  conv => whnf
  intro w2 h2
  have HB2 := Lib.hid (ext_trans HB1.out h2)
  have HOq := Lib.hid (HOa.out.keep h2)
  clear h2 HW HOa
  obtain ⟨z, hz⟩ : ∃ z, (pchkL l != 0 || !nearP q) = z := ⟨_, rfl⟩
  have HZ := Lib.hid hz
  rw [hz] at HC ⊢
  clear hz
  cases z
  rotate_left
  · rw [if_pos rfl] at HC
    go_wp2_with fail
    go_ret
    exact ⟨ret_int HC.out.symm, HB2.out⟩
  rw [if_neg (by decide)] at HC
  have HCK : Hid (l.length ≤ 32) := by
    show _ ≤ _
    have hc : pchkL l = 0 := by
      have := HZ.out
      rw [Bool.or_eq_false_iff, bne_eq_false_iff_eq] at this
      exact this.1
    unfold pchkL at hc
    split at hc
    · cases hc
    · split at hc
      · cases hc
      · omega
  have hl32 := HCK.out
  clear HS
  go_wp2_with fail
  go_loopw [5, 6] (fun n i wr => ∃ k : Nat, k ≤ l.length ∧ i = .int .i64 k ∧ n = .bool (insTo l q k) ∧ Hid (Below w2.heap.size w2 wr) ∧ Hid (∀ j, j < k → onP q (pti l j) (nxt l j) = false)) (fun _ i _ => l.length - (intOf i).toNat)
  case atStart => exact ⟨0, Nat.zero_le _, rfl, rfl, Below.refl _ _, fun j h => by omega⟩
  case round =>
    obtain ⟨i, hi, rfl, rfl, hb, ha⟩ := hrel
    have HBW := Lib.hid (ext_trans HB2.out hb.out)
    by_cases hlt : i < l.length
    · have m1 : (i + 1) % l.length < l.length := Nat.mod_lt _ (by omega)
      obtain ⟨pb, po, rfl, hc⟩ := K3.out i hlt
      obtain ⟨pb', po', e', hc'⟩ := K3.out _ m1
      cases e'
      have HC1 := Lib.hid (hc.keep HBW.out)
      have HC2 := Lib.hid (hc'.keep HBW.out)
      have i1 : (i : Int) < l.length := by omega
      have HI : Hid (insTo l q (i + 1) = if (upP (pti l i) (nxt l i) q || dnP (pti l i) (nxt l i) q) = true then !insTo l q i else insTo l q i) := rfl
      obtain ⟨s, hs⟩ : ∃ s, insTo l q i = s := ⟨_, rfl⟩
      rw [hs] at HI ⊢
      clear hc hc' hs
      go_upto_region 7 with fail
      refine wp_region_nw gmT gmT_ok [⟨pb, po + i * 2, ptCells (pti l i)⟩, ⟨pb, po + (i + 1) % l.length * 2, ptCells (nxt l i)⟩] [] [(27, .ix i 0), (35, .ix ((i + 1) % l.length) 1)] [] [⟨12, 14, 7, 28, 37, #[.int .i64 0, .int .i64 0], ptA (pti l i)⟩, ⟨13, 15, 8, 36, 37, #[.int .i64 0, .int .i64 0], ptA (nxt l i)⟩]
        (by kernel_rfl) mixed (by kernel_rfl) (by show ([12, 14, 13, 15] : List Nat).Nodup; decide) ?_ (obsC (fun u hu => rangeKeep (pt_range HC1.out) hu) (obsC (fun u hu => rangeKeep (pt_range HC2.out) hu) obsN)) trivial ?_
      · exact List.forall_mem_cons.2 ⟨⟨⟨_, rfl, rfl, rfl⟩, ⟨_, rfl, rfl, rfl, ⟨12, .data⟩, by simp, rfl, rfl⟩, alloc_point, by kernel_rfl, rfl, pt_one _⟩, List.forall_mem_cons.2 ⟨⟨⟨_, rfl, rfl, rfl⟩, ⟨_, rfl, rfl, rfl, ⟨13, .data⟩, by simp, rfl, rfl⟩, alloc_point, by kernel_rfl, rfl, pt_one _⟩, fun p hp => by cases hp⟩⟩
      conv => whnf
      refine And.intro (under_of ⟨rfl, hlt, rfl, rfl⟩) ?_
      conv => whnf
      refine And.intro (Nat.le_of_ble_eq_true rfl) ?_
      conv => whnf
      refine And.intro (under_of (by omega)) ?_
      conv => whnf
      refine And.intro (under_of ⟨modix1 (by omega), m1, rfl, rfl⟩) ?_
      conv => whnf
      refine And.intro (Nat.le_of_ble_eq_true rfl) ?_
      conv => whnf
      refine And.intro ⟨rfl, rfl, trivial⟩ ?_
      intro f1
      conv => whnf
      intro w3 h3 hnw3
      obtain ⟨b7, e7, g7, o7⟩ := hnw3 _ (.head _)
      obtain ⟨b8, e8, g8, o8⟩ := hnw3 _ (.tail _ (.head _))
      dsimp only at e7
      rw [e7]
      dsimp only at e8
      rw [e8]
      clear hnw3 e7 e8
      have HB3 := Lib.hid (ext_trans hb.out h3)
      have HBW3 := Lib.hid (ext_trans HB2.out HB3.out)
      have O7 := Lib.hid o7
      have O8 := Lib.hid o8
      have HQ3 := Lib.hid (HOq.out.keep HB3.out)
      clear h3 g7 g8 o7 o8 HC1 HC2
      go_upto_region 8 with fail
      refine wp_region_et gmT gmT_ok [⟨b7, 0, (ptA (pti l i)).toList⟩, ⟨b8, 0, (ptA (nxt l i)).toList⟩, ⟨w.heap.size, 0, (ptA q).toList⟩] (Below w3.heap.size w3) [(7, 0), (8, 1), (3, 2)] [(40, .ret (.bool (onP q (pti l i) (nxt l i))))] [(40, .bool (onP q (pti l i) (nxt l i)))] (by kernel_rfl) (Below.refl _ _)
        (obsC (fun u hu => rangeKeep (range_new O7.out) hu) (obsC (fun u hu => rangeKeep (range_new O8.out) hu) (obsC (fun u hu => rangeKeep (range_new HQ3.out) hu) obsN))) ⟨rfl, rfl, rfl, trivial⟩ ?_
      conv => whnf
      refine And.intro (Nat.le_of_ble_eq_true rfl) ?_
      conv => whnf
      refine And.intro (Nat.le_of_ble_eq_true rfl) ?_
      conv => whnf
      refine And.intro (Nat.le_of_ble_eq_true rfl) ?_
      conv => whnf
      refine And.intro (under_of fun u hu => ret_in (rOn_any _ _ _ u) hu) ?_
      conv => whnf
      intro f2
      conv => whnf
      refine And.intro (rfl) ?_
      conv => whnf
      intro w4 h4
      have HB4 := Lib.hid (ext_trans HB3.out h4)
      have HBW4 := Lib.hid (ext_trans HB2.out HB4.out)
      have O74 := Lib.hid (O7.out.keep h4)
      have O84 := Lib.hid (O8.out.keep h4)
      have HQ4 := Lib.hid (HQ3.out.keep h4)
      clear h4 O7 O8 HQ3
      obtain ⟨z, hz⟩ : ∃ z, onP q (pti l i) (nxt l i) = z := ⟨_, rfl⟩
      have HZ2 := Lib.hid hz
      rw [hz]
      clear hz
      cases z
      rotate_left
      · have HE : Hid (edgB l q = true) := by
          show _ = _
          unfold edgB
          rw [List.any_eq_true]
          exact ⟨i, List.mem_range.2 hlt, HZ2.out⟩
        rw [if_pos HE.out] at HC
        go_wp2_with fail
        go_ret
        exact ⟨ret_int HC.out.symm, HBW4.out⟩
      have HA : Hid (∀ j, j < i + 1 → onP q (pti l j) (nxt l j) = false) := fun j h => by
        by_cases e : j = i
        · subst e; exact HZ2.out
        · exact ha.out j (by omega)
      clear ha HZ2
      go_upto_region 10 with fail
      refine wp_region_et gmT gmT_ok [⟨b7, 0, (ptA (pti l i)).toList⟩, ⟨b8, 0, (ptA (nxt l i)).toList⟩, ⟨w.heap.size, 0, (ptA q).toList⟩] (Below w4.heap.size w4) [(7, 0), (8, 1), (3, 2)] [(57, .ret (.int .i64 (turnP (pti l i) (nxt l i) q)))] [(9, .bool (upP (pti l i) (nxt l i) q))] (by kernel_rfl) (Below.refl _ _)
        (obsC (fun u hu => rangeKeep (range_new O74.out) hu) (obsC (fun u hu => rangeKeep (range_new O84.out) hu) (obsC (fun u hu => rangeKeep (range_new HQ4.out) hu) obsN))) ⟨rfl, rfl, rfl, trivial⟩ ?_
      conv => whnf
      refine And.intro (Nat.le_of_ble_eq_true rfl) ?_
      conv => whnf
      refine And.intro (Nat.le_of_ble_eq_true rfl) ?_
      conv => whnf
      refine And.intro (Nat.le_of_ble_eq_true rfl) ?_
      conv => whnf
      refine And.intro (under_of fun u hu => ret_in (rTurn_any _ _ _ u) hu) ?_
      conv => whnf
      intro f3
      conv => whnf
      refine And.intro (rfl) ?_
      conv => whnf
      intro w5 h5
      have HB5 := Lib.hid (ext_trans HB4.out h5)
      have O75 := Lib.hid (O74.out.keep h5)
      have O85 := Lib.hid (O84.out.keep h5)
      have HQ5 := Lib.hid (HQ4.out.keep h5)
      clear h5 O74 O84 HQ4
      go_upto_region 11 with fail
      refine wp_region_et gmT gmT_ok [⟨b7, 0, (ptA (pti l i)).toList⟩, ⟨b8, 0, (ptA (nxt l i)).toList⟩, ⟨w.heap.size, 0, (ptA q).toList⟩] (Below w5.heap.size w5) [(7, 0), (8, 1), (3, 2)] [(76, .ret (.int .i64 (turnP (pti l i) (nxt l i) q)))] [(10, .bool (dnP (pti l i) (nxt l i) q))] (by kernel_rfl) (Below.refl _ _)
        (obsC (fun u hu => rangeKeep (range_new O75.out) hu) (obsC (fun u hu => rangeKeep (range_new O85.out) hu) (obsC (fun u hu => rangeKeep (range_new HQ5.out) hu) obsN))) ⟨rfl, rfl, rfl, trivial⟩ ?_
      conv => whnf
      refine And.intro (Nat.le_of_ble_eq_true rfl) ?_
      conv => whnf
      refine And.intro (Nat.le_of_ble_eq_true rfl) ?_
      conv => whnf
      refine And.intro (Nat.le_of_ble_eq_true rfl) ?_
      conv => whnf
      refine And.intro (under_of fun u hu => ret_in (rTurn_any _ _ _ u) hu) ?_
      conv => whnf
      intro f4
      conv => whnf
      refine And.intro (rfl) ?_
      conv => whnf
      intro w6 h6
      have HB6 := Lib.hid (ext_trans HB5.out h6)
      clear h6 O75 O85 HQ5
      obtain ⟨u, hu⟩ : ∃ u, upP (pti l i) (nxt l i) q = u := ⟨_, rfl⟩
      obtain ⟨v, hv⟩ : ∃ v, dnP (pti l i) (nxt l i) q = v := ⟨_, rfl⟩
      rw [hu, hv] at HI
      rw [hu, hv]
      clear hu hv
      cases u <;> cases v
      · rw [if_neg (by decide)] at HI
        go_wp2_with fail
        go_roundw
        case rel => exact ⟨i + 1, by omega, by go_num, congrArg Value.bool HI.out.symm, HB6, HA⟩
        case measure => simp [intOf]; omega
      all_goals
        rw [if_pos (by decide)] at HI
        go_wp2_with fail
        go_roundw
        case rel => exact ⟨i + 1, by omega, by go_num, congrArg Value.bool HI.out.symm, HB6, HA⟩
        case measure => simp [intOf]; omega
    · have i1 : ¬ (i : Int) < l.length := by omega
      have e : i = l.length := by omega
      subst e
      have HE : Hid (¬ edgB l q = true) := by
        show ¬ _
        unfold edgB
        rw [List.any_eq_true]
        rintro ⟨j, h1, h2⟩
        rw [ha.out j (List.mem_range.1 h1)] at h2
        cases h2
      rw [if_neg HE.out] at HC
      obtain ⟨s, hs⟩ : ∃ s, insTo l q l.length = s := ⟨_, rfl⟩
      rw [hs] at HC ⊢
      clear hs
      cases s
      · rw [if_neg (by decide)] at HC
        go_wp2_with fail
        go_ret
        exact ⟨ret_int HC.out.symm, HBW.out⟩
      · rw [if_pos rfl] at HC
        go_wp2_with fail
        go_ret
        exact ⟨ret_int HC.out.symm, HBW.out⟩
end Go.Proofs.YtfmhickjefogdaaGreat

/- Regions of the reference: cross; Check, contours, Area2 come back with a number (printed by wip/gen_gmd.py). -/
namespace Go.Proofs.YtfmhickjefogdaaGreat
open Go.RowKit

def crossB (p q : List Pnt) : Bool := (List.range p.length).any fun i => (List.range q.length).any fun k => meetQ (pti p i) (nxt p i) (pti q k) (nxt q k)
theorem crossB_true {p q : List Pnt} {i k : Nat} (hi : i < p.length) (hk : k < q.length) (h : meetQ (pti p i) (nxt p i) (pti q k) (nxt q k) = true) : crossB p q = true := by
  unfold crossB
  rw [List.any_eq_true]
  exact ⟨i, List.mem_range.2 hi, by rw [List.any_eq_true]; exact ⟨k, List.mem_range.2 hk, h⟩⟩
theorem crossB_false {p q : List Pnt} (h : ∀ i k, i < p.length → k < q.length → meetQ (pti p i) (nxt p i) (pti q k) (nxt q k) = false) : crossB p q = false := by
  unfold crossB
  rw [List.any_eq_false]
  intro i hi
  rw [Bool.not_eq_true, List.any_eq_false]
  intro k hk
  rw [h i k (List.mem_range.1 hi) (List.mem_range.1 hk)]
  decide
theorem pchk_len {l : List Pnt} (h : pchkL l = 0) : 3 ≤ l.length ∧ l.length ≤ 32 := by
  unfold pchkL at h
  split at h
  · cases h
  · split at h
    · cases h
    · omega
set_option maxRecDepth 100000 in
set_option maxHeartbeats 1000000 in
theorem rcross_any (v u : Value) (l m : List Pnt) (w : World) (h : SPt w v l) (h' : SPt w u m) (hl : l.length ≤ 100000) (hl' : m.length ≤ 100000) : Calls Tryz.prog 64 #[v, u] w (Ret w (.bool (crossB l m))) := by
  obtain ⟨pa, pc, rfl, k1, k2, k3⟩ := h
  obtain ⟨qa, qc, rfl, j1, j2, j3⟩ := h'
  have K3 := Lib.hid k3
  have J3 := Lib.hid j3
  clear k3 j3
  go_enter Tryz.func64, Tryz.ntmps64
  go_wp2_with fail
  go_loopw [5] (fun i wr => ∃ k : Nat, k ≤ l.length ∧ i = .int .i64 k ∧ Hid (Below w.heap.size w wr) ∧ Hid (∀ i n, i < k → n < m.length → meetQ (pti l i) (nxt l i) (pti m n) (nxt m n) = false)) (fun i _ => l.length - (intOf i).toNat)
  case atStart => exact ⟨0, Nat.zero_le _, rfl, Below.refl _ _, fun i n h1 h2 => by omega⟩
  case round =>
    obtain ⟨i, hi, rfl, hb, ha⟩ := hrel
    by_cases hlt : i < l.length
    · have i1 : (i : Int) < l.length := by omega
      go_wp2_with fail
      go_loopw [6] (fun i2 wr2 => ∃ k : Nat, k ≤ m.length ∧ i2 = .int .i64 k ∧ Hid (Below w.heap.size w wr2) ∧ Hid (∀ n, n < k → meetQ (pti l i) (nxt l i) (pti m n) (nxt m n) = false)) (fun i2 _ => m.length - (intOf i2).toNat)
      case atStart => exact ⟨0, Nat.zero_le _, rfl, hb, fun n h => by omega⟩
      case round =>
        obtain ⟨k, hk, rfl, hb2, ha2⟩ := hrel
        by_cases hlt2 : k < m.length
        · have m1 : (i + 1) % l.length < l.length := Nat.mod_lt _ (by omega)
          have m2 : (k + 1) % m.length < m.length := Nat.mod_lt _ (by omega)
          obtain ⟨pb, po, rfl, hc⟩ := K3.out i hlt
          obtain ⟨pb', po', e', hc'⟩ := K3.out _ m1
          cases e'
          obtain ⟨qb, qo, rfl, hd⟩ := J3.out k hlt2
          obtain ⟨qb', qo', e', hd'⟩ := J3.out _ m2
          cases e'
          have HC1 := Lib.hid (hc.keep hb2.out)
          have HC2 := Lib.hid (hc'.keep hb2.out)
          have HD1 := Lib.hid (hd.keep hb2.out)
          have HD2 := Lib.hid (hd'.keep hb2.out)
          have i2 : (k : Int) < m.length := by omega
          clear hc hc' hd hd'
          go_upto_region 7 with fail
          refine wp_region_ev gmT gmT_ok [⟨pb, po + i * 2, ptCells (pti l i)⟩, ⟨pb, po + (i + 1) % l.length * 2, ptCells (nxt l i)⟩, ⟨qb, qo + k * 2, ptCells (pti m k)⟩, ⟨qb, qo + (k + 1) % m.length * 2, ptCells (nxt m k)⟩] (Below wr.heap.size wr) [] [(21, .ix i 0), (29, .ix ((i + 1) % l.length) 1), (33, .ix k 2), (41, .ix ((k + 1) % m.length) 3), (43, .ret (.bool (meetQ (pti l i) (nxt l i) (pti m k) (nxt m k))))] [(43, .bool (meetQ (pti l i) (nxt l i) (pti m k) (nxt m k)))] (by kernel_rfl) mixed (by kernel_rfl) ((Below.refl _ _).drew)
            (obsC (fun u hu => rangeKeep (pt_range HC1.out) hu) (obsC (fun u hu => rangeKeep (pt_range HC2.out) hu) (obsC (fun u hu => rangeKeep (pt_range HD1.out) hu) (obsC (fun u hu => rangeKeep (pt_range HD2.out) hu) obsN)))) trivial ?_
          conv => whnf
          refine And.intro (under_of ⟨rfl, hlt, rfl, rfl⟩) ?_
          conv => whnf
          refine And.intro (Nat.le_of_ble_eq_true rfl) ?_
          conv => whnf
          refine And.intro (under_of (by omega)) ?_
          conv => whnf
          refine And.intro (under_of ⟨modix1 (by omega), m1, rfl, rfl⟩) ?_
          conv => whnf
          refine And.intro (Nat.le_of_ble_eq_true rfl) ?_
          conv => whnf
          refine And.intro (under_of ⟨rfl, hlt2, rfl, rfl⟩) ?_
          conv => whnf
          refine And.intro (Nat.le_of_ble_eq_true rfl) ?_
          conv => whnf
          refine And.intro (under_of (by omega)) ?_
          conv => whnf
          refine And.intro (under_of ⟨modix1 (by omega), m2, rfl, rfl⟩) ?_
          conv => whnf
          refine And.intro (Nat.le_of_ble_eq_true rfl) ?_
          conv => whnf
          refine And.intro (under_of fun u hu => ret_in (rmeet_any _ _ _ _ u) hu) ?_
          conv => whnf
          intro f1
          conv => whnf
          refine And.intro (rfl) ?_
          conv => whnf
          intro w2 h2
          have HB2 := Lib.hid (ext_trans hb2.out h2)
          clear h2
          obtain ⟨z, hz⟩ : ∃ z, meetQ (pti l i) (nxt l i) (pti m k) (nxt m k) = z := ⟨_, rfl⟩
          have HZ := Lib.hid hz
          rw [hz]
          clear hz
          cases z
          rotate_left
          · have HN := Lib.hid (crossB_true hlt hlt2 HZ.out)
            go_wp2_with fail
            go_ret
            exact ⟨ret_bool HN.out.symm, HB2.out⟩
          · have HA : Hid (∀ n, n < k + 1 → meetQ (pti l i) (nxt l i) (pti m n) (nxt m n) = false) := fun n h => by
              by_cases e : n = k
              · subst e; exact HZ.out
              · exact ha2.out n (by omega)
            go_wp2_with fail
            go_roundw
            case rel => exact ⟨k + 1, by omega, by go_num, HB2, HA⟩
            case measure => simp [intOf]; omega
        · have i2 : ¬ (k : Int) < m.length := by omega
          have HA : Hid (∀ i' n, i' < i + 1 → n < m.length → meetQ (pti l i') (nxt l i') (pti m n) (nxt m n) = false) := fun i' n h1 h2 => by
            by_cases e : i' = i
            · subst e; exact ha2.out n (by omega)
            · exact ha.out i' n (by omega) h2
          go_wp2_with fail
          go_roundw
          case rel => exact ⟨i + 1, by omega, by go_num, hb2, HA⟩
          case measure => simp [intOf]; omega
    · have i1 : ¬ (i : Int) < l.length := by omega
      have HN := Lib.hid (crossB_false fun i' n h1 h2 => ha.out i' n (by omega) h2)
      go_wp2_with fail
      go_ret
      exact ⟨ret_bool HN.out.symm, hb.out⟩
theorem boxS (w : World) (oa : Option Addr) (on oc : Nat) (ha : Option Addr) (hn hc : Nat) : ∃ W1, Hid (ObjAt W1 w.heap.size #[.slice oa on oc, .slice ha hn hc] 47) ∧ Hid (Below w.heap.size w W1) ∧ Hid (w.alloc (.cells #[.slice oa on oc, .slice ha hn hc] 47) = W1) :=
  ⟨_, ObjAt.new _ _ _, (Below.refl _ _).alloc (Nat.le_refl _) _, rfl⟩
/-- it comes back with a number -/
def RetN (w : World) (e : Ending) (w' : World) : Prop := ∃ z : Int, e = .returned (.int .i64 z) ∧ Below w.heap.size w w'
/-- a shape -/
structure ShpOK (w : World) (ov hv : Value) (outer : List Pnt) (holes : List (List Pnt)) (hvs : List Value) : Prop where
  o : SPt w ov outer
  n : hvs.length = holes.length
  hs : Sl w hv hvs.length fun i => hvs.getD i default
  h : ∀ i, i < holes.length → SPt w (hvs.getD i default) (holes.getD i [])
theorem ShpOK.keep {w w' : World} {ov hv : Value} {outer : List Pnt} {holes : List (List Pnt)} {hvs : List Value} (h : ShpOK w ov hv outer holes hvs) (hb : Below w.heap.size w w') : ShpOK w' ov hv outer holes hvs := ⟨h.o.keep hb, h.n, Sl.keep h.hs hb, fun i hi => (h.h i hi).keep hb⟩
theorem PrtOK.shp {w : World} {x : Prt} (h : PrtOK w x) : ShpOK w x.ov x.hv x.outer x.holes x.hvs := ⟨h.o, h.n, h.hs, h.h⟩
set_option maxRecDepth 100000 in
/-- too many holes: an error -/
theorem rChk13_full (ov hv : Value) (outer : List Pnt) (holes : List (List Pnt)) (hvs : List Value) (w : World) (h : ShpOK w ov hv outer holes hvs) (hf : 8 < hvs.length) : Calls Tryz.prog 33 #[.agg #[ov, hv]] w fun e w' => ∃ z : Int, z ≠ 0 ∧ e = .returned (.int .i64 z) ∧ Below w.heap.size w w' := by
  obtain ⟨oa, oc, rfl, _⟩ := h.o
  obtain ⟨ha, hc, rfl, s1, s2, _⟩ := h.hs
  unfold maxLen at s2
  clear h
  obtain ⟨W1, HS1, HB1, HW1⟩ := boxS w oa outer.length oc ha hvs.length hc
  have i0 : 8 < (hvs.length : Int) := by omega
  go_enter Tryz.func33, Tryz.ntmps33
  go_upto_region 1 with fail
  rw [HW1.out]
  have c1 := HS1.out.cell 1
  dsimp at c1
  go_wp2_with fail
  go_ret
  exact ⟨_, by decide, rfl, HB1.out⟩
set_option maxRecDepth 100000 in
set_option maxHeartbeats 2000000 in
theorem rChk13_any (ov hv : Value) (outer : List Pnt) (holes : List (List Pnt)) (hvs : List Value) (w : World) (h : ShpOK w ov hv outer holes hvs) : Calls Tryz.prog 33 #[.agg #[ov, hv]] w (RetN w) := by
  have HP := Lib.hid h
  have HO := Lib.hid h.o
  have HNL := Lib.hid h.n
  obtain ⟨oa, oc, rfl, o1, o2, _⟩ := h.o
  obtain ⟨ha, hc, rfl, s1, s2, s3⟩ := h.hs
  have S3 := Lib.hid s3
  unfold maxLen at o2 s2
  clear h s3
  obtain ⟨W1, HS1, HB1, HW1⟩ := boxS w oa outer.length oc ha hvs.length hc
  by_cases hf : 8 < hvs.length
  · have i0 : 8 < (hvs.length : Int) := by omega
    go_enter Tryz.func33, Tryz.ntmps33
    go_upto_region 1 with fail
    rw [HW1.out]
    have c1 := HS1.out.cell 1
    dsimp at c1
    go_wp2_with fail
    go_ret
    exact ⟨_, rfl, HB1.out⟩
  have i0 : ¬ 8 < (hvs.length : Int) := by omega
  go_enter Tryz.func33, Tryz.ntmps33
  go_upto_region 1 with fail
  rw [HW1.out]
  have c0 := HS1.out.cell 0
  have c1 := HS1.out.cell 1
  dsimp at c0 c1
  go_wp2_with fail
  refine (rChk12_any _ outer W1 (HO.out.keep HB1.out)).mono ?_
  rintro e w2 ⟨rfl, hb2⟩
  have HB2 := Lib.hid (ext_trans HB1.out hb2)
  have HS2 := Lib.hid (HS1.out.keep hb2)
  clear hb2 c0 c1
  by_cases hz : pchkL outer = 0
  rotate_left
  · go_wp2_with fail
    go_ret
    exact ⟨_, rfl, HB2.out⟩
  have HZ := Lib.hid hz
  rw [hz]
  have ho32 := pchk_len hz
  clear hz
  have c0 := HS2.out.cell 0
  have c1 := HS2.out.cell 1
  dsimp at c0 c1
  go_wp2_with fail
  refine (rArea12_any _ outer w2 (HO.out.keep HB2.out)).mono ?_
  rintro e w3 ⟨rfl, hb3⟩
  have HB3 := Lib.hid (ext_trans HB2.out hb3)
  have HS3 := Lib.hid (HS2.out.keep hb3)
  clear hb3 c0 c1
  by_cases ha0 : area2L outer ≤ 0
  · go_wp2_with fail
    go_ret
    exact ⟨_, rfl, HB3.out⟩
  go_wp2_with fail
  clear ha0
  go_loopw [4] (fun i wr => ∃ k : Nat, k ≤ hvs.length ∧ i = .int .i64 k ∧ Hid (Below w3.heap.size w3 wr) ∧ Hid (∀ j, j < k → 3 ≤ (holes.getD j []).length ∧ (holes.getD j []).length ≤ 32)) (fun i _ => hvs.length - (intOf i).toNat)
  case atStart => exact ⟨0, Nat.zero_le _, rfl, Below.refl _ _, fun j h => by omega⟩
  case round =>
    obtain ⟨i, hi, rfl, hb, hal⟩ := hrel
    have HBW := Lib.hid (ext_trans HB3.out hb.out)
    have HSW := Lib.hid (HS3.out.keep hb.out)
    have c1 := HSW.out.cell 1
    dsimp at c1
    by_cases hlt : i < hvs.length
    · have i1 : (i : Int) < hvs.length := by omega
      obtain ⟨xb, xo, rfl, hcx⟩ := S3.out i hlt
      have hcx := cell_keep HBW.out hcx
      try dsimp only at hcx
      have HX := Lib.hid ((HP.out.h i (by have := HNL.out; omega)).keep HBW.out)
      obtain ⟨L, hL⟩ : ∃ L, holes.getD i [] = L := ⟨_, rfl⟩
      have HL := Lib.hid hL
      rw [hL] at HX
      obtain ⟨ya, yc, ey, y1, y2, y3⟩ := id HX.out
      rw [ey] at HX hcx
      have Y3 := Lib.hid y3
      clear y3 hL
      unfold maxLen at y2
      go_wp2_with fail
      clear hcx
      refine (rChk12_any _ L wr HX.out).mono ?_
      rintro e w4 ⟨rfl, hb4⟩
      have HB4 := Lib.hid (ext_trans hb.out hb4)
      have HBW4 := Lib.hid (ext_trans HBW.out hb4)
      have HS4 := Lib.hid (HSW.out.keep hb4)
      have HX4 := Lib.hid (HX.out.keep hb4)
      clear c1
      by_cases hz : pchkL L = 0
      rotate_left
      · go_wp2_with fail
        go_ret
        exact ⟨_, rfl, HBW4.out⟩
      rw [hz]
      have hl32 := pchk_len hz
      have hl0 : 0 < L.length := by omega
      obtain ⟨pb, po, rfl, hp0⟩ := Y3.out 0 hl0
      have HP4 := Lib.hid (hp0.keep hb4)
      clear hz hb4 hp0
      go_upto_region 15 with fail
      refine wp_region_ev gmT gmT_ok [⟨w.heap.size, 0, [.slice oa outer.length oc, .slice (some ⟨xb, xo, none⟩) hvs.length hc]⟩, ⟨pb, po + 0 * 2, ptCells (pti L 0)⟩] (Below w4.heap.size w4) [(1, 0)] [(40, .ret (.int .i64 (area2L L))), (46, .ret (.bool (crossB outer L))), (52, .ix 0 1), (54, .ret (.int .i64 (whereL outer (pti L 0))))] [(56, .bool ((decide (0 ≤ area2L L) || crossB outer L) || (whereL outer (pti L 0) != 1)))] (by kernel_rfl) mixed (by kernel_rfl) ((Below.refl _ _).drew)
        (obsC (fun u hu => rangeKeep (range_new HS4.out) hu) (obsC (fun u hu => rangeKeep (pt_range HP4.out) hu) obsN)) ⟨rfl, trivial⟩ ?_
      conv => whnf
      refine And.intro (under_of fun u hu => ret_in (rArea12_any _ L u (HX4.out.keep hu)) hu) ?_
      conv => whnf
      refine And.intro (under_of fun u hu => ret_in (rcross_any _ _ outer L u (HO.out.keep (ext_trans HBW4.out hu)) (HX4.out.keep hu) (by omega) (by omega)) hu) ?_
      conv => whnf
      refine And.intro (under_of ⟨rfl, hl0, rfl, rfl⟩) ?_
      conv => whnf
      refine And.intro (Nat.le_of_ble_eq_true rfl) ?_
      conv => whnf
      refine And.intro (under_of fun u hu => ret_in (rWhere_any _ outer (pti L 0) u (HO.out.keep (ext_trans HBW4.out hu))) hu) ?_
      conv => whnf
      intro f2
      conv => whnf
      refine And.intro (rfl) ?_
      conv => whnf
      intro w5 h5
      have HB5 := Lib.hid (ext_trans HB4.out h5)
      have HBW5 := Lib.hid (ext_trans HBW4.out h5)
      have HS5 := Lib.hid (HS4.out.keep h5)
      have HX5 := Lib.hid (HX4.out.keep h5)
      have HP5 := Lib.hid (HP4.out.keep h5)
      clear h5 HS4 HX4 HP4 HX
      obtain ⟨z, hz⟩ : ∃ z, ((decide (0 ≤ area2L L) || crossB outer L) || (whereL outer (pti L 0) != 1)) = z := ⟨_, rfl⟩
      rw [hz]
      clear hz
      cases z
      rotate_left
      · go_wp2_with fail
        go_ret
        exact ⟨_, rfl, HBW5.out⟩
      go_wp2_with fail
      go_loopw [7] (fun i2 wr2 => ∃ k : Nat, k ≤ i ∧ i2 = .int .i64 k ∧ Hid (Below w5.heap.size w5 wr2)) (fun i2 _ => i - (intOf i2).toNat)
      case atStart => exact ⟨0, Nat.zero_le _, rfl, Below.refl _ _⟩
      case round =>
        obtain ⟨k, hk, rfl, hb6⟩ := hrel
        have HBW6 := Lib.hid (ext_trans HBW5.out hb6.out)
        by_cases hlt2 : k < i
        · have i2 : (k : Int) < i := by omega
          obtain ⟨xb', xo', e', hck⟩ := S3.out k (by omega)
          cases e'
          have hck := cell_keep HBW6.out hck
          try dsimp only at hck
          have HK := Lib.hid ((HP.out.h k (by have := HNL.out; omega)).keep HBW6.out)
          have hkl := hal.out k hlt2
          obtain ⟨M, hM⟩ : ∃ M, holes.getD k [] = M := ⟨_, rfl⟩
          rw [hM] at HK hkl
          obtain ⟨za, zc, ez, z1, z2, z3⟩ := id HK.out
          rw [ez] at HK hck
          obtain ⟨zb, zo, rfl, hz0⟩ := z3 0 (by omega)
          have HCK := Lib.hid hck
          have HZ0 := Lib.hid hz0
          have HS6 := Lib.hid (HS5.out.keep hb6.out)
          have HX6 := Lib.hid (HX5.out.keep hb6.out)
          have HP6 := Lib.hid (HP5.out.keep hb6.out)
          have hk0 : 0 < M.length := by omega
          clear z3 hM hck hz0
          go_upto_region 20 with fail
          refine wp_region_ev gmT gmT_ok [⟨w.heap.size, 0, [.slice oa outer.length oc, .slice (some ⟨xb, xo, none⟩) hvs.length hc]⟩, ⟨xb, xo + k, [.slice (some ⟨zb, zo, none⟩) M.length zc]⟩, ⟨zb, zo + 0 * 2, ptCells (pti M 0)⟩, ⟨pb, po + 0 * 2, ptCells (pti L 0)⟩] (Below wr.heap.size wr) [(1, 0)] [(66, .ix k 1), (68, .ret (.bool (crossB L M))), (74, .ix k 1), (76, .ix 0 2), (78, .ret (.int .i64 (whereL L (pti M 0)))), (85, .ix k 1), (88, .ix 0 3), (90, .ret (.int .i64 (whereL M (pti L 0))))] [(92, .bool ((crossB L M || (whereL L (pti M 0) != -1)) || (whereL M (pti L 0) != -1)))] (by kernel_rfl) mixed (by kernel_rfl) ((Below.refl _ _).drew)
            (obsC (fun u hu => rangeKeep (range_new HS6.out) hu) (obsC (fun u hu => rangeKeep (intR HCK.out) hu) (obsC (fun u hu => rangeKeep (pt_range HZ0.out) hu) (obsC (fun u hu => rangeKeep (pt_range HP6.out) hu) obsN)))) ⟨rfl, trivial⟩ ?_
          conv => whnf
          refine And.intro (under_of ⟨rfl, by omega, rfl, by show xo + k = xo + k * 1; omega⟩) ?_
          conv => whnf
          refine And.intro (under_of fun u hu => ret_in (rcross_any _ _ L M u (HX6.out.keep hu) (HK.out.keep hu) (by omega) (by omega)) hu) ?_
          conv => whnf
          refine And.intro (under_of ⟨rfl, by omega, rfl, by show xo + k = xo + k * 1; omega⟩) ?_
          conv => whnf
          refine And.intro (under_of ⟨rfl, hk0, rfl, rfl⟩) ?_
          conv => whnf
          refine And.intro (Nat.le_of_ble_eq_true rfl) ?_
          conv => whnf
          refine And.intro (under_of fun u hu => ret_in (rWhere_any _ L (pti M 0) u (HX6.out.keep hu)) hu) ?_
          conv => whnf
          refine And.intro (under_of ⟨rfl, by omega, rfl, by show xo + k = xo + k * 1; omega⟩) ?_
          conv => whnf
          refine And.intro (under_of ⟨rfl, hl0, rfl, rfl⟩) ?_
          conv => whnf
          refine And.intro (Nat.le_of_ble_eq_true rfl) ?_
          conv => whnf
          refine And.intro (under_of fun u hu => ret_in (rWhere_any _ M (pti L 0) u (HK.out.keep hu)) hu) ?_
          conv => whnf
          intro f3
          conv => whnf
          refine And.intro (rfl) ?_
          conv => whnf
          intro w7 h7
          have HB7 := Lib.hid (ext_trans hb6.out h7)
          have HBW7 := Lib.hid (ext_trans HBW6.out h7)
          clear h7
          obtain ⟨z, hz⟩ : ∃ z, ((crossB L M || (whereL L (pti M 0) != -1)) || (whereL M (pti L 0) != -1)) = z := ⟨_, rfl⟩
          rw [hz]
          clear hz
          cases z
          rotate_left
          · go_wp2_with fail
            go_ret
            exact ⟨_, rfl, HBW7.out⟩
          · go_wp2_with fail
            go_roundw
            case rel => exact ⟨k + 1, by omega, by go_num, HB7⟩
            case measure => simp [intOf]; omega
        · have i2 : ¬ (k : Int) < i := by omega
          have HA : Hid (∀ j, j < i + 1 → 3 ≤ (holes.getD j []).length ∧ (holes.getD j []).length ≤ 32) := fun j h => by
            by_cases e : j = i
            · subst e; rw [HL.out]; exact hl32
            · exact hal.out j (by omega)
          have HBN := Lib.hid (ext_trans HB5.out hb6.out)
          go_wp2_with fail
          go_roundw
          case rel => exact ⟨i + 1, by omega, by go_num, HBN, HA⟩
          case measure => simp [intOf]; omega
    · have i1 : ¬ (i : Int) < hvs.length := by omega
      go_wp2_with fail
      go_ret
      exact ⟨_, rfl, HBW.out⟩
end Go.Proofs.YtfmhickjefogdaaGreat

/- Regions of the reference: Check, and what it means that it answers 0 (printed by wip/gen_rmd.py). -/
namespace Go.Proofs.YtfmhickjefogdaaGreat
open Go.RowKit

/-- a hole of a contour -/
def HoleR (outer h : List Pnt) : Prop := pchkL h = 0 ∧ area2L h < 0 ∧ crossB outer h = false ∧ whereL outer (pti h 0) = 1
/-- two holes -/
def PairR (L M : List Pnt) : Prop := crossB L M = false ∧ whereL L (pti M 0) = -1 ∧ whereL M (pti L 0) = -1
/-- a shape that is right -/
structure Rgn (outer : List Pnt) (holes : List (List Pnt)) : Prop where
  n : holes.length ≤ 8
  o : pchkL outer = 0
  oa : 0 < area2L outer
  h : ∀ i, i < holes.length → HoleR outer (holes.getD i [])
  p : ∀ i k, k < i → i < holes.length → PairR (holes.getD i []) (holes.getD k [])
theorem holeR {outer L : List Pnt} (hz : pchkL L = 0) (h : ((decide (0 ≤ area2L L) || crossB outer L) || (whereL outer (pti L 0) != 1)) = false) : HoleR outer L := by
  simp only [Bool.or_eq_false_iff, decide_eq_false_iff_not, bne_eq_false_iff_eq] at h
  exact ⟨hz, by have := h.1.1; omega, h.1.2, h.2⟩
theorem pairR {L M : List Pnt} (h : ((crossB L M || (whereL L (pti M 0) != -1)) || (whereL M (pti L 0) != -1)) = false) : PairR L M := by
  simp only [Bool.or_eq_false_iff, bne_eq_false_iff_eq] at h
  exact ⟨h.1.1, h.1.2, h.2⟩
theorem holeR_not {outer L : List Pnt} (h : ((decide (0 ≤ area2L L) || crossB outer L) || (whereL outer (pti L 0) != 1)) = true) : ¬ HoleR outer L := by
  rintro ⟨_, h2, h3, h4⟩
  rw [h3, h4, decide_eq_false (by omega)] at h
  cases h
theorem pairR_not {L M : List Pnt} (h : ((crossB L M || (whereL L (pti M 0) != -1)) || (whereL M (pti L 0) != -1)) = true) : ¬ PairR L M := by
  rintro ⟨h2, h3, h4⟩
  rw [h2, h3, h4] at h
  cases h
/-- it comes back with a number, and 0 means something -/
def RetZ (P : Prop) (w : World) (e : Ending) (w' : World) : Prop := ∃ z : Int, e = .returned (.int .i64 z) ∧ Below w.heap.size w w' ∧ (z = 0 ↔ P)
theorem lit {n : Int} {P : Prop} (h : n ≠ 0) (hp : ¬ P) : n = 0 ↔ P := ⟨fun e => absurd e h, fun p => absurd p hp⟩
set_option maxRecDepth 100000 in
set_option maxHeartbeats 2000000 in
theorem rChkR_any (ov hv : Value) (outer : List Pnt) (holes : List (List Pnt)) (hvs : List Value) (w : World) (h : ShpOK w ov hv outer holes hvs) : Calls Tryz.prog 33 #[.agg #[ov, hv]] w (RetZ (Rgn outer holes) w) := by
  have HP := Lib.hid h
  have HO := Lib.hid h.o
  have HNL := Lib.hid h.n
  obtain ⟨oa, oc, rfl, o1, o2, _⟩ := h.o
  obtain ⟨ha, hc, rfl, s1, s2, s3⟩ := h.hs
  have S3 := Lib.hid s3
  unfold maxLen at o2 s2
  clear h s3
  obtain ⟨W1, HS1, HB1, HW1⟩ := boxS w oa outer.length oc ha hvs.length hc
  by_cases hf : 8 < hvs.length
  · have i0 : 8 < (hvs.length : Int) := by omega
    go_enter Tryz.func33, Tryz.ntmps33
    go_upto_region 1 with fail
    rw [HW1.out]
    have c1 := HS1.out.cell 1
    dsimp at c1
    go_wp2_with fail
    go_ret
    exact ⟨_, rfl, HB1.out, lit (by decide) fun r => by have := r.n; have := HNL.out; omega⟩
  have i0 : ¬ 8 < (hvs.length : Int) := by omega
  go_enter Tryz.func33, Tryz.ntmps33
  go_upto_region 1 with fail
  rw [HW1.out]
  have c0 := HS1.out.cell 0
  have c1 := HS1.out.cell 1
  dsimp at c0 c1
  go_wp2_with fail
  refine (rChk12_any _ outer W1 (HO.out.keep HB1.out)).mono ?_
  rintro e w2 ⟨rfl, hb2⟩
  have HB2 := Lib.hid (ext_trans HB1.out hb2)
  have HS2 := Lib.hid (HS1.out.keep hb2)
  clear hb2 c0 c1
  by_cases hz : pchkL outer = 0
  rotate_left
  · go_wp2_with fail
    go_ret
    exact ⟨_, rfl, HB2.out, ⟨fun h => absurd h hz, fun r => r.o⟩⟩
  have HZ := Lib.hid hz
  rw [hz]
  have ho32 := pchk_len hz
  clear hz
  have c0 := HS2.out.cell 0
  have c1 := HS2.out.cell 1
  dsimp at c0 c1
  go_wp2_with fail
  refine (rArea12_any _ outer w2 (HO.out.keep HB2.out)).mono ?_
  rintro e w3 ⟨rfl, hb3⟩
  have HB3 := Lib.hid (ext_trans HB2.out hb3)
  have HS3 := Lib.hid (HS2.out.keep hb3)
  clear hb3 c0 c1
  by_cases ha0 : area2L outer ≤ 0
  · go_wp2_with fail
    go_ret
    exact ⟨_, rfl, HB3.out, lit (by decide) fun r => by have := r.oa; omega⟩
  have HA0 : Hid (0 < area2L outer) := by show _ < _; omega
  go_wp2_with fail
  clear ha0
  go_loopw [4] (fun i wr => ∃ k : Nat, k ≤ hvs.length ∧ i = .int .i64 k ∧ Hid (Below w3.heap.size w3 wr) ∧ Hid (∀ j, j < k → 3 ≤ (holes.getD j []).length ∧ (holes.getD j []).length ≤ 32) ∧ Hid (∀ j, j < k → HoleR outer (holes.getD j [])) ∧ Hid (∀ i k', k' < i → i < k → PairR (holes.getD i []) (holes.getD k' []))) (fun i _ => hvs.length - (intOf i).toNat)
  case atStart => exact ⟨0, Nat.zero_le _, rfl, Below.refl _ _, fun j h => by omega, fun j h => by omega, fun i k' h1 h2 => by omega⟩
  case round =>
    obtain ⟨i, hi, rfl, hb, hal, HHR, HPR⟩ := hrel
    have HBW := Lib.hid (ext_trans HB3.out hb.out)
    have HSW := Lib.hid (HS3.out.keep hb.out)
    have c1 := HSW.out.cell 1
    dsimp at c1
    by_cases hlt : i < hvs.length
    · have i1 : (i : Int) < hvs.length := by omega
      obtain ⟨xb, xo, rfl, hcx⟩ := S3.out i hlt
      have hcx := cell_keep HBW.out hcx
      try dsimp only at hcx
      have HX := Lib.hid ((HP.out.h i (by have := HNL.out; omega)).keep HBW.out)
      obtain ⟨L, hL⟩ : ∃ L, holes.getD i [] = L := ⟨_, rfl⟩
      have HL := Lib.hid hL
      rw [hL] at HX
      obtain ⟨ya, yc, ey, y1, y2, y3⟩ := id HX.out
      rw [ey] at HX hcx
      have Y3 := Lib.hid y3
      clear y3 hL
      unfold maxLen at y2
      go_wp2_with fail
      clear hcx
      refine (rChk12_any _ L wr HX.out).mono ?_
      rintro e w4 ⟨rfl, hb4⟩
      have HB4 := Lib.hid (ext_trans hb.out hb4)
      have HBW4 := Lib.hid (ext_trans HBW.out hb4)
      have HS4 := Lib.hid (HSW.out.keep hb4)
      have HX4 := Lib.hid (HX.out.keep hb4)
      clear c1
      by_cases hz : pchkL L = 0
      rotate_left
      · go_wp2_with fail
        go_ret
        exact ⟨_, rfl, HBW4.out, ⟨fun h => absurd h hz, fun r => by have := (r.h i (by have := HNL.out; omega)).1; rw [HL.out] at this; exact this⟩⟩
      have HZL := Lib.hid hz
      rw [hz]
      have hl32 := pchk_len hz
      have hl0 : 0 < L.length := by omega
      obtain ⟨pb, po, rfl, hp0⟩ := Y3.out 0 hl0
      have HP4 := Lib.hid (hp0.keep hb4)
      clear hz hb4 hp0
      go_upto_region 15 with fail
      refine wp_region_ev gmT gmT_ok [⟨w.heap.size, 0, [.slice oa outer.length oc, .slice (some ⟨xb, xo, none⟩) hvs.length hc]⟩, ⟨pb, po + 0 * 2, ptCells (pti L 0)⟩] (Below w4.heap.size w4) [(1, 0)] [(40, .ret (.int .i64 (area2L L))), (46, .ret (.bool (crossB outer L))), (52, .ix 0 1), (54, .ret (.int .i64 (whereL outer (pti L 0))))] [(56, .bool ((decide (0 ≤ area2L L) || crossB outer L) || (whereL outer (pti L 0) != 1)))] (by kernel_rfl) mixed (by kernel_rfl) ((Below.refl _ _).drew)
        (obsC (fun u hu => rangeKeep (range_new HS4.out) hu) (obsC (fun u hu => rangeKeep (pt_range HP4.out) hu) obsN)) ⟨rfl, trivial⟩ ?_
      conv => whnf
      refine And.intro (under_of fun u hu => ret_in (rArea12_any _ L u (HX4.out.keep hu)) hu) ?_
      conv => whnf
      refine And.intro (under_of fun u hu => ret_in (rcross_any _ _ outer L u (HO.out.keep (ext_trans HBW4.out hu)) (HX4.out.keep hu) (by omega) (by omega)) hu) ?_
      conv => whnf
      refine And.intro (under_of ⟨rfl, hl0, rfl, rfl⟩) ?_
      conv => whnf
      refine And.intro (Nat.le_of_ble_eq_true rfl) ?_
      conv => whnf
      refine And.intro (under_of fun u hu => ret_in (rWhere_any _ outer (pti L 0) u (HO.out.keep (ext_trans HBW4.out hu))) hu) ?_
      conv => whnf
      intro f2
      conv => whnf
      refine And.intro (rfl) ?_
      conv => whnf
      intro w5 h5
      have HB5 := Lib.hid (ext_trans HB4.out h5)
      have HBW5 := Lib.hid (ext_trans HBW4.out h5)
      have HS5 := Lib.hid (HS4.out.keep h5)
      have HX5 := Lib.hid (HX4.out.keep h5)
      have HP5 := Lib.hid (HP4.out.keep h5)
      clear h5 HS4 HX4 HP4 HX
      obtain ⟨z, hz⟩ : ∃ z, ((decide (0 ≤ area2L L) || crossB outer L) || (whereL outer (pti L 0) != 1)) = z := ⟨_, rfl⟩
      have HV := Lib.hid hz
      rw [hz]
      clear hz
      cases z
      rotate_left
      · go_wp2_with fail
        go_ret
        exact ⟨_, rfl, HBW5.out, lit (by decide) fun r => by have := holeR_not HV.out; have h := r.h i (by have := HNL.out; omega); rw [HL.out] at h; exact this h⟩
      have HHI : Hid (HoleR outer L) := holeR HZL.out HV.out
      clear HV
      go_wp2_with fail
      go_loopw [7] (fun i2 wr2 => ∃ k : Nat, k ≤ i ∧ i2 = .int .i64 k ∧ Hid (Below w5.heap.size w5 wr2) ∧ Hid (∀ k', k' < k → PairR L (holes.getD k' []))) (fun i2 _ => i - (intOf i2).toNat)
      case atStart => exact ⟨0, Nat.zero_le _, rfl, Below.refl _ _, fun k' h => by omega⟩
      case round =>
        obtain ⟨k, hk, rfl, hb6, HPK⟩ := hrel
        have HBW6 := Lib.hid (ext_trans HBW5.out hb6.out)
        by_cases hlt2 : k < i
        · have i2 : (k : Int) < i := by omega
          obtain ⟨xb', xo', e', hck⟩ := S3.out k (by omega)
          cases e'
          have hck := cell_keep HBW6.out hck
          try dsimp only at hck
          have HK := Lib.hid ((HP.out.h k (by have := HNL.out; omega)).keep HBW6.out)
          have hkl := hal.out k hlt2
          obtain ⟨M, hM⟩ : ∃ M, holes.getD k [] = M := ⟨_, rfl⟩
          rw [hM] at HK hkl
          obtain ⟨za, zc, ez, z1, z2, z3⟩ := id HK.out
          rw [ez] at HK hck
          obtain ⟨zb, zo, rfl, hz0⟩ := z3 0 (by omega)
          have HCK := Lib.hid hck
          have HZ0 := Lib.hid hz0
          have HS6 := Lib.hid (HS5.out.keep hb6.out)
          have HX6 := Lib.hid (HX5.out.keep hb6.out)
          have HP6 := Lib.hid (HP5.out.keep hb6.out)
          have hk0 : 0 < M.length := by omega
          have HM := Lib.hid hM
          clear z3 hM hck hz0
          go_upto_region 20 with fail
          refine wp_region_ev gmT gmT_ok [⟨w.heap.size, 0, [.slice oa outer.length oc, .slice (some ⟨xb, xo, none⟩) hvs.length hc]⟩, ⟨xb, xo + k, [.slice (some ⟨zb, zo, none⟩) M.length zc]⟩, ⟨zb, zo + 0 * 2, ptCells (pti M 0)⟩, ⟨pb, po + 0 * 2, ptCells (pti L 0)⟩] (Below wr.heap.size wr) [(1, 0)] [(66, .ix k 1), (68, .ret (.bool (crossB L M))), (74, .ix k 1), (76, .ix 0 2), (78, .ret (.int .i64 (whereL L (pti M 0)))), (85, .ix k 1), (88, .ix 0 3), (90, .ret (.int .i64 (whereL M (pti L 0))))] [(92, .bool ((crossB L M || (whereL L (pti M 0) != -1)) || (whereL M (pti L 0) != -1)))] (by kernel_rfl) mixed (by kernel_rfl) ((Below.refl _ _).drew)
            (obsC (fun u hu => rangeKeep (range_new HS6.out) hu) (obsC (fun u hu => rangeKeep (intR HCK.out) hu) (obsC (fun u hu => rangeKeep (pt_range HZ0.out) hu) (obsC (fun u hu => rangeKeep (pt_range HP6.out) hu) obsN)))) ⟨rfl, trivial⟩ ?_
          conv => whnf
          refine And.intro (under_of ⟨rfl, by omega, rfl, by show xo + k = xo + k * 1; omega⟩) ?_
          conv => whnf
          refine And.intro (under_of fun u hu => ret_in (rcross_any _ _ L M u (HX6.out.keep hu) (HK.out.keep hu) (by omega) (by omega)) hu) ?_
          conv => whnf
          refine And.intro (under_of ⟨rfl, by omega, rfl, by show xo + k = xo + k * 1; omega⟩) ?_
          conv => whnf
          refine And.intro (under_of ⟨rfl, hk0, rfl, rfl⟩) ?_
          conv => whnf
          refine And.intro (Nat.le_of_ble_eq_true rfl) ?_
          conv => whnf
          refine And.intro (under_of fun u hu => ret_in (rWhere_any _ L (pti M 0) u (HX6.out.keep hu)) hu) ?_
          conv => whnf
          refine And.intro (under_of ⟨rfl, by omega, rfl, by show xo + k = xo + k * 1; omega⟩) ?_
          conv => whnf
          refine And.intro (under_of ⟨rfl, hl0, rfl, rfl⟩) ?_
          conv => whnf
          refine And.intro (Nat.le_of_ble_eq_true rfl) ?_
          conv => whnf
          refine And.intro (under_of fun u hu => ret_in (rWhere_any _ M (pti L 0) u (HK.out.keep hu)) hu) ?_
          conv => whnf
          intro f3
          conv => whnf
          refine And.intro (rfl) ?_
          conv => whnf
          intro w7 h7
          have HB7 := Lib.hid (ext_trans hb6.out h7)
          have HBW7 := Lib.hid (ext_trans HBW6.out h7)
          clear h7
          obtain ⟨z, hz⟩ : ∃ z, ((crossB L M || (whereL L (pti M 0) != -1)) || (whereL M (pti L 0) != -1)) = z := ⟨_, rfl⟩
          have HV := Lib.hid hz
          rw [hz]
          clear hz
          cases z
          rotate_left
          · go_wp2_with fail
            go_ret
            exact ⟨_, rfl, HBW7.out, lit (by decide) fun r => by have := pairR_not HV.out; have h := r.p i k hlt2 (by have := HNL.out; omega); rw [HL.out, HM.out] at h; exact this h⟩
          · have HPN : Hid (∀ k', k' < k + 1 → PairR L (holes.getD k' [])) := fun k' h => by
              by_cases e : k' = k
              · subst e; rw [HM.out]; exact pairR HV.out
              · exact HPK.out k' (by omega)
            clear HV
            go_wp2_with fail
            go_roundw
            case rel => exact ⟨k + 1, by omega, by go_num, HB7, HPN⟩
            case measure => simp [intOf]; omega
        · have i2 : ¬ (k : Int) < i := by omega
          have HA : Hid (∀ j, j < i + 1 → 3 ≤ (holes.getD j []).length ∧ (holes.getD j []).length ≤ 32) := fun j h => by
            by_cases e : j = i
            · subst e; rw [HL.out]; exact hl32
            · exact hal.out j (by omega)
          have HBN := Lib.hid (ext_trans HB5.out hb6.out)
          have HHN : Hid (∀ j, j < i + 1 → HoleR outer (holes.getD j [])) := fun j h => by
            by_cases e : j = i
            · subst e; rw [HL.out]; exact HHI.out
            · exact HHR.out j (by omega)
          have HPN : Hid (∀ i' k', k' < i' → i' < i + 1 → PairR (holes.getD i' []) (holes.getD k' [])) := fun i' k' h1 h2 => by
            by_cases e : i' = i
            · subst e; rw [HL.out]; exact HPK.out k' (by omega)
            · exact HPR.out i' k' h1 (by omega)
          go_wp2_with fail
          go_roundw
          case rel => exact ⟨i + 1, by omega, by go_num, HBN, HA, HHN, HPN⟩
          case measure => simp [intOf]; omega
    · have i1 : ¬ (i : Int) < hvs.length := by omega
      go_wp2_with fail
      go_ret
      exact ⟨_, rfl, HBW.out, ⟨fun _ => ⟨by have := HNL.out; omega, HZ.out, HA0.out, fun j hj => HHR.out j (by have := HNL.out; omega), fun i' k' h1 h2 => HPR.out i' k' h1 (by have := HNL.out; omega)⟩, fun _ => rfl⟩⟩
end Go.Proofs.YtfmhickjefogdaaGreat

/- What the tests of the reference say about contours in the plane. -/
namespace Go.Proofs.YtfmhickjefogdaaGreat
open Go.RowKit

/-- coordinates of a plate -/
structure Nr (p : Pnt) : Prop where
  a : -32768 ≤ p.x
  b : p.x ≤ 32768
  c : -32768 ≤ p.y
  d : p.y ≤ 32768
theorem nearP_iff (p : Pnt) : nearP p = true ↔ Nr p := by
  unfold nearP
  simp only [Bool.and_eq_true, decide_eq_true_eq]
  exact ⟨fun h => ⟨h.1.1.1, h.1.1.2, h.1.2, h.2⟩, fun h => ⟨⟨⟨h.a, h.b⟩, h.c⟩, h.d⟩⟩
theorem mul_small {x y : Int} (h1 : -65536 ≤ x) (h2 : x ≤ 65536) (h3 : -65536 ≤ y) (h4 : y ≤ 65536) : -4294967296 ≤ x * y ∧ x * y ≤ 4294967296 := by
  have a := mul_nn (show 0 ≤ 65536 - x by omega) (show 0 ≤ 65536 + y by omega)
  have b := mul_nn (show 0 ≤ 65536 + x by omega) (show 0 ≤ 65536 - y by omega)
  have c := mul_nn (show 0 ≤ 65536 - x by omega) (show 0 ≤ 65536 - y by omega)
  have d := mul_nn (show 0 ≤ 65536 + x by omega) (show 0 ≤ 65536 + y by omega)
  rw [Int.sub_mul, Int.mul_add, Int.mul_add] at a
  rw [Int.add_mul, Int.mul_sub, Int.mul_sub] at b
  rw [Int.sub_mul, Int.mul_sub, Int.mul_sub] at c
  rw [Int.add_mul, Int.mul_add, Int.mul_add] at d
  omega
theorem turn_trn {a b c : Pnt} (ha : Nr a) (hb : Nr b) (hc : Nr c) : turnP a b c = trn a b c := by
  obtain ⟨a1, a2, a3, a4⟩ := ha
  obtain ⟨b1, b2, b3, b4⟩ := hb
  obtain ⟨c1, c2, c3, c4⟩ := hc
  unfold turnP trn
  rw [IntWalk.i64_in (b.x - a.x) (by omega), IntWalk.i64_in (c.y - a.y) (by omega), IntWalk.i64_in (b.y - a.y) (by omega), IntWalk.i64_in (c.x - a.x) (by omega)]
  have e1 := mul_small (x := b.x - a.x) (y := c.y - a.y) (by omega) (by omega) (by omega) (by omega)
  have e2 := mul_small (x := b.y - a.y) (y := c.x - a.x) (by omega) (by omega) (by omega) (by omega)
  rw [IntWalk.i64_in ((b.x - a.x) * (c.y - a.y)) (by omega), IntWalk.i64_in ((b.y - a.y) * (c.x - a.x)) (by omega), IntWalk.i64_in _ (by omega)]
theorem onP_iff {q a b : Pnt} (hq : Nr q) (ha : Nr a) (hb : Nr b) : onP q a b = true ↔ onZ q a b := by
  unfold onP onZ
  rw [turn_trn ha hb hq]
  simp only [Bool.and_eq_true, decide_eq_true_eq, beq_iff_eq]
  exact ⟨fun ⟨⟨⟨⟨h1, h2⟩, h3⟩, h4⟩, h5⟩ => ⟨h1, h2, h3, h4, h5⟩, fun ⟨h1, h2, h3, h4, h5⟩ => ⟨⟨⟨⟨h1, h2⟩, h3⟩, h4⟩, h5⟩⟩
theorem sgn_zero (n : Int) : (sgnP n == 0) = (n == 0) := by
  unfold sgnP
  rw [Bool.eq_iff_iff, beq_iff_eq, beq_iff_eq]
  split
  · omega
  · split <;> omega
theorem onQ_eq (a b q : Pnt) : onQ a b q = onP q a b := by
  unfold onQ onP
  rw [sgn_zero]
theorem sgn_opp (u v : Int) : decide (IntKind.i64.wrap (sgnP u * sgnP v) < 0) = true ↔ opp u v := by
  unfold opp
  rw [decide_eq_true_eq]
  have key : ∀ n : Int, (n < 0 ∧ sgnP n = -1) ∨ (n = 0 ∧ sgnP n = 0) ∨ (0 < n ∧ sgnP n = 1) := fun n => by unfold sgnP; split; · omega
                                                                                                           · split <;> omega
  rcases key u with ⟨h, e⟩ | ⟨h, e⟩ | ⟨h, e⟩ <;> rcases key v with ⟨k, f⟩ | ⟨k, f⟩ | ⟨k, f⟩ <;> rw [e, f] <;> first | (rw [show IntKind.i64.wrap _ = (1 : Int) from by decide]; omega) | (rw [show IntKind.i64.wrap _ = (0 : Int) from by decide]; omega) | (rw [show IntKind.i64.wrap _ = (-1 : Int) from by decide]; omega)
theorem meetQ_eq (a b c d : Pnt) : meetQ a b c d = meetP a b c d := by
  unfold meetQ meetP
  simp only [onQ_eq]
  congr 1
  rw [Bool.eq_iff_iff]
  simp only [Bool.or_eq_true]
  constructor
  · rintro (((h | h) | h) | h)
    · exact Or.inl (Or.inr h)
    · exact Or.inr h
    · exact Or.inl (Or.inl (Or.inl h))
    · exact Or.inl (Or.inl (Or.inr h))
  · rintro (((h | h) | h) | h)
    · exact Or.inl (Or.inr h)
    · exact Or.inr h
    · exact Or.inl (Or.inl (Or.inl h))
    · exact Or.inl (Or.inl (Or.inr h))
theorem meetP_iff {a b c d : Pnt} (ha : Nr a) (hb : Nr b) (hc : Nr c) (hd : Nr d) : meetP a b c d = true ↔ Meet a b c d := by
  unfold meetP Meet
  rw [Bool.or_eq_true, Bool.or_eq_true, Bool.or_eq_true, Bool.or_eq_true, Bool.and_eq_true, sgn_opp, sgn_opp, onP_iff ha hc hd, onP_iff hb hc hd, onP_iff hc ha hb, onP_iff hd ha hb, turn_trn ha hb hc, turn_trn ha hb hd, turn_trn hc hd ha, turn_trn hc hd hb]
  constructor
  · rintro ((((h | h) | h) | h) | h)
    · exact Or.inl (Or.inl h)
    · exact Or.inl (Or.inr (Or.inl h))
    · exact Or.inl (Or.inr (Or.inr (Or.inl h)))
    · exact Or.inl (Or.inr (Or.inr (Or.inr h)))
    · exact Or.inr h
  · rintro ((h | h | h | h) | h)
    · exact Or.inl (Or.inl (Or.inl (Or.inl h)))
    · exact Or.inl (Or.inl (Or.inl (Or.inr h)))
    · exact Or.inl (Or.inl (Or.inr h))
    · exact Or.inl (Or.inr h)
    · exact Or.inr h
def Dif (a b : Pnt) : Prop := a.x ≠ b.x ∨ a.y ≠ b.y
theorem meetP_hit {a b c d : Pnt} (ha : Nr a) (hb : Nr b) (hc : Nr c) (hd : Nr d) (hab : Dif a b) (hcd : Dif c d) : meetP a b c d = true ↔ Hit a b c d :=
  (meetP_iff ha hb hc hd).trans ⟨hit_of_meet, meet_of_hit hab hcd⟩
theorem ptEq_dif (a b : Pnt) : ptEq a b = false ↔ Dif a b := by
  unfold ptEq Dif
  rw [Bool.and_eq_false_iff, beq_eq_false_iff_ne, beq_eq_false_iff_ne]
theorem near_nr {l : List Pnt} (h : nearL l = true) {i : Nat} (hi : i < l.length) : Nr (pti l i) := by
  unfold nearL at h
  rw [List.all_eq_true] at h
  exact (nearP_iff _).1 (h _ (pti_mem hi))
theorem near_of {l : List Pnt} (h : ∀ i, i < l.length → Nr (pti l i)) : nearL l = true := by
  unfold nearL
  rw [List.all_eq_true]
  intro x hx
  obtain ⟨j, hj, rfl⟩ := mem_pti hx
  exact (nearP_iff _).2 (h j hj)
theorem nx2_eq (l : List Pnt) (i : Nat) : nx2 l i = nxt l ((i + 1) % l.length) := by
  unfold nx2 nxt
  congr 1
  rw [Nat.mod_add_mod]
theorem simp_simple {l : List Pnt} (hn : nearL l = true) (h3 : 3 ≤ l.length) : Simp l ↔ Simple l := by
  have nr : ∀ i, i < l.length → Nr (pti l i) := fun i hi => near_nr hn hi
  have nx : ∀ i, i < l.length → Nr (nxt l i) := fun i hi => nr _ (nxt_ok hi)
  constructor
  · intro s
    have dis : ∀ i k, i < l.length → k < l.length → i ≠ k → Dif (pti l i) (pti l k) := fun i k hi hk hne => by
      rcases Nat.lt_or_gt_of_ne hne with g | g
      · have := (ptEq_dif _ _).1 (s.a k i g hk)
        rcases this with e | e
        · exact Or.inl (Ne.symm e)
        · exact Or.inr (Ne.symm e)
      · exact (ptEq_dif _ _).1 (s.a i k g hi)
    have dx : ∀ i, i < l.length → Dif (pti l i) (nxt l i) := fun i hi => dis i _ hi (nxt_ok hi) (Ne.symm (mod_ne (by omega) hi))
    have far : ∀ i k, i + 2 ≤ k → k < l.length → (k + 1) % l.length ≠ i → ¬ Hit (pti l i) (nxt l i) (pti l k) (nxt l k) := fun i k h1 h2 h3 x => by
      have c := s.c i k h1 h2
      rw [(meetP_hit (nr i (by omega)) (nx i (by omega)) (nr k h2) (nx k h2) (dx i (by omega)) (dx k h2)).2 x, decide_eq_true h3] at c
      cases c
    refine ⟨h3, fun i k hi hk h1 h2 h4 x => ?_, fun i hi => ?_, dis⟩
    · rcases Nat.lt_or_gt_of_ne h1 with g | g
      · by_cases e : k = i + 1
        · subst e; rw [Nat.mod_eq_of_lt hk] at h2; exact h2 rfl
        · exact far i k (by omega) hk h4 x
      · by_cases e : i = k + 1
        · subst e; rw [Nat.mod_eq_of_lt hi] at h4; exact h4 rfl
        · exact far k i (by omega) hi h2 x.sym
    · have b := s.b i hi
      rw [nx2_eq, Bool.or_eq_false_iff] at b
      have n2 := nx _ (nxt_ok hi)
      exact ⟨fun x => absurd ((onP_iff (nr i hi) (nx i hi) n2).2 x) (by rw [b.1]; decide), fun x => absurd ((onP_iff n2 (nr i hi) (nx i hi)).2 x) (by rw [b.2]; decide)⟩
  · intro s
    have dx : ∀ i, i < l.length → Dif (pti l i) (nxt l i) := fun i hi => s.dis i _ hi (nxt_ok hi) (Ne.symm (mod_ne (by omega) hi))
    refine ⟨fun i k hk hi => (ptEq_dif _ _).2 (s.dis i k hi (by omega) (by omega)), fun i hi => ?_, fun i k h1 h2 => ?_⟩
    · have n2 := nx _ (nxt_ok hi)
      rw [nx2_eq, Bool.or_eq_false_iff]
      refine ⟨?_, ?_⟩
      · rw [← Bool.not_eq_true]
        exact fun x => (s.adj i hi).1 ((onP_iff (nr i hi) (nx i hi) n2).1 x)
      · rw [← Bool.not_eq_true]
        exact fun x => (s.adj i hi).2 ((onP_iff n2 (nr i hi) (nx i hi)).1 x)
    · rw [Bool.and_eq_false_iff]
      by_cases e : (k + 1) % l.length ≠ i
      · refine Or.inr ?_
        rw [← Bool.not_eq_true]
        intro x
        have x := (meetP_hit (nr i (by omega)) (nx i (by omega)) (nr k h2) (nx k h2) (dx i (by omega)) (dx k h2)).1 x
        refine s.far i k (by omega) h2 (by omega) (fun g => ?_) e x
        rw [Nat.mod_eq_of_lt (by omega)] at g
        omega
      · exact Or.inl (decide_eq_false e)
/-- a contour that is right: as the code has it, and in the plane -/
structure Ctr (l : List Pnt) : Prop where
  s : Simple l
  n : l.length ≤ 32
  near : nearL l = true
theorem pchk_ctr (l : List Pnt) : pchkL l = 0 ↔ Ctr l := by
  unfold pchkL
  constructor
  · intro h
    split at h
    · cases h
    · split at h
      · cases h
      · split at h
        · cases h
        · split at h
          · cases h
          · rename_i h1 h2 h3 h4
            have hn : nearL l = true := by simpa using h3
            refine ⟨(simp_simple hn (by omega)).1 ?_, by omega, hn⟩
            by_cases hs : Simp l
            · exact hs
            · exact absurd (simpB_false hs) h4
  · intro h
    have := h.s.n
    have := h.n
    rw [if_neg (by omega), if_neg (by omega), if_neg (by rw [h.near]; decide), if_neg (by rw [simpB_true ((simp_simple h.near (by omega)).2 h.s)]; decide)]
theorem Ctr.nr {l : List Pnt} (h : Ctr l) {i : Nat} (hi : i < l.length) : Nr (pti l i) := near_nr h.near hi
theorem Ctr.nx {l : List Pnt} (h : Ctr l) {i : Nat} (hi : i < l.length) : Nr (nxt l i) := near_nr h.near (nxt_ok hi)
theorem Ctr.dx {l : List Pnt} (h : Ctr l) {i : Nat} (hi : i < l.length) : Dif (pti l i) (nxt l i) := h.s.dis i _ hi (nxt_ok hi) (Ne.symm (mod_ne (by have := h.s.n; omega) hi))
theorem cross_apart {l m : List Pnt} (hl : Ctr l) (hm : Ctr m) : crossB l m = false ↔ Apart l m := by
  constructor
  · intro h i k hi hk x
    have := crossB_true (p := l) (q := m) hi hk (by rw [meetQ_eq]; exact (meetP_hit (hl.nr hi) (hl.nx hi) (hm.nr hk) (hm.nx hk) (hl.dx hi) (hm.dx hk)).2 x)
    rw [h] at this
    cases this
  · intro h
    refine crossB_false fun i k hi hk => ?_
    rw [meetQ_eq, ← Bool.not_eq_true]
    exact fun x => h i k hi hk ((meetP_hit (hl.nr hi) (hl.nx hi) (hm.nr hk) (hm.nx hk) (hl.dx hi) (hm.dx hk)).1 x)
theorem area_to {l : List Pnt} (h : Ctr l) : ∀ k, k ≤ l.length → areaTo l k = sm k (fun i => (pti l i).x * (nxt l i).y - (pti l i).y * (nxt l i).x) ∧ -(8589934592 * k) ≤ areaTo l k ∧ areaTo l k ≤ 8589934592 * k
  | 0, _ => by exact ⟨rfl, by unfold areaTo; omega, by unfold areaTo; omega⟩
  | k + 1, hk => by
    obtain ⟨e, h1, h2⟩ := area_to h k (by omega)
    obtain ⟨a1, a2, a3, a4⟩ := h.nr (show k < l.length by omega)
    obtain ⟨b1, b2, b3, b4⟩ := h.nx (show k < l.length by omega)
    have m1 := mul_small (x := (pti l k).x) (y := (nxt l k).y) (by omega) (by omega) (by omega) (by omega)
    have m2 := mul_small (x := (pti l k).y) (y := (nxt l k).x) (by omega) (by omega) (by omega) (by omega)
    have hn := h.n
    have hk' : (k : Int) ≤ 32 := by omega
    show IntKind.i64.wrap (IntKind.i64.wrap (areaTo l k + IntKind.i64.wrap ((pti l k).x * (nxt l k).y)) - IntKind.i64.wrap ((pti l k).y * (nxt l k).x)) = sm k _ + ((pti l k).x * (nxt l k).y - (pti l k).y * (nxt l k).x) ∧ _
    have e2 : areaTo l (k + 1) = IntKind.i64.wrap (IntKind.i64.wrap (areaTo l k + IntKind.i64.wrap ((pti l k).x * (nxt l k).y)) - IntKind.i64.wrap ((pti l k).y * (nxt l k).x)) := rfl
    rw [e2, IntWalk.i64_in ((pti l k).x * (nxt l k).y) (by omega), IntWalk.i64_in ((pti l k).y * (nxt l k).x) (by omega), IntWalk.i64_in (areaTo l k + (pti l k).x * (nxt l k).y) (by omega), IntWalk.i64_in _ (by omega), ← e]
    omega
theorem area2_eq {l : List Pnt} (h : Ctr l) : area2L l = area2 l := by
  unfold area2L
  rw [if_pos ((pchk_ctr l).2 h), (area_to h l.length (Nat.le_refl _)).1]
  rfl
theorem ins_par {l : List Pnt} (h : Ctr l) {q : Pnt} (hq : Nr q) : ∀ k, k ≤ l.length → (insTo l q k = true ↔ sm k (fun i => kap (pti l i) (nxt l i) q) % 2 = 1)
  | 0, _ => by show false = true ↔ (0 : Int) % 2 = 1; simp
  | k + 1, hk => by
    have ih := ins_par h hq k (by omega)
    have hk : k < l.length := by omega
    rw [sm_succ]
    show (if (upP (pti l k) (nxt l k) q || dnP (pti l k) (nxt l k) q) = true then !insTo l q k else insTo l q k) = true ↔ _
    have e : (upP (pti l k) (nxt l k) q || dnP (pti l k) (nxt l k) q) = true ↔ kap (pti l k) (nxt l k) q ≠ 0 := by
      unfold upP dnP kap
      rw [turn_trn (h.nr hk) (h.nx hk) hq]
      simp only [Bool.or_eq_true, Bool.and_eq_true, decide_eq_true_eq]
      split
      · rename_i g; exact ⟨fun _ => by decide, fun _ => Or.inl ⟨⟨g.1, g.2.1⟩, g.2.2⟩⟩
      · rename_i g
        split
        · rename_i g2; exact ⟨fun _ => by decide, fun _ => Or.inr ⟨⟨g2.1, g2.2.1⟩, g2.2.2⟩⟩
        · rename_i g2
          refine ⟨fun x => ?_, fun x => absurd rfl x⟩
          rcases x with x | x
          · exact absurd ⟨x.1.1, x.1.2, x.2⟩ g
          · exact absurd ⟨x.1.1, x.1.2, x.2⟩ g2
    have k1 : kap (pti l k) (nxt l k) q = 0 ∨ kap (pti l k) (nxt l k) q = 1 ∨ kap (pti l k) (nxt l k) q = -1 := by
      unfold kap
      split
      · omega
      · split <;> omega
    by_cases c : (upP (pti l k) (nxt l k) q || dnP (pti l k) (nxt l k) q) = true
    · rw [if_pos c]
      have c := e.1 c
      cases hi : insTo l q k
      · rw [hi] at ih
        have : ¬ sm k (fun i => kap (pti l i) (nxt l i) q) % 2 = 1 := fun x => by have := ih.2 x; cases this
        constructor
        · intro _; omega
        · intro _; rfl
      · rw [hi] at ih
        have := ih.1 rfl
        constructor
        · intro x; cases x
        · intro x; omega
    · rw [if_neg c, ih]
      have c : kap (pti l k) (nxt l k) q = 0 := by
        by_cases z : kap (pti l k) (nxt l k) q = 0
        · exact z
        · exact absurd (e.2 z) c
      rw [c]
      omega
theorem edg_off {l : List Pnt} (h : Ctr l) {q : Pnt} (hq : Nr q) : edgB l q = false ↔ offL l q := by
  unfold edgB
  rw [List.any_eq_false]
  constructor
  · intro e i hi x
    exact e i (List.mem_range.2 hi) ((onP_iff hq (h.nr hi) (h.nx hi)).2 x)
  · intro o i hi x
    have hi := List.mem_range.1 hi
    exact o i hi ((onP_iff hq (h.nr hi) (h.nx hi)).1 x)
theorem where_off {l : List Pnt} (h : Ctr l) {q : Pnt} (hq : Nr q) (o : offL l q) : (wnd l q % 2 = 1 → whereL l q = 1) ∧ (wnd l q % 2 = 0 → whereL l q = -1) := by
  have e : whereL l q = if insTo l q l.length = true then 1 else -1 := by
    unfold whereL
    rw [(pchk_ctr l).2 h, (nearP_iff q).2 hq, (edg_off h hq).2 o]
    rfl
  have p := ins_par h hq l.length (Nat.le_refl _)
  rw [e]
  constructor
  · intro g; rw [if_pos (p.2 g)]
  · intro g; rw [if_neg (fun x => by have := p.1 x; have g : sm l.length (fun i => kap (pti l i) (nxt l i) q) % 2 = 0 := g; omega)]
theorem where_one {l : List Pnt} (h : Ctr l) {q : Pnt} (hq : Nr q) (o : offL l q) : whereL l q = 1 ↔ wnd l q % 2 = 1 := by
  have w := where_off h hq o
  constructor
  · intro e
    rcases Int.emod_two_eq (wnd l q) with g | g
    · rw [w.2 g] at e; cases e
    · exact g
  · exact w.1
theorem where_neg {l : List Pnt} (h : Ctr l) {q : Pnt} (hq : Nr q) (o : offL l q) : whereL l q = -1 ↔ wnd l q % 2 = 0 := by
  have w := where_off h hq o
  constructor
  · intro e
    rcases Int.emod_two_eq (wnd l q) with g | g
    · exact g
    · rw [w.1 g] at e; cases e
  · exact w.2
theorem Ctr.len0 {l : List Pnt} (h : Ctr l) : 0 < l.length := by have := h.s.n; omega
/-- a shape that is right: as the code has it, and in the plane -/
structure Shp2 (o : List Pnt) (hl : List (List Pnt)) : Prop where
  s : Sh0 o hl
  c : ∀ l ∈ o :: hl, Ctr l
  n : hl.length ≤ 8
theorem getD_mem {hl : List (List Pnt)} {i : Nat} (h : i < hl.length) : hl.getD i [] ∈ hl := by
  have : hl.getD i [] = hl[i] := by simp [h]
  rw [this]; exact List.getElem_mem h
theorem rgn_shp {o : List Pnt} {hl : List (List Pnt)} : Rgn o hl ↔ Shp2 o hl := by
  constructor
  · intro r
    have co := (pchk_ctr o).1 r.o
    have ch : ∀ h ∈ hl, ∃ i, i < hl.length ∧ hl.getD i [] = h := fun h hh => by
      obtain ⟨i, hi, rfl⟩ := List.mem_iff_getElem.1 hh
      exact ⟨i, hi, by simp [hi]⟩
    have cc : ∀ i, i < hl.length → Ctr (hl.getD i []) := fun i hi => (pchk_ctr _).1 (r.h i hi).1
    refine ⟨⟨co.s, by rw [← area2_eq co]; exact r.oa, ?_, ?_, ?_, ?_, ?_⟩, ?_, r.n⟩
    · intro h hh
      obtain ⟨i, hi, rfl⟩ := ch h hh
      exact (cc i hi).s
    · intro h hh
      obtain ⟨i, hi, rfl⟩ := ch h hh
      rw [← area2_eq (cc i hi)]; exact (r.h i hi).2.1
    · intro h hh
      obtain ⟨i, hi, rfl⟩ := ch h hh
      exact (cross_apart co (cc i hi)).1 (r.h i hi).2.2.1
    · intro h hh
      obtain ⟨i, hi, rfl⟩ := ch h hh
      have a := (cross_apart co (cc i hi)).1 (r.h i hi).2.2.1
      exact (where_one co ((cc i hi).nr (cc i hi).len0) (apart_off a (cc i hi).len0)).1 (r.h i hi).2.2.2
    · rw [List.pairwise_iff_getElem]
      intro k i hk hi hki
      have p := r.p i k hki hi
      have ek : hl.getD k [] = hl[k] := by simp [hk]
      have ei : hl.getD i [] = hl[i] := by simp [hi]
      have ci := cc i hi
      have ck := cc k hk
      rw [ek] at p ck
      rw [ei] at p ci
      have a := (cross_apart ci ck).1 p.1
      exact ⟨a.sym, (where_neg ck (ci.nr ci.len0) (apart_off a.sym ci.len0)).1 p.2.2, (where_neg ci (ck.nr ck.len0) (apart_off a ck.len0)).1 p.2.1⟩
    · intro l hh
      rcases List.mem_cons.1 hh with e | e
      · subst e; exact co
      · obtain ⟨i, hi, rfl⟩ := ch l e
        exact cc i hi
  · rintro ⟨s, c, n⟩
    have co := c o (by simp)
    have cm : ∀ i, i < hl.length → Ctr (hl.getD i []) := fun i hi => c _ (List.mem_cons_of_mem _ (getD_mem hi))
    refine ⟨n, (pchk_ctr o).2 co, by rw [area2_eq co]; exact s.oa, fun i hi => ?_, fun i k hk hi => ?_⟩
    · have ci := cm i hi
      have a := s.ap _ (getD_mem hi)
      exact ⟨(pchk_ctr _).2 ci, by rw [area2_eq ci]; exact s.ha _ (getD_mem hi), (cross_apart co ci).2 a, (where_one co (ci.nr ci.len0) (apart_off a ci.len0)).2 (s.ins _ (getD_mem hi))⟩
    · have ci := cm i hi
      have ck := cm k (by omega)
      have p := List.pairwise_iff_getElem.1 s.two k i (by omega) hi hk
      have ek : hl.getD k [] = hl[k] := by simp [show k < hl.length by omega]
      have ei : hl.getD i [] = hl[i] := by simp [hi]
      rw [← ek, ← ei] at p
      exact ⟨(cross_apart ci ck).2 p.1.sym, (where_neg ci (ck.nr ck.len0) (apart_off p.1.sym ck.len0)).2 p.2.2, (where_neg ck (ci.nr ci.len0) (apart_off p.1 ci.len0)).2 p.2.1⟩
end Go.Proofs.YtfmhickjefogdaaGreat
