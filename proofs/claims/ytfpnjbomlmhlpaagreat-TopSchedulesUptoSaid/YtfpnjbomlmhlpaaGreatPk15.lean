/- Node, Part, Package of the reference of structure; Section of the reference of materials (printed by wip/gen_gme.py). -/
import Derived.Test.YtfpnjbomlmhlpaaGreatPk14
import Derived.Laws.Rows
import Derived.Laws.Tables
set_option linter.unusedSimpArgs false
set_option linter.unusedVariables false

/- Polygons of the reference: Area2, Where (printed by wip/gen_gmc.py). -/
namespace Go.Proofs.YtfpnjbomlmhlpaaGreat
open Go.RowKit

def areaTo (l : List Pnt) : Nat → Int
  | 0 => 0
  | i + 1 => IntKind.i64.wrap (IntKind.i64.wrap (areaTo l i + IntKind.i64.wrap ((pti l i).x * (nxt l i).y)) - IntKind.i64.wrap ((pti l i).y * (nxt l i).x))
noncomputable def area2L (l : List Pnt) : Int := if pchkL l = 0 then areaTo l l.length else 0
def upP (a b q : Pnt) : Bool := decide (a.y ≤ q.y) && decide (q.y < b.y) && decide (0 < turnP a b q)
def dnP (a b q : Pnt) : Bool := decide (b.y ≤ q.y) && decide (q.y < a.y) && decide (turnP a b q < 0)
def insTo (l : List Pnt) (q : Pnt) : Nat → Bool
  | 0 => false
  | i + 1 => if (upP (pti l i) (nxt l i) q || dnP (pti l i) (nxt l i) q) = true then !insTo l q i else insTo l q i
def edgB (l : List Pnt) (q : Pnt) : Bool := (List.range l.length).any fun i => onP q (pti l i) (nxt l i)
noncomputable def whereL (l : List Pnt) (q : Pnt) : Int := if (pchkL l != 0 || !nearP q) = true then -1 else if edgB l q = true then 0 else if insTo l q l.length = true then 1 else -1
set_option maxRecDepth 100000 in
set_option maxHeartbeats 1000000 in
theorem rArea12_any (v : Value) (l : List Pnt) (w : World) (h : SPt w v l) : Calls Tryz.prog 110 #[v] w (Ret w (.int .i64 (area2L l))) := by
  have HS := Lib.hid h
  have hlm := h.len
  obtain ⟨pa, pc, rfl, k1, k2, k3⟩ := h
  have K3 := Lib.hid k3
  have hm : l.length ≤ 9223372036854775807 := by unfold maxLen at hlm; omega
  have HC : Hid (area2L l = if pchkL l = 0 then areaTo l l.length else 0) := rfl
  clear k3 hlm
  go_enter Tryz.func110, Tryz.ntmps110
  go_wp2_with fail
  refine (rChk12_any _ l w HS.out).mono ?_
  rintro e w1 ⟨rfl, hb1⟩
  have HB1 := Lib.hid hb1
  clear hb1
  by_cases hc : pchkL l = 0
  rotate_left
  · rw [if_neg hc] at HC
    go_wp2_with fail
    go_ret
    exact ⟨ret_int HC.out.symm, HB1.out⟩
  rw [if_pos hc] at HC
  have HCK : Hid (l.length ≤ 32) := by
    show _ ≤ _
    unfold pchkL at hc
    split at hc
    · cases hc
    · split at hc
      · cases hc
      · omega
  have hl32 := HCK.out
  rw [hc]
  clear hc HS
  go_wp2_with fail
  go_loopw [3, 4] (fun n i wr => ∃ k : Nat, k ≤ l.length ∧ i = .int .i64 k ∧ n = .int .i64 (areaTo l k) ∧ Hid (Below w.heap.size w wr)) (fun _ i _ => l.length - (intOf i).toNat)
  case atStart => exact ⟨0, Nat.zero_le _, rfl, rfl, HB1⟩
  case round =>
    obtain ⟨i, hi, rfl, rfl, hb⟩ := hrel
    by_cases hlt : i < l.length
    · have m1 : (i + 1) % l.length < l.length := Nat.mod_lt _ (by omega)
      obtain ⟨pb, po, rfl, hc⟩ := K3.out i hlt
      obtain ⟨pb', po', e', hc'⟩ := K3.out _ m1
      cases e'
      have HC1 := Lib.hid (hc.keep hb.out)
      have HC2 := Lib.hid (hc'.keep hb.out)
      have i1 : (i : Int) < l.length := by omega
      clear hc hc'
      go_upto_region 7 with fail
      refine wp_region_nw gmT gmT_ok [⟨pb, po + i * 2, ptCells (pti l i)⟩, ⟨pb, po + (i + 1) % l.length * 2, ptCells (nxt l i)⟩] [] [(18, .ix i 0), (26, .ix ((i + 1) % l.length) 1)] [] [⟨12, 14, 5, 19, 183, #[.int .i64 0, .int .i64 0], ptA (pti l i)⟩, ⟨13, 15, 6, 27, 183, #[.int .i64 0, .int .i64 0], ptA (nxt l i)⟩]
        (by kernel_rfl) mixed (by kernel_rfl) (by show ([12, 14, 13, 15] : List Nat).Nodup; decide) ?_ (obsC (fun u hu => rangeKeep (pt_range HC1.out) hu) (obsC (fun u hu => rangeKeep (pt_range HC2.out) hu) obsN)) trivial ?_
      · exact List.forall_mem_cons.2 ⟨⟨⟨_, rfl, rfl, rfl⟩, ⟨_, rfl, rfl, rfl, ⟨12, .data⟩, by simp, rfl, rfl⟩, alloc_point, by kernel_rfl, rfl, pt_one _⟩, List.forall_mem_cons.2 ⟨⟨⟨_, rfl, rfl, rfl⟩, ⟨_, rfl, rfl, rfl, ⟨13, .data⟩, by simp, rfl, rfl⟩, alloc_point, by kernel_rfl, rfl, pt_one _⟩, fun p hp => by cases hp⟩⟩
      conv => whnf
      refine And.intro (under_of ⟨rfl, hlt, rfl, rfl⟩) ?_
      conv => whnf
      refine And.intro (Nat.le_of_ble_eq_true rfl) ?_
      conv => whnf
      refine And.intro (under_of (by omega)) ?_
      conv => whnf
      refine And.intro (under_of ⟨modix1 (by omega), m1, rfl, rfl⟩) ?_
      conv => whnf
      refine And.intro (Nat.le_of_ble_eq_true rfl) ?_
      conv => whnf
      refine And.intro ⟨rfl, rfl, trivial⟩ ?_
      intro f1
      conv => whnf
      intro w2 h2 hnw2
      obtain ⟨b5, e5, g5, o5⟩ := hnw2 _ (.head _)
      obtain ⟨b6, e6, g6, o6⟩ := hnw2 _ (.tail _ (.head _))
      dsimp only at e5
      rw [e5]
      dsimp only at e6
      rw [e6]
      clear hnw2 e5 e6
      have HB2 := Lib.hid (ext_trans hb.out h2)
      have O5 := Lib.hid o5
      have O6 := Lib.hid o6
      clear h2 g5 g6 o5 o6
      go_upto_region 8 with fail
      refine wp_region_et gmT gmT_ok [⟨b5, 0, (ptA (pti l i)).toList⟩, ⟨b6, 0, (ptA (nxt l i)).toList⟩] (Below w2.heap.size w2) [(5, 0), (6, 1)] [] [(3, .int .i64 (areaTo l (i + 1)))] (by kernel_rfl) (Below.refl _ _)
        (obsC (fun u hu => rangeKeep (range_new O5.out) hu) (obsC (fun u hu => rangeKeep (range_new O6.out) hu) obsN)) ⟨rfl, rfl, trivial⟩ ?_
      conv => whnf
      intro f2
      conv => whnf
      refine And.intro (rfl) ?_
      conv => whnf
      intro w3 h3
      have HB3 := Lib.hid (ext_trans HB2.out h3)
      clear h3
      go_wp2_with fail
      go_roundw
      case rel => exact ⟨i + 1, by omega, by go_num, rfl, HB3⟩
      case measure => simp [intOf]; omega
    · have i1 : ¬ (i : Int) < l.length := by omega
      have e : i = l.length := by omega
      subst e
      go_wp2_with fail
      go_ret
      exact ⟨ret_int HC.out.symm, hb.out⟩
set_option maxRecDepth 100000 in
set_option maxHeartbeats 1000000 in
theorem rWhere_any (v : Value) (l : List Pnt) (q : Pnt) (w : World) (h : SPt w v l) : Calls Tryz.prog 112 #[v, ptV q] w (Ret w (.int .i64 (whereL l q))) := by
  have HS := Lib.hid h
  have hlm := h.len
  obtain ⟨pa, pc, rfl, k1, k2, k3⟩ := h
  have K3 := Lib.hid k3
  have hm : l.length ≤ 9223372036854775807 := by unfold maxLen at hlm; omega
  have HC : Hid (whereL l q = if (pchkL l != 0 || !nearP q) = true then -1 else if edgB l q = true then 0 else if insTo l q l.length = true then 1 else -1) := rfl
  clear k3 hlm
  obtain ⟨W1, HOa, HB1, HW⟩ := boxP1 w q
  unfold ptV
  go_enter Tryz.func112, Tryz.ntmps112
  go_upto_region 1 with fail
  rw [HW.out]
  refine wp_region_et gmT gmT_ok [⟨w.heap.size, 0, (ptA q).toList⟩] (Below W1.heap.size W1) [(3, 0)] [(12, .ret (.int .i64 (pchkL l))), (16, .ret (.bool (nearP q)))] [(18, .bool (pchkL l != 0 || !nearP q))] (by kernel_rfl) (Below.refl _ _)
    (obsC (fun u hu => rangeKeep (range_new HOa.out) hu) obsN) ⟨rfl, trivial⟩ ?_
  conv => whnf
  refine And.intro (under_of fun u hu => ret_in (rChk12_any _ l u (HS.out.keep (ext_trans HB1.out hu))) hu) ?_
  conv => whnf
  refine And.intro (Nat.le_of_ble_eq_true rfl) ?_
  conv => whnf
  refine And.intro (under_of fun u hu => ret_in (rNear_any q u) hu) ?_
  conv => whnf
  intro f1
  conv => whnf
  refine And.intro (rfl) ?_
  conv => whnf
  intro w2 h2
  have HB2 := Lib.hid (ext_trans HB1.out h2)
  have HOq := Lib.hid (HOa.out.keep h2)
  clear h2 HW HOa
  obtain ⟨z, hz⟩ : ∃ z, (pchkL l != 0 || !nearP q) = z := ⟨_, rfl⟩
  have HZ := Lib.hid hz
  rw [hz] at HC ⊢
  clear hz
  cases z
  rotate_left
  · rw [if_pos rfl] at HC
    go_wp2_with fail
    go_ret
    exact ⟨ret_int HC.out.symm, HB2.out⟩
  rw [if_neg (by decide)] at HC
  have HCK : Hid (l.length ≤ 32) := by
    show _ ≤ _
    have hc : pchkL l = 0 := by
      have := HZ.out
      rw [Bool.or_eq_false_iff, bne_eq_false_iff_eq] at this
      exact this.1
    unfold pchkL at hc
    split at hc
    · cases hc
    · split at hc
      · cases hc
      · omega
  have hl32 := HCK.out
  clear HS
  go_wp2_with fail
  go_loopw [5, 6] (fun n i wr => ∃ k : Nat, k ≤ l.length ∧ i = .int .i64 k ∧ n = .bool (insTo l q k) ∧ Hid (Below w2.heap.size w2 wr) ∧ Hid (∀ j, j < k → onP q (pti l j) (nxt l j) = false)) (fun _ i _ => l.length - (intOf i).toNat)
  case atStart => exact ⟨0, Nat.zero_le _, rfl, rfl, Below.refl _ _, fun j h => by omega⟩
  case round =>
    obtain ⟨i, hi, rfl, rfl, hb, ha⟩ := hrel
    have HBW := Lib.hid (ext_trans HB2.out hb.out)
    by_cases hlt : i < l.length
    · have m1 : (i + 1) % l.length < l.length := Nat.mod_lt _ (by omega)
      obtain ⟨pb, po, rfl, hc⟩ := K3.out i hlt
      obtain ⟨pb', po', e', hc'⟩ := K3.out _ m1
      cases e'
      have HC1 := Lib.hid (hc.keep HBW.out)
      have HC2 := Lib.hid (hc'.keep HBW.out)
      have i1 : (i : Int) < l.length := by omega
      have HI : Hid (insTo l q (i + 1) = if (upP (pti l i) (nxt l i) q || dnP (pti l i) (nxt l i) q) = true then !insTo l q i else insTo l q i) := rfl
      obtain ⟨s, hs⟩ : ∃ s, insTo l q i = s := ⟨_, rfl⟩
      rw [hs] at HI ⊢
      clear hc hc' hs
      go_upto_region 7 with fail
      refine wp_region_nw gmT gmT_ok [⟨pb, po + i * 2, ptCells (pti l i)⟩, ⟨pb, po + (i + 1) % l.length * 2, ptCells (nxt l i)⟩] [] [(27, .ix i 0), (35, .ix ((i + 1) % l.length) 1)] [] [⟨12, 14, 7, 28, 183, #[.int .i64 0, .int .i64 0], ptA (pti l i)⟩, ⟨13, 15, 8, 36, 183, #[.int .i64 0, .int .i64 0], ptA (nxt l i)⟩]
        (by kernel_rfl) mixed (by kernel_rfl) (by show ([12, 14, 13, 15] : List Nat).Nodup; decide) ?_ (obsC (fun u hu => rangeKeep (pt_range HC1.out) hu) (obsC (fun u hu => rangeKeep (pt_range HC2.out) hu) obsN)) trivial ?_
      · exact List.forall_mem_cons.2 ⟨⟨⟨_, rfl, rfl, rfl⟩, ⟨_, rfl, rfl, rfl, ⟨12, .data⟩, by simp, rfl, rfl⟩, alloc_point, by kernel_rfl, rfl, pt_one _⟩, List.forall_mem_cons.2 ⟨⟨⟨_, rfl, rfl, rfl⟩, ⟨_, rfl, rfl, rfl, ⟨13, .data⟩, by simp, rfl, rfl⟩, alloc_point, by kernel_rfl, rfl, pt_one _⟩, fun p hp => by cases hp⟩⟩
      conv => whnf
      refine And.intro (under_of ⟨rfl, hlt, rfl, rfl⟩) ?_
      conv => whnf
      refine And.intro (Nat.le_of_ble_eq_true rfl) ?_
      conv => whnf
      refine And.intro (under_of (by omega)) ?_
      conv => whnf
      refine And.intro (under_of ⟨modix1 (by omega), m1, rfl, rfl⟩) ?_
      conv => whnf
      refine And.intro (Nat.le_of_ble_eq_true rfl) ?_
      conv => whnf
      refine And.intro ⟨rfl, rfl, trivial⟩ ?_
      intro f1
      conv => whnf
      intro w3 h3 hnw3
      obtain ⟨b7, e7, g7, o7⟩ := hnw3 _ (.head _)
      obtain ⟨b8, e8, g8, o8⟩ := hnw3 _ (.tail _ (.head _))
      dsimp only at e7
      rw [e7]
      dsimp only at e8
      rw [e8]
      clear hnw3 e7 e8
      have HB3 := Lib.hid (ext_trans hb.out h3)
      have HBW3 := Lib.hid (ext_trans HB2.out HB3.out)
      have O7 := Lib.hid o7
      have O8 := Lib.hid o8
      have HQ3 := Lib.hid (HOq.out.keep HB3.out)
      clear h3 g7 g8 o7 o8 HC1 HC2
      go_upto_region 8 with fail
      refine wp_region_et gmT gmT_ok [⟨b7, 0, (ptA (pti l i)).toList⟩, ⟨b8, 0, (ptA (nxt l i)).toList⟩, ⟨w.heap.size, 0, (ptA q).toList⟩] (Below w3.heap.size w3) [(7, 0), (8, 1), (3, 2)] [(40, .ret (.bool (onP q (pti l i) (nxt l i))))] [(40, .bool (onP q (pti l i) (nxt l i)))] (by kernel_rfl) (Below.refl _ _)
        (obsC (fun u hu => rangeKeep (range_new O7.out) hu) (obsC (fun u hu => rangeKeep (range_new O8.out) hu) (obsC (fun u hu => rangeKeep (range_new HQ3.out) hu) obsN))) ⟨rfl, rfl, rfl, trivial⟩ ?_
      conv => whnf
      refine And.intro (Nat.le_of_ble_eq_true rfl) ?_
      conv => whnf
      refine And.intro (Nat.le_of_ble_eq_true rfl) ?_
      conv => whnf
      refine And.intro (Nat.le_of_ble_eq_true rfl) ?_
      conv => whnf
      refine And.intro (under_of fun u hu => ret_in (rOn_any _ _ _ u) hu) ?_
      conv => whnf
      intro f2
      conv => whnf
      refine And.intro (rfl) ?_
      conv => whnf
      intro w4 h4
      have HB4 := Lib.hid (ext_trans HB3.out h4)
      have HBW4 := Lib.hid (ext_trans HB2.out HB4.out)
      have O74 := Lib.hid (O7.out.keep h4)
      have O84 := Lib.hid (O8.out.keep h4)
      have HQ4 := Lib.hid (HQ3.out.keep h4)
      clear h4 O7 O8 HQ3
      obtain ⟨z, hz⟩ : ∃ z, onP q (pti l i) (nxt l i) = z := ⟨_, rfl⟩
      have HZ2 := Lib.hid hz
      rw [hz]
      clear hz
      cases z
      rotate_left
      · have HE : Hid (edgB l q = true) := by
          show _ = _
          unfold edgB
          rw [List.any_eq_true]
          exact ⟨i, List.mem_range.2 hlt, HZ2.out⟩
        rw [if_pos HE.out] at HC
        go_wp2_with fail
        go_ret
        exact ⟨ret_int HC.out.symm, HBW4.out⟩
      have HA : Hid (∀ j, j < i + 1 → onP q (pti l j) (nxt l j) = false) := fun j h => by
        by_cases e : j = i
        · subst e; exact HZ2.out
        · exact ha.out j (by omega)
      clear ha HZ2
      go_upto_region 10 with fail
      refine wp_region_et gmT gmT_ok [⟨b7, 0, (ptA (pti l i)).toList⟩, ⟨b8, 0, (ptA (nxt l i)).toList⟩, ⟨w.heap.size, 0, (ptA q).toList⟩] (Below w4.heap.size w4) [(7, 0), (8, 1), (3, 2)] [(57, .ret (.int .i64 (turnP (pti l i) (nxt l i) q)))] [(9, .bool (upP (pti l i) (nxt l i) q))] (by kernel_rfl) (Below.refl _ _)
        (obsC (fun u hu => rangeKeep (range_new O74.out) hu) (obsC (fun u hu => rangeKeep (range_new O84.out) hu) (obsC (fun u hu => rangeKeep (range_new HQ4.out) hu) obsN))) ⟨rfl, rfl, rfl, trivial⟩ ?_
      conv => whnf
      refine And.intro (Nat.le_of_ble_eq_true rfl) ?_
      conv => whnf
      refine And.intro (Nat.le_of_ble_eq_true rfl) ?_
      conv => whnf
      refine And.intro (Nat.le_of_ble_eq_true rfl) ?_
      conv => whnf
      refine And.intro (under_of fun u hu => ret_in (rTurn_any _ _ _ u) hu) ?_
      conv => whnf
      intro f3
      conv => whnf
      refine And.intro (rfl) ?_
      conv => whnf
      intro w5 h5
      have HB5 := Lib.hid (ext_trans HB4.out h5)
      have O75 := Lib.hid (O74.out.keep h5)
      have O85 := Lib.hid (O84.out.keep h5)
      have HQ5 := Lib.hid (HQ4.out.keep h5)
      clear h5 O74 O84 HQ4
      go_upto_region 11 with fail
      refine wp_region_et gmT gmT_ok [⟨b7, 0, (ptA (pti l i)).toList⟩, ⟨b8, 0, (ptA (nxt l i)).toList⟩, ⟨w.heap.size, 0, (ptA q).toList⟩] (Below w5.heap.size w5) [(7, 0), (8, 1), (3, 2)] [(76, .ret (.int .i64 (turnP (pti l i) (nxt l i) q)))] [(10, .bool (dnP (pti l i) (nxt l i) q))] (by kernel_rfl) (Below.refl _ _)
        (obsC (fun u hu => rangeKeep (range_new O75.out) hu) (obsC (fun u hu => rangeKeep (range_new O85.out) hu) (obsC (fun u hu => rangeKeep (range_new HQ5.out) hu) obsN))) ⟨rfl, rfl, rfl, trivial⟩ ?_
      conv => whnf
      refine And.intro (Nat.le_of_ble_eq_true rfl) ?_
      conv => whnf
      refine And.intro (Nat.le_of_ble_eq_true rfl) ?_
      conv => whnf
      refine And.intro (Nat.le_of_ble_eq_true rfl) ?_
      conv => whnf
      refine And.intro (under_of fun u hu => ret_in (rTurn_any _ _ _ u) hu) ?_
      conv => whnf
      intro f4
      conv => whnf
      refine And.intro (rfl) ?_
      conv => whnf
      intro w6 h6
      have HB6 := Lib.hid (ext_trans HB5.out h6)
      clear h6 O75 O85 HQ5
      obtain ⟨u, hu⟩ : ∃ u, upP (pti l i) (nxt l i) q = u := ⟨_, rfl⟩
      obtain ⟨v, hv⟩ : ∃ v, dnP (pti l i) (nxt l i) q = v := ⟨_, rfl⟩
      rw [hu, hv] at HI
      rw [hu, hv]
      clear hu hv
      cases u <;> cases v
      · rw [if_neg (by decide)] at HI
        go_wp2_with fail
        go_roundw
        case rel => exact ⟨i + 1, by omega, by go_num, congrArg Value.bool HI.out.symm, HB6, HA⟩
        case measure => simp [intOf]; omega
      all_goals
        rw [if_pos (by decide)] at HI
        go_wp2_with fail
        go_roundw
        case rel => exact ⟨i + 1, by omega, by go_num, congrArg Value.bool HI.out.symm, HB6, HA⟩
        case measure => simp [intOf]; omega
    · have i1 : ¬ (i : Int) < l.length := by omega
      have e : i = l.length := by omega
      subst e
      have HE : Hid (¬ edgB l q = true) := by
        show ¬ _
        unfold edgB
        rw [List.any_eq_true]
        rintro ⟨j, h1, h2⟩
        rw [ha.out j (List.mem_range.1 h1)] at h2
        cases h2
      rw [if_neg HE.out] at HC
      obtain ⟨s, hs⟩ : ∃ s, insTo l q l.length = s := ⟨_, rfl⟩
      rw [hs] at HC ⊢
      clear hs
      cases s
      · rw [if_neg (by decide)] at HC
        go_wp2_with fail
        go_ret
        exact ⟨ret_int HC.out.symm, HBW.out⟩
      · rw [if_pos rfl] at HC
        go_wp2_with fail
        go_ret
        exact ⟨ret_int HC.out.symm, HBW.out⟩
end Go.Proofs.YtfpnjbomlmhlpaaGreat

/- Regions of the reference: cross; Check, contours, Area2 come back with a number (printed by wip/gen_gmd.py). -/
namespace Go.Proofs.YtfpnjbomlmhlpaaGreat
open Go.RowKit

def crossB (p q : List Pnt) : Bool := (List.range p.length).any fun i => (List.range q.length).any fun k => meetQ (pti p i) (nxt p i) (pti q k) (nxt q k)
theorem crossB_true {p q : List Pnt} {i k : Nat} (hi : i < p.length) (hk : k < q.length) (h : meetQ (pti p i) (nxt p i) (pti q k) (nxt q k) = true) : crossB p q = true := by
  unfold crossB
  rw [List.any_eq_true]
  exact ⟨i, List.mem_range.2 hi, by rw [List.any_eq_true]; exact ⟨k, List.mem_range.2 hk, h⟩⟩
theorem crossB_false {p q : List Pnt} (h : ∀ i k, i < p.length → k < q.length → meetQ (pti p i) (nxt p i) (pti q k) (nxt q k) = false) : crossB p q = false := by
  unfold crossB
  rw [List.any_eq_false]
  intro i hi
  rw [Bool.not_eq_true, List.any_eq_false]
  intro k hk
  rw [h i k (List.mem_range.1 hi) (List.mem_range.1 hk)]
  decide
theorem pchk_len {l : List Pnt} (h : pchkL l = 0) : 3 ≤ l.length ∧ l.length ≤ 32 := by
  unfold pchkL at h
  split at h
  · cases h
  · split at h
    · cases h
    · omega
set_option maxRecDepth 100000 in
set_option maxHeartbeats 1000000 in
theorem rcross_any (v u : Value) (l m : List Pnt) (w : World) (h : SPt w v l) (h' : SPt w u m) (hl : l.length ≤ 100000) (hl' : m.length ≤ 100000) : Calls Tryz.prog 111 #[v, u] w (Ret w (.bool (crossB l m))) := by
  obtain ⟨pa, pc, rfl, k1, k2, k3⟩ := h
  obtain ⟨qa, qc, rfl, j1, j2, j3⟩ := h'
  have K3 := Lib.hid k3
  have J3 := Lib.hid j3
  clear k3 j3
  go_enter Tryz.func111, Tryz.ntmps111
  go_wp2_with fail
  go_loopw [5] (fun i wr => ∃ k : Nat, k ≤ l.length ∧ i = .int .i64 k ∧ Hid (Below w.heap.size w wr) ∧ Hid (∀ i n, i < k → n < m.length → meetQ (pti l i) (nxt l i) (pti m n) (nxt m n) = false)) (fun i _ => l.length - (intOf i).toNat)
  case atStart => exact ⟨0, Nat.zero_le _, rfl, Below.refl _ _, fun i n h1 h2 => by omega⟩
  case round =>
    obtain ⟨i, hi, rfl, hb, ha⟩ := hrel
    by_cases hlt : i < l.length
    · have i1 : (i : Int) < l.length := by omega
      go_wp2_with fail
      go_loopw [6] (fun i2 wr2 => ∃ k : Nat, k ≤ m.length ∧ i2 = .int .i64 k ∧ Hid (Below w.heap.size w wr2) ∧ Hid (∀ n, n < k → meetQ (pti l i) (nxt l i) (pti m n) (nxt m n) = false)) (fun i2 _ => m.length - (intOf i2).toNat)
      case atStart => exact ⟨0, Nat.zero_le _, rfl, hb, fun n h => by omega⟩
      case round =>
        obtain ⟨k, hk, rfl, hb2, ha2⟩ := hrel
        by_cases hlt2 : k < m.length
        · have m1 : (i + 1) % l.length < l.length := Nat.mod_lt _ (by omega)
          have m2 : (k + 1) % m.length < m.length := Nat.mod_lt _ (by omega)
          obtain ⟨pb, po, rfl, hc⟩ := K3.out i hlt
          obtain ⟨pb', po', e', hc'⟩ := K3.out _ m1
          cases e'
          obtain ⟨qb, qo, rfl, hd⟩ := J3.out k hlt2
          obtain ⟨qb', qo', e', hd'⟩ := J3.out _ m2
          cases e'
          have HC1 := Lib.hid (hc.keep hb2.out)
          have HC2 := Lib.hid (hc'.keep hb2.out)
          have HD1 := Lib.hid (hd.keep hb2.out)
          have HD2 := Lib.hid (hd'.keep hb2.out)
          have i2 : (k : Int) < m.length := by omega
          clear hc hc' hd hd'
          go_upto_region 7 with fail
          refine wp_region_ev gmT gmT_ok [⟨pb, po + i * 2, ptCells (pti l i)⟩, ⟨pb, po + (i + 1) % l.length * 2, ptCells (nxt l i)⟩, ⟨qb, qo + k * 2, ptCells (pti m k)⟩, ⟨qb, qo + (k + 1) % m.length * 2, ptCells (nxt m k)⟩] (Below wr.heap.size wr) [] [(21, .ix i 0), (29, .ix ((i + 1) % l.length) 1), (33, .ix k 2), (41, .ix ((k + 1) % m.length) 3), (43, .ret (.bool (meetQ (pti l i) (nxt l i) (pti m k) (nxt m k))))] [(43, .bool (meetQ (pti l i) (nxt l i) (pti m k) (nxt m k)))] (by kernel_rfl) mixed (by kernel_rfl) ((Below.refl _ _).drew)
            (obsC (fun u hu => rangeKeep (pt_range HC1.out) hu) (obsC (fun u hu => rangeKeep (pt_range HC2.out) hu) (obsC (fun u hu => rangeKeep (pt_range HD1.out) hu) (obsC (fun u hu => rangeKeep (pt_range HD2.out) hu) obsN)))) trivial ?_
          conv => whnf
          refine And.intro (under_of ⟨rfl, hlt, rfl, rfl⟩) ?_
          conv => whnf
          refine And.intro (Nat.le_of_ble_eq_true rfl) ?_
          conv => whnf
          refine And.intro (under_of (by omega)) ?_
          conv => whnf
          refine And.intro (under_of ⟨modix1 (by omega), m1, rfl, rfl⟩) ?_
          conv => whnf
          refine And.intro (Nat.le_of_ble_eq_true rfl) ?_
          conv => whnf
          refine And.intro (under_of ⟨rfl, hlt2, rfl, rfl⟩) ?_
          conv => whnf
          refine And.intro (Nat.le_of_ble_eq_true rfl) ?_
          conv => whnf
          refine And.intro (under_of (by omega)) ?_
          conv => whnf
          refine And.intro (under_of ⟨modix1 (by omega), m2, rfl, rfl⟩) ?_
          conv => whnf
          refine And.intro (Nat.le_of_ble_eq_true rfl) ?_
          conv => whnf
          refine And.intro (under_of fun u hu => ret_in (rmeet_any _ _ _ _ u) hu) ?_
          conv => whnf
          intro f1
          conv => whnf
          refine And.intro (rfl) ?_
          conv => whnf
          intro w2 h2
          have HB2 := Lib.hid (ext_trans hb2.out h2)
          clear h2
          obtain ⟨z, hz⟩ : ∃ z, meetQ (pti l i) (nxt l i) (pti m k) (nxt m k) = z := ⟨_, rfl⟩
          have HZ := Lib.hid hz
          rw [hz]
          clear hz
          cases z
          rotate_left
          · have HN := Lib.hid (crossB_true hlt hlt2 HZ.out)
            go_wp2_with fail
            go_ret
            exact ⟨ret_bool HN.out.symm, HB2.out⟩
          · have HA : Hid (∀ n, n < k + 1 → meetQ (pti l i) (nxt l i) (pti m n) (nxt m n) = false) := fun n h => by
              by_cases e : n = k
              · subst e; exact HZ.out
              · exact ha2.out n (by omega)
            go_wp2_with fail
            go_roundw
            case rel => exact ⟨k + 1, by omega, by go_num, HB2, HA⟩
            case measure => simp [intOf]; omega
        · have i2 : ¬ (k : Int) < m.length := by omega
          have HA : Hid (∀ i' n, i' < i + 1 → n < m.length → meetQ (pti l i') (nxt l i') (pti m n) (nxt m n) = false) := fun i' n h1 h2 => by
            by_cases e : i' = i
            · subst e; exact ha2.out n (by omega)
            · exact ha.out i' n (by omega) h2
          go_wp2_with fail
          go_roundw
          case rel => exact ⟨i + 1, by omega, by go_num, hb2, HA⟩
          case measure => simp [intOf]; omega
    · have i1 : ¬ (i : Int) < l.length := by omega
      have HN := Lib.hid (crossB_false fun i' n h1 h2 => ha.out i' n (by omega) h2)
      go_wp2_with fail
      go_ret
      exact ⟨ret_bool HN.out.symm, hb.out⟩
theorem boxS (w : World) (oa : Option Addr) (on oc : Nat) (ha : Option Addr) (hn hc : Nat) : ∃ W1, Hid (ObjAt W1 w.heap.size #[.slice oa on oc, .slice ha hn hc] 117) ∧ Hid (Below w.heap.size w W1) ∧ Hid (w.alloc (.cells #[.slice oa on oc, .slice ha hn hc] 117) = W1) :=
  ⟨_, ObjAt.new _ _ _, (Below.refl _ _).alloc (Nat.le_refl _) _, rfl⟩
/-- it comes back with a number -/
def RetN (w : World) (e : Ending) (w' : World) : Prop := ∃ z : Int, e = .returned (.int .i64 z) ∧ Below w.heap.size w w'
/-- a shape -/
structure ShpOK (w : World) (ov hv : Value) (outer : List Pnt) (holes : List (List Pnt)) (hvs : List Value) : Prop where
  o : SPt w ov outer
  n : hvs.length = holes.length
  hs : Sl w hv hvs.length fun i => hvs.getD i default
  h : ∀ i, i < holes.length → SPt w (hvs.getD i default) (holes.getD i [])
theorem ShpOK.keep {w w' : World} {ov hv : Value} {outer : List Pnt} {holes : List (List Pnt)} {hvs : List Value} (h : ShpOK w ov hv outer holes hvs) (hb : Below w.heap.size w w') : ShpOK w' ov hv outer holes hvs := ⟨h.o.keep hb, h.n, Sl.keep h.hs hb, fun i hi => (h.h i hi).keep hb⟩
theorem PrtOK.shp {w : World} {x : Prt} (h : PrtOK w x) : ShpOK w x.ov x.hv x.outer x.holes x.hvs := ⟨h.o, h.n, h.hs, h.h⟩
set_option maxRecDepth 100000 in
/-- too many holes: an error -/
theorem rChk13_full (ov hv : Value) (outer : List Pnt) (holes : List (List Pnt)) (hvs : List Value) (w : World) (h : ShpOK w ov hv outer holes hvs) (hf : 8 < hvs.length) : Calls Tryz.prog 92 #[.agg #[ov, hv]] w fun e w' => ∃ z : Int, z ≠ 0 ∧ e = .returned (.int .i64 z) ∧ Below w.heap.size w w' := by
  obtain ⟨oa, oc, rfl, _⟩ := h.o
  obtain ⟨ha, hc, rfl, s1, s2, _⟩ := h.hs
  unfold maxLen at s2
  clear h
  obtain ⟨W1, HS1, HB1, HW1⟩ := boxS w oa outer.length oc ha hvs.length hc
  have i0 : 8 < (hvs.length : Int) := by omega
  go_enter Tryz.func92, Tryz.ntmps92
  go_upto_region 1 with fail
  rw [HW1.out]
  have c1 := HS1.out.cell 1
  dsimp at c1
  go_wp2_with fail
  go_ret
  exact ⟨_, by decide, rfl, HB1.out⟩
set_option maxRecDepth 100000 in
set_option maxHeartbeats 2000000 in
theorem rChk13_any (ov hv : Value) (outer : List Pnt) (holes : List (List Pnt)) (hvs : List Value) (w : World) (h : ShpOK w ov hv outer holes hvs) : Calls Tryz.prog 92 #[.agg #[ov, hv]] w (RetN w) := by
  have HP := Lib.hid h
  have HO := Lib.hid h.o
  have HNL := Lib.hid h.n
  obtain ⟨oa, oc, rfl, o1, o2, _⟩ := h.o
  obtain ⟨ha, hc, rfl, s1, s2, s3⟩ := h.hs
  have S3 := Lib.hid s3
  unfold maxLen at o2 s2
  clear h s3
  obtain ⟨W1, HS1, HB1, HW1⟩ := boxS w oa outer.length oc ha hvs.length hc
  by_cases hf : 8 < hvs.length
  · have i0 : 8 < (hvs.length : Int) := by omega
    go_enter Tryz.func92, Tryz.ntmps92
    go_upto_region 1 with fail
    rw [HW1.out]
    have c1 := HS1.out.cell 1
    dsimp at c1
    go_wp2_with fail
    go_ret
    exact ⟨_, rfl, HB1.out⟩
  have i0 : ¬ 8 < (hvs.length : Int) := by omega
  go_enter Tryz.func92, Tryz.ntmps92
  go_upto_region 1 with fail
  rw [HW1.out]
  have c0 := HS1.out.cell 0
  have c1 := HS1.out.cell 1
  dsimp at c0 c1
  go_wp2_with fail
  refine (rChk12_any _ outer W1 (HO.out.keep HB1.out)).mono ?_
  rintro e w2 ⟨rfl, hb2⟩
  have HB2 := Lib.hid (ext_trans HB1.out hb2)
  have HS2 := Lib.hid (HS1.out.keep hb2)
  clear hb2 c0 c1
  by_cases hz : pchkL outer = 0
  rotate_left
  · go_wp2_with fail
    go_ret
    exact ⟨_, rfl, HB2.out⟩
  have HZ := Lib.hid hz
  rw [hz]
  have ho32 := pchk_len hz
  clear hz
  have c0 := HS2.out.cell 0
  have c1 := HS2.out.cell 1
  dsimp at c0 c1
  go_wp2_with fail
  refine (rArea12_any _ outer w2 (HO.out.keep HB2.out)).mono ?_
  rintro e w3 ⟨rfl, hb3⟩
  have HB3 := Lib.hid (ext_trans HB2.out hb3)
  have HS3 := Lib.hid (HS2.out.keep hb3)
  clear hb3 c0 c1
  by_cases ha0 : area2L outer ≤ 0
  · go_wp2_with fail
    go_ret
    exact ⟨_, rfl, HB3.out⟩
  go_wp2_with fail
  clear ha0
  go_loopw [4] (fun i wr => ∃ k : Nat, k ≤ hvs.length ∧ i = .int .i64 k ∧ Hid (Below w3.heap.size w3 wr) ∧ Hid (∀ j, j < k → 3 ≤ (holes.getD j []).length ∧ (holes.getD j []).length ≤ 32)) (fun i _ => hvs.length - (intOf i).toNat)
  case atStart => exact ⟨0, Nat.zero_le _, rfl, Below.refl _ _, fun j h => by omega⟩
  case round =>
    obtain ⟨i, hi, rfl, hb, hal⟩ := hrel
    have HBW := Lib.hid (ext_trans HB3.out hb.out)
    have HSW := Lib.hid (HS3.out.keep hb.out)
    have c1 := HSW.out.cell 1
    dsimp at c1
    by_cases hlt : i < hvs.length
    · have i1 : (i : Int) < hvs.length := by omega
      obtain ⟨xb, xo, rfl, hcx⟩ := S3.out i hlt
      have hcx := cell_keep HBW.out hcx
      try dsimp only at hcx
      have HX := Lib.hid ((HP.out.h i (by have := HNL.out; omega)).keep HBW.out)
      obtain ⟨L, hL⟩ : ∃ L, holes.getD i [] = L := ⟨_, rfl⟩
      have HL := Lib.hid hL
      rw [hL] at HX
      obtain ⟨ya, yc, ey, y1, y2, y3⟩ := id HX.out
      rw [ey] at HX hcx
      have Y3 := Lib.hid y3
      clear y3 hL
      unfold maxLen at y2
      go_wp2_with fail
      clear hcx
      refine (rChk12_any _ L wr HX.out).mono ?_
      rintro e w4 ⟨rfl, hb4⟩
      have HB4 := Lib.hid (ext_trans hb.out hb4)
      have HBW4 := Lib.hid (ext_trans HBW.out hb4)
      have HS4 := Lib.hid (HSW.out.keep hb4)
      have HX4 := Lib.hid (HX.out.keep hb4)
      clear c1
      by_cases hz : pchkL L = 0
      rotate_left
      · go_wp2_with fail
        go_ret
        exact ⟨_, rfl, HBW4.out⟩
      rw [hz]
      have hl32 := pchk_len hz
      have hl0 : 0 < L.length := by omega
      obtain ⟨pb, po, rfl, hp0⟩ := Y3.out 0 hl0
      have HP4 := Lib.hid (hp0.keep hb4)
      clear hz hb4 hp0
      go_upto_region 15 with fail
      refine wp_region_ev gmT gmT_ok [⟨w.heap.size, 0, [.slice oa outer.length oc, .slice (some ⟨xb, xo, none⟩) hvs.length hc]⟩, ⟨pb, po + 0 * 2, ptCells (pti L 0)⟩] (Below w4.heap.size w4) [(1, 0)] [(40, .ret (.int .i64 (area2L L))), (46, .ret (.bool (crossB outer L))), (52, .ix 0 1), (54, .ret (.int .i64 (whereL outer (pti L 0))))] [(56, .bool ((decide (0 ≤ area2L L) || crossB outer L) || (whereL outer (pti L 0) != 1)))] (by kernel_rfl) mixed (by kernel_rfl) ((Below.refl _ _).drew)
        (obsC (fun u hu => rangeKeep (range_new HS4.out) hu) (obsC (fun u hu => rangeKeep (pt_range HP4.out) hu) obsN)) ⟨rfl, trivial⟩ ?_
      conv => whnf
      refine And.intro (under_of fun u hu => ret_in (rArea12_any _ L u (HX4.out.keep hu)) hu) ?_
      conv => whnf
      refine And.intro (under_of fun u hu => ret_in (rcross_any _ _ outer L u (HO.out.keep (ext_trans HBW4.out hu)) (HX4.out.keep hu) (by omega) (by omega)) hu) ?_
      conv => whnf
      refine And.intro (under_of ⟨rfl, hl0, rfl, rfl⟩) ?_
      conv => whnf
      refine And.intro (Nat.le_of_ble_eq_true rfl) ?_
      conv => whnf
      refine And.intro (under_of fun u hu => ret_in (rWhere_any _ outer (pti L 0) u (HO.out.keep (ext_trans HBW4.out hu))) hu) ?_
      conv => whnf
      intro f2
      conv => whnf
      refine And.intro (rfl) ?_
      conv => whnf
      intro w5 h5
      have HB5 := Lib.hid (ext_trans HB4.out h5)
      have HBW5 := Lib.hid (ext_trans HBW4.out h5)
      have HS5 := Lib.hid (HS4.out.keep h5)
      have HX5 := Lib.hid (HX4.out.keep h5)
      have HP5 := Lib.hid (HP4.out.keep h5)
      clear h5 HS4 HX4 HP4 HX
      obtain ⟨z, hz⟩ : ∃ z, ((decide (0 ≤ area2L L) || crossB outer L) || (whereL outer (pti L 0) != 1)) = z := ⟨_, rfl⟩
      rw [hz]
      clear hz
      cases z
      rotate_left
      · go_wp2_with fail
        go_ret
        exact ⟨_, rfl, HBW5.out⟩
      go_wp2_with fail
      go_loopw [7] (fun i2 wr2 => ∃ k : Nat, k ≤ i ∧ i2 = .int .i64 k ∧ Hid (Below w5.heap.size w5 wr2)) (fun i2 _ => i - (intOf i2).toNat)
      case atStart => exact ⟨0, Nat.zero_le _, rfl, Below.refl _ _⟩
      case round =>
        obtain ⟨k, hk, rfl, hb6⟩ := hrel
        have HBW6 := Lib.hid (ext_trans HBW5.out hb6.out)
        by_cases hlt2 : k < i
        · have i2 : (k : Int) < i := by omega
          obtain ⟨xb', xo', e', hck⟩ := S3.out k (by omega)
          cases e'
          have hck := cell_keep HBW6.out hck
          try dsimp only at hck
          have HK := Lib.hid ((HP.out.h k (by have := HNL.out; omega)).keep HBW6.out)
          have hkl := hal.out k hlt2
          obtain ⟨M, hM⟩ : ∃ M, holes.getD k [] = M := ⟨_, rfl⟩
          rw [hM] at HK hkl
          obtain ⟨za, zc, ez, z1, z2, z3⟩ := id HK.out
          rw [ez] at HK hck
          obtain ⟨zb, zo, rfl, hz0⟩ := z3 0 (by omega)
          have HCK := Lib.hid hck
          have HZ0 := Lib.hid hz0
          have HS6 := Lib.hid (HS5.out.keep hb6.out)
          have HX6 := Lib.hid (HX5.out.keep hb6.out)
          have HP6 := Lib.hid (HP5.out.keep hb6.out)
          have hk0 : 0 < M.length := by omega
          clear z3 hM hck hz0
          go_upto_region 20 with fail
          refine wp_region_ev gmT gmT_ok [⟨w.heap.size, 0, [.slice oa outer.length oc, .slice (some ⟨xb, xo, none⟩) hvs.length hc]⟩, ⟨xb, xo + k, [.slice (some ⟨zb, zo, none⟩) M.length zc]⟩, ⟨zb, zo + 0 * 2, ptCells (pti M 0)⟩, ⟨pb, po + 0 * 2, ptCells (pti L 0)⟩] (Below wr.heap.size wr) [(1, 0)] [(66, .ix k 1), (68, .ret (.bool (crossB L M))), (74, .ix k 1), (76, .ix 0 2), (78, .ret (.int .i64 (whereL L (pti M 0)))), (85, .ix k 1), (88, .ix 0 3), (90, .ret (.int .i64 (whereL M (pti L 0))))] [(92, .bool ((crossB L M || (whereL L (pti M 0) != -1)) || (whereL M (pti L 0) != -1)))] (by kernel_rfl) mixed (by kernel_rfl) ((Below.refl _ _).drew)
            (obsC (fun u hu => rangeKeep (range_new HS6.out) hu) (obsC (fun u hu => rangeKeep (intR HCK.out) hu) (obsC (fun u hu => rangeKeep (pt_range HZ0.out) hu) (obsC (fun u hu => rangeKeep (pt_range HP6.out) hu) obsN)))) ⟨rfl, trivial⟩ ?_
          conv => whnf
          refine And.intro (under_of ⟨rfl, by omega, rfl, by show xo + k = xo + k * 1; omega⟩) ?_
          conv => whnf
          refine And.intro (under_of fun u hu => ret_in (rcross_any _ _ L M u (HX6.out.keep hu) (HK.out.keep hu) (by omega) (by omega)) hu) ?_
          conv => whnf
          refine And.intro (under_of ⟨rfl, by omega, rfl, by show xo + k = xo + k * 1; omega⟩) ?_
          conv => whnf
          refine And.intro (under_of ⟨rfl, hk0, rfl, rfl⟩) ?_
          conv => whnf
          refine And.intro (Nat.le_of_ble_eq_true rfl) ?_
          conv => whnf
          refine And.intro (under_of fun u hu => ret_in (rWhere_any _ L (pti M 0) u (HX6.out.keep hu)) hu) ?_
          conv => whnf
          refine And.intro (under_of ⟨rfl, by omega, rfl, by show xo + k = xo + k * 1; omega⟩) ?_
          conv => whnf
          refine And.intro (under_of ⟨rfl, hl0, rfl, rfl⟩) ?_
          conv => whnf
          refine And.intro (Nat.le_of_ble_eq_true rfl) ?_
          conv => whnf
          refine And.intro (under_of fun u hu => ret_in (rWhere_any _ M (pti L 0) u (HK.out.keep hu)) hu) ?_
          conv => whnf
          intro f3
          conv => whnf
          refine And.intro (rfl) ?_
          conv => whnf
          intro w7 h7
          have HB7 := Lib.hid (ext_trans hb6.out h7)
          have HBW7 := Lib.hid (ext_trans HBW6.out h7)
          clear h7
          obtain ⟨z, hz⟩ : ∃ z, ((crossB L M || (whereL L (pti M 0) != -1)) || (whereL M (pti L 0) != -1)) = z := ⟨_, rfl⟩
          rw [hz]
          clear hz
          cases z
          rotate_left
          · go_wp2_with fail
            go_ret
            exact ⟨_, rfl, HBW7.out⟩
          · go_wp2_with fail
            go_roundw
            case rel => exact ⟨k + 1, by omega, by go_num, HB7⟩
            case measure => simp [intOf]; omega
        · have i2 : ¬ (k : Int) < i := by omega
          have HA : Hid (∀ j, j < i + 1 → 3 ≤ (holes.getD j []).length ∧ (holes.getD j []).length ≤ 32) := fun j h => by
            by_cases e : j = i
            · subst e; rw [HL.out]; exact hl32
            · exact hal.out j (by omega)
          have HBN := Lib.hid (ext_trans HB5.out hb6.out)
          go_wp2_with fail
          go_roundw
          case rel => exact ⟨i + 1, by omega, by go_num, HBN, HA⟩
          case measure => simp [intOf]; omega
    · have i1 : ¬ (i : Int) < hvs.length := by omega
      go_wp2_with fail
      go_ret
      exact ⟨_, rfl, HBW.out⟩
end Go.Proofs.YtfpnjbomlmhlpaaGreat

/- Node, Part, Package of the reference of structure; Section of the reference of materials (printed by wip/gen_gme.py). -/
namespace Go.Proofs.YtfpnjbomlmhlpaaGreat
open Go.RowKit

theorem find_hit {T : Type} (p : T → Bool) (l : List T) (k : Nat) (hk : k < l.length) (h : ∀ j (hj : j < k), p l[j] = false) (h2 : p l[k] = true) : l.find? p = some l[k] := by
  rw [List.find?_eq_some_iff_getElem]
  exact ⟨h2, k, hk, rfl, fun j hj => by simp [h j hj]⟩
theorem find_miss {T : Type} (p : T → Bool) (l : List T) (h : ∀ j (hj : j < l.length), p l[j] = false) : l.find? p = none := by
  rw [List.find?_eq_none]
  intro x hx
  obtain ⟨j, hj, rfl⟩ := List.mem_iff_getElem.1 hx
  rw [h j hj]; decide
theorem two_box (w : World) (A B : Array Value) (s t : TypeId) : ∃ W, Hid (ObjAt W w.heap.size A s) ∧ Hid (ObjAt W (w.heap.size + 1) B t) ∧ Hid (Below w.heap.size w W) ∧ Hid ((w.alloc (.cells A s)).alloc (.cells B t) = W) :=
  ⟨_, (ObjAt.new w A s).alloc _, (by have h := ObjAt.new (w.alloc (.cells A s)) B t; rw [size_alloc] at h; exact h), (((Below.refl _ _).alloc (Nat.le_refl _) _).alloc (by rw [size_alloc]; omega) _), rfl⟩
theorem results_cell {fn : Func} {p q : Tmp} {ty : TypeId} (h : fn.results = #[.cell p ty, .tmp q]) {tmps : Array Value} {w : World} {g : Nat} {cs : Array Value} {v : Value}
    (hp : tmps.getD p undef = .pointer (some ⟨g, 0, none⟩)) (hq : tmps.getD q undef = v) (hl : (loadVar ty ⟨g, 0, none⟩).run Tryz.prog w = .ok (.agg cs) w) :
    (results fn tmps).run Tryz.prog w = .ok (.tuple #[.agg cs, v]) w := by
  have hp' : tmps[p]?.getD undef = .pointer (some ⟨g, 0, none⟩) := by simpa using hp
  have hq' : tmps[q]?.getD undef = v := by simpa using hq
  simp [results, h, hp', hq', asAddr, hl]
theorem at_store {ops : Array Oper} {rest : List Oper} {a : Act} {w : World} {Q : Exit → Act → World → Prop} {t : TypeId} {x y : Operand} {ty : TypeId} {p : String} {af : Array _} {gd : Option _} (h : wpList Tryz.prog ops Q (⟨none, .store t x y, ty, p, af, gd⟩ :: rest) a w) : wpList Tryz.prog ops Q (⟨none, .store t x y, ty, p, af, gd⟩ :: rest) a w := h
/-- a struct that is read from the midst of an object -/
theorem wpList_load_mid {ops : Array Oper} {rest : List Oper} {o : Oper} {a : Act} {w : World} {Q : Exit → Act → World → Prop} (hgd : o.guard = none) (t : TypeId) (x : Operand) (ho : o.op = .load t x)
    (b off : Nat) (cs : Array Value) (hx : a.eval x = .pointer (some ⟨b, off, none⟩)) (hag : gmAg t = some cs.toList.length) (hr : w.rangeAt b off cs.toList) (h : wpList Tryz.prog ops Q rest (a.put o.dst (.agg cs)) w) : wpList Tryz.prog ops Q (o :: rest) a w :=
  wpList_plain hgd fun _ hK => wp_of_run (v := .agg cs) (w' := w) (by
    unfold execOp
    simp only [ho, hx, Sem.run_bind, gmAg_ok t _ hag b off cs.toList w rfl hr]; rfl) (hK _ _ h)
theorem one_no (x : Nod) : (noA x).all (·.oneCell') = true := by simp [noA, Value.oneCell']
theorem one0_no : (noA default).all (·.oneCell') = true := by kernel_rfl
theorem ag_no (x : Nod) : gmAg 107 = some (noCells x).length := (by kernel_rfl : gmAg 107 = some 3)
theorem info_no : (Tryz.prog.info? 107).map (·.size) = some 3 := by kernel_rfl
theorem load_no {w : World} {b : Nat} {x : Nod} {e : TypeId} (h : ObjAt w b (noA x) e) : (loadVar 107 ⟨b, 0, none⟩).run Tryz.prog w = .ok (.agg (noA x)) w := run_loadVar_row (P := Tryz.prog) w b e 107 (noA x) (0, 0) _ h Tryz.underlying107 rfl info_no
def noFind (l : List Nod) (name : List UInt8) : Option Nod := l.find? fun x => x.id == name
def nodeV (l : List Nod) (name : List UInt8) : Value := .tuple #[.agg (noA ((noFind l name).getD default)), .bool (noFind l name).isSome]
set_option maxRecDepth 100000 in
set_option maxHeartbeats 400000 in
theorem rNode_any (D : Des) (l : List Nod) (name : List UInt8) (w : World) (h : SNo w (.slice D.n.a D.n.n D.n.c) l) (hl : l.length ≤ 100000) : Calls Tryz.prog 52 #[.agg (desA D), .string (bs name)] w (Ret w (nodeV l name)) := by
  have HDN := Lib.hid h.n
  have H3 := Lib.hid (fun i (hi : i < l.length) => h.at hi)
  clear h
  have HV : Hid (nodeV l name = .tuple #[.agg (noA ((noFind l name).getD default)), .bool (noFind l name).isSome]) := rfl
  obtain ⟨W1, HO1', HR1', HB1, HW1⟩ := two_box w #[.string (bs D.hull), .slice D.n.a D.n.n D.n.c, .slice D.p.a D.p.n D.p.c, .slice D.s.a D.s.n D.s.c, .slice D.k.a D.k.n D.k.c, .slice D.e.a D.e.n D.e.c] #[.string ⟨#[]⟩, .int .i64 0, .string ⟨#[]⟩] 28 107
  have HO1 : Hid (ObjAt W1 w.heap.size (desA D) 28) := HO1'
  have HR1 : Hid (ObjAt W1 (w.heap.size + 1) (noA default) 107) := HR1'
  clear HO1' HR1'
  have hm : l.length ≤ 9223372036854775807 := by omega
  unfold desA
  go_enter Tryz.func52, Tryz.ntmps52
  go_upto_region 1 with fail
  rw [HW1.out]
  clear HW1
  go_wp2_with fail
  go_loopw [6] (fun i wr => ∃ k : Nat, k ≤ l.length ∧ i = .int .i64 k ∧ Hid (Below W1.heap.size W1 wr) ∧ Hid (∀ j, j < k → ((noi l j).id == name) = false)) (fun i _ => l.length - (intOf i).toNat)
  case atStart => exact ⟨0, Nat.zero_le _, rfl, Below.refl _ _, fun j h => by omega⟩
  case round =>
    obtain ⟨k, hk, rfl, hb, ha⟩ := hrel
    have HOW := Lib.hid (HO1.out.keep hb.out)
    have HRW := Lib.hid (HR1.out.keep hb.out)
    have HBW := Lib.hid (ext_trans HB1.out hb.out)
    have c1 := HOW.out.cell 1
    dsimp [desA] at c1
    rw [HDN.out] at c1
    by_cases hlt : k < l.length
    · obtain ⟨b, off, hA, hc⟩ := H3.out k hlt
      have HC := Lib.hid (hc.keep HBW.out)
      rw [hA] at c1
      have i1 : (k : Int) < l.length := by omega
      have c2 := HC.out.c0
      have HS := Lib.hid (bs_eq (noi l k).id name)
      clear hc hA
      obtain ⟨z, hz⟩ : ∃ z, ((bs (noi l k).id).toList == (bs name).toList) = z := ⟨_, rfl⟩
      rw [hz] at HS
      cases z
      · have HA : Hid (∀ j, j < k + 1 → ((noi l j).id == name) = false) := fun j h => by
          by_cases e : j = k
          · subst e; exact HS.out.symm
          · exact ha.out j (by omega)
        go_wp2_with fail
        go_roundw
        case rel => exact ⟨k + 1, by omega, by go_num, hb, HA⟩
        case measure => simp [intOf]; omega
      · have HF : Hid (noFind l name = some (noi l k)) := by
          show _ = _
          unfold noFind
          rw [noi_lt hlt]
          refine find_hit _ _ k hlt (fun j hj => ?_) ?_
          · have := ha.out j hj; rw [noi_lt (by omega)] at this; exact this
          · have := HS.out.symm; rw [noi_lt hlt] at this; exact this
        rw [HF.out] at HV
        clear c2
        obtain ⟨d0, d1, d2⟩ := HC.out
        go_wp2_with (refine at_store ?_; refine wpList_store_row (o := ⟨none, .store _ _ _, _, _, _, _⟩) rfl 107 (.tmp 4) (.tmp 26) rfl (w.heap.size + 1) (noA (noi l k)) rfl rfl 107 _ HRW.out info_no rfl (one_no _) ?_)
        clear d0 d1 d2
        refine bodyPost_ret (v := .tuple #[.agg (noA (noi l k)), .bool true]) (results_cell Tryz.results52 rfl rfl (load_no (setRow_heap _ _ _ _ _ _ HRW.out))) rfl ?_
        exact ⟨congrArg Ending.returned HV.out.symm, below_setRow HBW.out (by omega) _⟩
    · have i1 : ¬ (k : Int) < l.length := by omega
      have HF : Hid (noFind l name = none) := by
        show _ = _
        unfold noFind
        refine find_miss _ _ fun j hj => ?_
        have := ha.out j (by omega)
        rw [noi_lt hj] at this
        exact this
      rw [HF.out] at HV
      go_wp2_with (refine at_store ?_; refine wpList_store_row (o := ⟨none, .store _ _ _, _, _, _, _⟩) rfl 107 (.tmp 4) (.tmp 27) rfl (w.heap.size + 1) (noA default) rfl rfl 107 _ HRW.out info_no rfl one0_no ?_)
      refine bodyPost_ret (v := .tuple #[.agg (noA default), .bool false]) (results_cell Tryz.results52 rfl rfl (load_no (setRow_heap _ _ _ _ _ _ HRW.out))) rfl ?_
      exact ⟨congrArg Ending.returned HV.out.symm, below_setRow HBW.out (by omega) _⟩
theorem one_pr {w : World} {x : Prt} (h : PrtOK w x) : (prA x).all (·.oneCell') = true := by
  obtain ⟨a, c, e, _⟩ := h.o
  obtain ⟨a', c', e', _⟩ := h.hs
  simp [prA, e, e', Value.oneCell']
theorem one0_pr : (prA default).all (·.oneCell') = true := by kernel_rfl
theorem ag_pr (x : Prt) : gmAg 123 = some (prCells x).length := (by kernel_rfl : gmAg 123 = some 18)
theorem info_pr : (Tryz.prog.info? 123).map (·.size) = some 18 := by kernel_rfl
theorem load_pr {w : World} {b : Nat} {x : Prt} {e : TypeId} (h : ObjAt w b (prA x) e) : (loadVar 123 ⟨b, 0, none⟩).run Tryz.prog w = .ok (.agg (prA x)) w := run_loadVar_row (P := Tryz.prog) w b e 123 (prA x) (0, 0) _ h Tryz.underlying123 rfl info_pr
def prFind (l : List Prt) (name : List UInt8) : Option Prt := l.find? fun x => x.id == name
def partV (l : List Prt) (name : List UInt8) : Value := .tuple #[.agg (prA ((prFind l name).getD default)), .bool (prFind l name).isSome]
set_option maxRecDepth 100000 in
set_option maxHeartbeats 400000 in
theorem rPart_any (D : Des) (l : List Prt) (name : List UInt8) (w : World) (h : SPr w (.slice D.p.a D.p.n D.p.c) l) (ho : ∀ x ∈ l, PrtOK w x) (hl : l.length ≤ 100000) : Calls Tryz.prog 59 #[.agg (desA D), .string (bs name)] w (Ret w (partV l name)) := by
  have HDN := Lib.hid h.n
  have H3 := Lib.hid (fun i (hi : i < l.length) => h.at hi)
  clear h
  have HONE := Lib.hid (fun x (hx : x ∈ l) => one_pr (ho x hx))
  clear ho
  have HV : Hid (partV l name = .tuple #[.agg (prA ((prFind l name).getD default)), .bool (prFind l name).isSome]) := rfl
  obtain ⟨W1, HO1', HR1', HB1, HW1⟩ := two_box w #[.string (bs D.hull), .slice D.n.a D.n.n D.n.c, .slice D.p.a D.p.n D.p.c, .slice D.s.a D.s.n D.s.c, .slice D.k.a D.k.n D.k.c, .slice D.e.a D.e.n D.e.c] #[.string ⟨#[]⟩, .int .i64 0, .int .i64 0, .string ⟨#[]⟩, .string ⟨#[]⟩, .int .i64 0, .slice none 0 0, .slice none 0 0, .string ⟨#[]⟩, .int .i64 0, .int .i64 0, .int .i64 0, .int .i64 0, .int .i64 0, .int .i64 0, .int .i64 0, .int .i64 0, .int .i64 0] 28 123
  have HO1 : Hid (ObjAt W1 w.heap.size (desA D) 28) := HO1'
  have HR1 : Hid (ObjAt W1 (w.heap.size + 1) (prA default) 123) := HR1'
  clear HO1' HR1'
  have hm : l.length ≤ 9223372036854775807 := by omega
  unfold desA
  go_enter Tryz.func59, Tryz.ntmps59
  go_upto_region 1 with fail
  rw [HW1.out]
  clear HW1
  go_wp2_with fail
  go_loopw [6] (fun i wr => ∃ k : Nat, k ≤ l.length ∧ i = .int .i64 k ∧ Hid (Below W1.heap.size W1 wr) ∧ Hid (∀ j, j < k → ((pri l j).id == name) = false)) (fun i _ => l.length - (intOf i).toNat)
  case atStart => exact ⟨0, Nat.zero_le _, rfl, Below.refl _ _, fun j h => by omega⟩
  case round =>
    obtain ⟨k, hk, rfl, hb, ha⟩ := hrel
    have HOW := Lib.hid (HO1.out.keep hb.out)
    have HRW := Lib.hid (HR1.out.keep hb.out)
    have HBW := Lib.hid (ext_trans HB1.out hb.out)
    have c1 := HOW.out.cell 2
    dsimp [desA] at c1
    rw [HDN.out] at c1
    by_cases hlt : k < l.length
    · obtain ⟨b, off, hA, hc⟩ := H3.out k hlt
      have HC := Lib.hid (hc.keep HBW.out)
      rw [hA] at c1
      have i1 : (k : Int) < l.length := by omega
      have c2 := HC.out.c0
      have HS := Lib.hid (bs_eq (pri l k).id name)
      clear hc hA
      obtain ⟨z, hz⟩ : ∃ z, ((bs (pri l k).id).toList == (bs name).toList) = z := ⟨_, rfl⟩
      rw [hz] at HS
      cases z
      · have HA : Hid (∀ j, j < k + 1 → ((pri l j).id == name) = false) := fun j h => by
          by_cases e : j = k
          · subst e; exact HS.out.symm
          · exact ha.out j (by omega)
        go_wp2_with fail
        go_roundw
        case rel => exact ⟨k + 1, by omega, by go_num, hb, HA⟩
        case measure => simp [intOf]; omega
      · have HF : Hid (prFind l name = some (pri l k)) := by
          show _ = _
          unfold prFind
          rw [pri_lt hlt]
          refine find_hit _ _ k hlt (fun j hj => ?_) ?_
          · have := ha.out j hj; rw [pri_lt (by omega)] at this; exact this
          · have := HS.out.symm; rw [pri_lt hlt] at this; exact this
        rw [HF.out] at HV
        clear c2
        obtain ⟨d0, d1, d2, d3, d4, d5, d6, d7, d8, d9, d10, d11, d12, d13, d14, d15, d16, d17⟩ := HC.out
        go_wp2_with (refine at_store ?_; refine wpList_store_row (o := ⟨none, .store _ _ _, _, _, _, _⟩) rfl 123 (.tmp 4) (.tmp 26) rfl (w.heap.size + 1) (prA (pri l k)) rfl rfl 123 _ HRW.out info_pr rfl (HONE.out _ (pri_mem hlt)) ?_)
        clear d0 d1 d2 d3 d4 d5 d6 d7 d8 d9 d10 d11 d12 d13 d14 d15 d16 d17
        refine bodyPost_ret (v := .tuple #[.agg (prA (pri l k)), .bool true]) (results_cell Tryz.results59 rfl rfl (load_pr (setRow_heap _ _ _ _ _ _ HRW.out))) rfl ?_
        exact ⟨congrArg Ending.returned HV.out.symm, below_setRow HBW.out (by omega) _⟩
    · have i1 : ¬ (k : Int) < l.length := by omega
      have HF : Hid (prFind l name = none) := by
        show _ = _
        unfold prFind
        refine find_miss _ _ fun j hj => ?_
        have := ha.out j (by omega)
        rw [pri_lt hj] at this
        exact this
      rw [HF.out] at HV
      go_wp2_with (refine at_store ?_; refine wpList_store_row (o := ⟨none, .store _ _ _, _, _, _, _⟩) rfl 123 (.tmp 4) (.tmp 27) rfl (w.heap.size + 1) (prA default) rfl rfl 123 _ HRW.out info_pr rfl one0_pr ?_)
      refine bodyPost_ret (v := .tuple #[.agg (prA default), .bool false]) (results_cell Tryz.results59 rfl rfl (load_pr (setRow_heap _ _ _ _ _ _ HRW.out))) rfl ?_
      exact ⟨congrArg Ending.returned HV.out.symm, below_setRow HBW.out (by omega) _⟩
theorem one_pk {w : World} {x : Pkg} (h : PkgOK w x) : (pkA x).all (·.oneCell') = true := by
  obtain ⟨a, c, e, _⟩ := h.p
  obtain ⟨a', c', e', _⟩ := h.a
  simp [pkA, e, e', Value.oneCell']
theorem one0_pk : (pkA default).all (·.oneCell') = true := by kernel_rfl
theorem ag_pk (x : Pkg) : gmAg 54 = some (pkCells x).length := (by kernel_rfl : gmAg 54 = some 5)
theorem info_pk : (Tryz.prog.info? 54).map (·.size) = some 5 := by kernel_rfl
theorem load_pk {w : World} {b : Nat} {x : Pkg} {e : TypeId} (h : ObjAt w b (pkA x) e) : (loadVar 54 ⟨b, 0, none⟩).run Tryz.prog w = .ok (.agg (pkA x)) w := run_loadVar_row (P := Tryz.prog) w b e 54 (pkA x) (0, 0) _ h Tryz.underlying54 rfl info_pk
def pkFind (l : List Pkg) (name : List UInt8) : Option Pkg := l.find? fun x => x.id == name
def packageV (l : List Pkg) (name : List UInt8) : Value := .tuple #[.agg (pkA ((pkFind l name).getD default)), .bool (pkFind l name).isSome]
set_option maxRecDepth 100000 in
set_option maxHeartbeats 400000 in
theorem rPackage_any (D : Des) (l : List Pkg) (name : List UInt8) (w : World) (h : SPk w (.slice D.k.a D.k.n D.k.c) l) (ho : ∀ x ∈ l, PkgOK w x) (hl : l.length ≤ 100000) : Calls Tryz.prog 63 #[.agg (desA D), .string (bs name)] w (Ret w (packageV l name)) := by
  have HDN := Lib.hid h.n
  have H3 := Lib.hid (fun i (hi : i < l.length) => h.at hi)
  clear h
  have HONE := Lib.hid (fun x (hx : x ∈ l) => one_pk (ho x hx))
  clear ho
  have HV : Hid (packageV l name = .tuple #[.agg (pkA ((pkFind l name).getD default)), .bool (pkFind l name).isSome]) := rfl
  obtain ⟨W1, HO1', HR1', HB1, HW1⟩ := two_box w #[.string (bs D.hull), .slice D.n.a D.n.n D.n.c, .slice D.p.a D.p.n D.p.c, .slice D.s.a D.s.n D.s.c, .slice D.k.a D.k.n D.k.c, .slice D.e.a D.e.n D.e.c] #[.string ⟨#[]⟩, .string ⟨#[]⟩, .slice none 0 0, .int .i64 0, .slice none 0 0] 28 54
  have HO1 : Hid (ObjAt W1 w.heap.size (desA D) 28) := HO1'
  have HR1 : Hid (ObjAt W1 (w.heap.size + 1) (pkA default) 54) := HR1'
  clear HO1' HR1'
  have hm : l.length ≤ 9223372036854775807 := by omega
  unfold desA
  go_enter Tryz.func63, Tryz.ntmps63
  go_upto_region 1 with fail
  rw [HW1.out]
  clear HW1
  go_wp2_with fail
  go_loopw [6] (fun i wr => ∃ k : Nat, k ≤ l.length ∧ i = .int .i64 k ∧ Hid (Below W1.heap.size W1 wr) ∧ Hid (∀ j, j < k → ((pki l j).id == name) = false)) (fun i _ => l.length - (intOf i).toNat)
  case atStart => exact ⟨0, Nat.zero_le _, rfl, Below.refl _ _, fun j h => by omega⟩
  case round =>
    obtain ⟨k, hk, rfl, hb, ha⟩ := hrel
    have HOW := Lib.hid (HO1.out.keep hb.out)
    have HRW := Lib.hid (HR1.out.keep hb.out)
    have HBW := Lib.hid (ext_trans HB1.out hb.out)
    have c1 := HOW.out.cell 4
    dsimp [desA] at c1
    rw [HDN.out] at c1
    by_cases hlt : k < l.length
    · obtain ⟨b, off, hA, hc⟩ := H3.out k hlt
      have HC := Lib.hid (hc.keep HBW.out)
      rw [hA] at c1
      have i1 : (k : Int) < l.length := by omega
      have c2 := HC.out.c0
      have HS := Lib.hid (bs_eq (pki l k).id name)
      clear hc hA
      obtain ⟨z, hz⟩ : ∃ z, ((bs (pki l k).id).toList == (bs name).toList) = z := ⟨_, rfl⟩
      rw [hz] at HS
      cases z
      · have HA : Hid (∀ j, j < k + 1 → ((pki l j).id == name) = false) := fun j h => by
          by_cases e : j = k
          · subst e; exact HS.out.symm
          · exact ha.out j (by omega)
        go_wp2_with fail
        go_roundw
        case rel => exact ⟨k + 1, by omega, by go_num, hb, HA⟩
        case measure => simp [intOf]; omega
      · have HF : Hid (pkFind l name = some (pki l k)) := by
          show _ = _
          unfold pkFind
          rw [pki_lt hlt]
          refine find_hit _ _ k hlt (fun j hj => ?_) ?_
          · have := ha.out j hj; rw [pki_lt (by omega)] at this; exact this
          · have := HS.out.symm; rw [pki_lt hlt] at this; exact this
        rw [HF.out] at HV
        clear c2
        obtain ⟨d0, d1, d2, d3, d4⟩ := HC.out
        go_wp2_with (refine at_store ?_; refine wpList_store_row (o := ⟨none, .store _ _ _, _, _, _, _⟩) rfl 54 (.tmp 4) (.tmp 26) rfl (w.heap.size + 1) (pkA (pki l k)) rfl rfl 54 _ HRW.out info_pk rfl (HONE.out _ (pki_mem hlt)) ?_)
        clear d0 d1 d2 d3 d4
        refine bodyPost_ret (v := .tuple #[.agg (pkA (pki l k)), .bool true]) (results_cell Tryz.results63 rfl rfl (load_pk (setRow_heap _ _ _ _ _ _ HRW.out))) rfl ?_
        exact ⟨congrArg Ending.returned HV.out.symm, below_setRow HBW.out (by omega) _⟩
    · have i1 : ¬ (k : Int) < l.length := by omega
      have HF : Hid (pkFind l name = none) := by
        show _ = _
        unfold pkFind
        refine find_miss _ _ fun j hj => ?_
        have := ha.out j (by omega)
        rw [pki_lt hj] at this
        exact this
      rw [HF.out] at HV
      go_wp2_with (refine at_store ?_; refine wpList_store_row (o := ⟨none, .store _ _ _, _, _, _, _⟩) rfl 54 (.tmp 4) (.tmp 27) rfl (w.heap.size + 1) (pkA default) rfl rfl 54 _ HRW.out info_pk rfl one0_pk ?_)
      refine bodyPost_ret (v := .tuple #[.agg (pkA default), .bool false]) (results_cell Tryz.results63 rfl rfl (load_pk (setRow_heap _ _ _ _ _ _ HRW.out))) rfl ?_
      exact ⟨congrArg Ending.returned HV.out.symm, below_setRow HBW.out (by omega) _⟩
theorem one_sc (x : Sct) : (scA x).all (·.oneCell') = true := by simp [scA, Value.oneCell']
theorem one0_sc : (scA default).all (·.oneCell') = true := by kernel_rfl
theorem ag_sc (x : Sct) : gmAg 96 = some (scCells x).length := (by kernel_rfl : gmAg 96 = some 4)
theorem info_sc : (Tryz.prog.info? 96).map (·.size) = some 4 := by kernel_rfl
theorem load_sc {w : World} {b : Nat} {x : Sct} {e : TypeId} (h : ObjAt w b (scA x) e) : (loadVar 96 ⟨b, 0, none⟩).run Tryz.prog w = .ok (.agg (scA x)) w := run_loadVar_row (P := Tryz.prog) w b e 96 (scA x) (0, 0) _ h Tryz.underlying96 rfl info_sc
def scFind (l : List Sct) (name : List UInt8) : Option Sct := l.find? fun x => x.name == name
def sectionV (l : List Sct) (name : List UInt8) : Value := .tuple #[.agg (scA ((scFind l name).getD default)), .bool (scFind l name).isSome]
set_option maxRecDepth 100000 in
set_option maxHeartbeats 400000 in
theorem rSection_any (g s : Sv) (l : List Sct) (name : List UInt8) (w : World) (h : SSc w (.slice s.a s.n s.c) l) (hl : l.length ≤ 100000) : Calls Tryz.prog 96 #[.agg (matA g s), .string (bs name)] w (Ret w (sectionV l name)) := by
  have HDN := Lib.hid h.n
  have H3 := Lib.hid (fun i (hi : i < l.length) => h.at hi)
  clear h
  have HV : Hid (sectionV l name = .tuple #[.agg (scA ((scFind l name).getD default)), .bool (scFind l name).isSome]) := rfl
  obtain ⟨W1, HO1', HR1', HB1, HW1⟩ := two_box w #[.slice g.a g.n g.c, .slice s.a s.n s.c] #[.string ⟨#[]⟩, .int .i64 0, .int .i64 0, .int .i64 0] 32 96
  have HO1 : Hid (ObjAt W1 w.heap.size (matA g s) 32) := HO1'
  have HR1 : Hid (ObjAt W1 (w.heap.size + 1) (scA default) 96) := HR1'
  clear HO1' HR1'
  have hm : l.length ≤ 9223372036854775807 := by omega
  unfold matA
  go_enter Tryz.func96, Tryz.ntmps96
  go_upto_region 1 with fail
  rw [HW1.out]
  clear HW1
  go_wp2_with fail
  go_loopw [6] (fun i wr => ∃ k : Nat, k ≤ l.length ∧ i = .int .i64 k ∧ Hid (Below W1.heap.size W1 wr) ∧ Hid (∀ j, j < k → ((sci l j).name == name) = false)) (fun i _ => l.length - (intOf i).toNat)
  case atStart => exact ⟨0, Nat.zero_le _, rfl, Below.refl _ _, fun j h => by omega⟩
  case round =>
    obtain ⟨k, hk, rfl, hb, ha⟩ := hrel
    have HOW := Lib.hid (HO1.out.keep hb.out)
    have HRW := Lib.hid (HR1.out.keep hb.out)
    have HBW := Lib.hid (ext_trans HB1.out hb.out)
    have c1 := HOW.out.cell 1
    dsimp [matA] at c1
    rw [HDN.out] at c1
    by_cases hlt : k < l.length
    · obtain ⟨b, off, hA, hc⟩ := H3.out k hlt
      have HC := Lib.hid (hc.keep HBW.out)
      rw [hA] at c1
      have i1 : (k : Int) < l.length := by omega
      have c2 := HC.out.c0
      have HS := Lib.hid (bs_eq (sci l k).name name)
      clear hc hA
      obtain ⟨z, hz⟩ : ∃ z, ((bs (sci l k).name).toList == (bs name).toList) = z := ⟨_, rfl⟩
      rw [hz] at HS
      cases z
      · have HA : Hid (∀ j, j < k + 1 → ((sci l j).name == name) = false) := fun j h => by
          by_cases e : j = k
          · subst e; exact HS.out.symm
          · exact ha.out j (by omega)
        go_wp2_with fail
        go_roundw
        case rel => exact ⟨k + 1, by omega, by go_num, hb, HA⟩
        case measure => simp [intOf]; omega
      · have HF : Hid (scFind l name = some (sci l k)) := by
          show _ = _
          unfold scFind
          rw [sci_lt hlt]
          refine find_hit _ _ k hlt (fun j hj => ?_) ?_
          · have := ha.out j hj; rw [sci_lt (by omega)] at this; exact this
          · have := HS.out.symm; rw [sci_lt hlt] at this; exact this
        rw [HF.out] at HV
        clear c2
        obtain ⟨d0, d1, d2, d3⟩ := HC.out
        go_wp2_with (refine at_store ?_; refine wpList_store_row (o := ⟨none, .store _ _ _, _, _, _, _⟩) rfl 96 (.tmp 4) (.tmp 26) rfl (w.heap.size + 1) (scA (sci l k)) rfl rfl 96 _ HRW.out info_sc rfl (one_sc _) ?_)
        clear d0 d1 d2 d3
        refine bodyPost_ret (v := .tuple #[.agg (scA (sci l k)), .bool true]) (results_cell Tryz.results96 rfl rfl (load_sc (setRow_heap _ _ _ _ _ _ HRW.out))) rfl ?_
        exact ⟨congrArg Ending.returned HV.out.symm, below_setRow HBW.out (by omega) _⟩
    · have i1 : ¬ (k : Int) < l.length := by omega
      have HF : Hid (scFind l name = none) := by
        show _ = _
        unfold scFind
        refine find_miss _ _ fun j hj => ?_
        have := ha.out j (by omega)
        rw [sci_lt hj] at this
        exact this
      rw [HF.out] at HV
      go_wp2_with (refine at_store ?_; refine wpList_store_row (o := ⟨none, .store _ _ _, _, _, _, _⟩) rfl 96 (.tmp 4) (.tmp 27) rfl (w.heap.size + 1) (scA default) rfl rfl 96 _ HRW.out info_sc rfl one0_sc ?_)
      refine bodyPost_ret (v := .tuple #[.agg (scA default), .bool false]) (results_cell Tryz.results96 rfl rfl (load_sc (setRow_heap _ _ _ _ _ _ HRW.out))) rfl ?_
      exact ⟨congrArg Ending.returned HV.out.symm, below_setRow HBW.out (by omega) _⟩
end Go.Proofs.YtfpnjbomlmhlpaaGreat
