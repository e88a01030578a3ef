/- The law: schedules respect the precedence of the blocks; the best one ends no later than the greedy one. -/
import Derived.Test.YtfpnjbomlmhlpaaGreatPk20
import Derived.Test.YtfpnjbomlmhlpaaGreatPk11
import Derived.Test.YtfpnjbomlmhlpaaGreatPk10
import Derived.Test.YtfpnjbomlmhlpaaGreatPk13
import Derived.BigQuiet
import Derived.Test.YtfpnjbomlmhlpaaGreatPk23
import Derived.Test.YtfpnjbomlmhlpaaGreatPk21
import Derived.Test.YtfpnjbomlmhlpaaGreatPk22
set_option linter.unusedSimpArgs false
set_option linter.unusedVariables false

/- Contract: Edges of the reference of need. -/
namespace Go.Proofs.YtfpnjbomlmhlpaaGreat
open Go.RowKit

theorem enter_comes : ∀ args w, (callFunc 82 args).run Tryz.prog w = .ok (.enter 82 args) w := enters_of Tryz.func82 (by kernel_rfl) rfl
theorem egi_one (x : Nat × Nat) : egi [x] 0 = x := rfl
set_option maxRecDepth 100000 in
set_option maxHeartbeats 2000000 in
theorem rEdges_any (D : Des) (ns : List Nod) (es : List Nd) (w : World) (h : DesOK w D ns es) (hn : ns.length ≤ 256) (he : es.length ≤ 10000) (bl : List (List UInt8)) (hbl : blocksF ns = bl) (E : Edg) (hE : edgF es bl bl.length = E) :
    Calls Tryz.prog 40 #[.agg (desA D)] w fun e w' => ∃ v, e = .returned v ∧ SEg w' v E ∧ Below w.heap.size w w' := by
  have HBK := Lib.hid (fun w' (hb : Below w.heap.size w w') => rBlocks_any D ns w' (h.n.keep hb) (by omega))
  have HCM := Lib.hid (fun w' (hb : Below w.heap.size w w') a b => comes_any D ns es a b w' (h.keep hb) he)
  have hlb := blocks_le ns
  rw [hbl] at hlb HBK
  clear h
  obtain ⟨W0, HO0, HB0, HW0, HZ0⟩ := boxD w D
  unfold desA at HBK ⊢
  go_enter Tryz.func40, Tryz.ntmps40
  go_upto_region 1 with fail
  rw [HW0.out]
  clear HW0
  obtain ⟨c0, c1, c2, c3, c4, c5⟩ := desC HO0.out
  go_wp2_with fail
  refine (HBK.out W0 HB0.out).mono ?_
  rintro e w1 ⟨bv, rfl, hbs, h1'⟩
  clear c0 c1 c2 c3 c4 c5
  have HB1 := Lib.hid (ext_trans HB0.out h1')
  have HO1 := Lib.hid (HO0.out.keep h1')
  obtain ⟨ba, bc, rfl, b1, b2, b3⟩ := hbs
  rw [List.length_map] at b1 b3
  rw [List.length_map]
  have B3 : Hid (∀ v (hv : v < bl.length), ∃ sb so, ba = some ⟨sb, so, none⟩ ∧ w1.cell? ⟨sb, so + v, none⟩ = some (.string (bs (bkI bl v)))) := fun v hv => by
    obtain ⟨sb, so, e, c⟩ := b3 v hv
    exact ⟨sb, so, e, c.trans (congrArg some (congrArg Value.string (zi_bk hv)))⟩
  have hm : bl.length ≤ 9223372036854775807 := by omega
  clear h1' b3
  go_wp2_with fail
  go_loopw [4, 5] (fun o i wr => ∃ k : Nat, k ≤ bl.length ∧ i = .int .i64 k ∧ Hid (Below w1.heap.size w1 wr) ∧ Hid (OwnEg wr w1.heap.size o (edgF es bl k))) (fun _ i _ => bl.length - (intOf i).toNat)
  case atStart => exact ⟨0, Nat.zero_le _, rfl, Below.refl _ _, OwnEg_nil _ _⟩
  case round =>
    obtain ⟨i, hi, rfl, hb, ho⟩ := hrel
    by_cases hlt : i < bl.length
    · have i1 : (i : Int) < bl.length := by omega
      have HS0 : Hid (OwnEg wr w1.heap.size u4 (edgF es bl i ++ rowE es bl i 0)) := by show OwnEg ..; unfold rowE; rw [List.range_zero]; simpa using ho.out
      have HB0' : Hid (Below w1.heap.size w1 wr) := hb
      clear hb ho
      go_wp2_with fail
      go_loopw [4, 6] (fun o i' wr => ∃ k : Nat, k ≤ bl.length ∧ i' = .int .i64 k ∧ Hid (Below w1.heap.size w1 wr) ∧ Hid (OwnEg wr w1.heap.size o (edgF es bl i ++ rowE es bl i k))) (fun _ i' _ => bl.length - (intOf i').toNat)
      case atStart => exact ⟨0, Nat.zero_le _, rfl, HB0', HS0⟩
      case round =>
        obtain ⟨k, hk, rfl, hb, ho⟩ := hrel
        by_cases hlt2 : k < bl.length
        · obtain ⟨sb, so, rfl, hc1⟩ := B3.out i hlt
          obtain ⟨sb', so', e', hc2⟩ := B3.out k hlt2
          cases e'
          have HBW := Lib.hid (ext_trans HB1.out hb.out)
          have HD1 := Lib.hid (HO1.out.keep hb.out)
          have HC1 := Lib.hid (cell_keep hb.out hc1)
          have HC2 := Lib.hid (cell_keep hb.out hc2)
          have HRS := Lib.hid (rowE_succ es bl i k)
          have i2 : (k : Int) < bl.length := by omega
          clear hc1 hc2
          go_upto_region 9 with fail
          refine wp_region_ev taT taT_ok [⟨w.heap.size, 0, (desA D).toList⟩, ⟨sb, so + i, [.string (bs (bkI bl i))]⟩, ⟨sb, so + k, [.string (bs (bkI bl k))]⟩] (Below wr.heap.size wr) [(1, 0)] [(28, .ix i 1), (32, .ix k 2), (34, .ret (.bool (comesF es (bkI bl i) (bkI bl k))))] [(35, .bool (decide (i ≠ k) && comesF es (bkI bl i) (bkI bl k)))] (by kernel_rfl) mixed (by kernel_rfl) ((Below.refl _ _).drew)
            (obsC (fun u hu => rangeKeep (range_new HD1.out) hu) (obsC (fun u hu => rangeKeep (intR HC1.out) hu) (obsC (fun u hu => rangeKeep (intR HC2.out) hu) obsN))) ⟨rfl, trivial⟩ ?_
          conv => whnf
          refine And.intro (Nat.le_refl 6) ?_
          conv => whnf
          refine And.intro (under_of ⟨rfl, hlt, rfl, by show so + i = so + i * 1; omega⟩) ?_
          conv => whnf
          refine And.intro (under_of ⟨rfl, hlt2, rfl, by show so + k = so + k * 1; omega⟩) ?_
          conv => whnf
          refine And.intro (under_of fun u hu => ret_in (HCM.out u (ext_trans HBW.out hu) _ _) hu) ?_
          conv => whnf
          intro f1
          conv => whnf
          refine And.intro (congrArg Value.bool (congrArg (· && _) (by rw [Bool.eq_iff_iff, bne_iff_ne, decide_eq_true_eq]; omega))) ?_
          conv => whnf
          intro w3 h3
          have HB3 := Lib.hid (ext_trans hb.out h3)
          have HO3 := Lib.hid (OwnEg.below ho.out h3)
          obtain ⟨z, hz⟩ : ∃ z, (decide (i ≠ k) && comesF es (bkI bl i) (bkI bl k)) = z := ⟨_, rfl⟩
          rw [hz] at HRS ⊢
          clear hz h3
          cases z
          · have HS : Hid (rowE es bl i (k + 1) = rowE es bl i k) := by show _ = _; rw [HRS.out, if_neg (by decide), List.append_nil]
            have HX : Hid (OwnEg w3 w1.heap.size u4 (edgF es bl i ++ rowE es bl i (k + 1))) := by show OwnEg ..; rw [HS.out]; exact HO3.out
            go_wp2_with fail
            go_roundw
            case rel => exact ⟨k + 1, by omega, by go_num, HB3, HX⟩
            case measure => simp [intOf]; omega
          · have HS : Hid (rowE es bl i (k + 1) = rowE es bl i k ++ [(i, k)]) := by show _ = _; rw [HRS.out, if_pos rfl]
            have hsw := HB3.out.size
            have HLN : Hid ((edgF es bl i ++ rowE es bl i k).length + [((i, k) : Nat × Nat)].length ≤ 1000000) := by
              show _ ≤ _
              have q1 := edgF_len es bl i
              have q2 : (rowE es bl i k).length ≤ k := by unfold rowE; rw [List.length_map]; exact Nat.le_trans (List.length_filter_le _ _) (by simp)
              have q3 : i * bl.length ≤ 256 * 256 := Nat.mul_le_mul (by omega) (by omega)
              rw [List.length_append, List.length_singleton]; omega
            have HSE : Hid (SEg (w3.alloc (.cells #[.int .i64 (i : Nat), .int .i64 (k : Nat)] 86)) (.slice (some ⟨w3.heap.size, 0, none⟩) 1 1) [(i, k)]) := sEg_one (egC (ObjAt.new w3 (egA (i, k)) 86))
            have hlt' : ∀ g, u4.ownBlock = some g → w1.heap.size ≤ g := fun g hg => (OwnEg.lt HO3.out g hg).1
            go_wp2_with (at_builtin; refine wpList_app_Eg rfl (.tmp 36) (.tmp 40) rfl w1.heap.size u4 (edgF es bl i ++ rowE es bl i k) [(i, k)] rfl (HO3.out.alloc _) ⟨w3.heap.size, 0, none⟩ 1 1 rfl HSE.out HLN.out (by simp; omega) ?_)
            intro va wa hoa hga _
            have hba : Below w1.heap.size w1 wa := (HB3.out.alloc hsw _).grown hga (by simp; omega) hlt'
            have HX : Hid (OwnEg wa w1.heap.size va (edgF es bl i ++ rowE es bl i (k + 1))) := by show OwnEg ..; rw [HS.out]; first | exact hoa | (rw [← List.append_assoc]; exact hoa)
            have HBA := Lib.hid hba
            clear hoa hba hga HSE
            go_wp2_with fail
            go_roundw
            case rel => exact ⟨k + 1, by omega, by go_num, HBA, HX⟩
            case measure => simp [intOf]; omega
        · obtain rfl : k = bl.length := by omega
          have HX : Hid (OwnEg wr w1.heap.size u4 (edgF es bl (i + 1))) := by show OwnEg ..; rw [edgF_succ]; exact ho.out
          go_wp2_with fail
          go_roundw
          case rel => exact ⟨i + 1, by omega, by go_num, hb, HX⟩
          case measure => simp [intOf]; omega
    · obtain rfl : i = bl.length := by omega
      have HX : Hid (SEg wr u4 E) := by have := OwnEg.s ho.out; rw [hE] at this; exact this
      go_wp2_with fail
      go_ret
      exact ⟨_, rfl, HX.out, ext_trans HB1.out hb.out⟩
end Go.Proofs.YtfpnjbomlmhlpaaGreat

/- Contract: Order of the reference of need. -/
namespace Go.Proofs.YtfpnjbomlmhlpaaGreat
open Go.RowKit

set_option maxRecDepth 100000 in
set_option maxHeartbeats 2000000 in
theorem rOrder_any (D : Des) (ns : List Nod) (es : List Nd) (w : World) (h : DesOK w D ns es) (hn : ns.length ≤ 256) (he : es.length ≤ 10000) (hd : (blocksF ns).Nodup) (hs : ∀ x ∈ ns, x.id.length ≤ maxLen) (hs2 : ∀ x ∈ es, x.block.length ≤ maxLen ∧ x.on.length ≤ maxLen) (bl : List (List UInt8)) (hbl : blocksF ns = bl) (E : Edg) (hE : edgF es bl bl.length = E) :
    Calls Tryz.prog 22 #[.agg (desA D)] w fun e w' => ∃ v, e = .returned (.tuple #[v, .int .i64 (if (topo bl.length E bl.length).length = bl.length then 0 else 20)]) ∧ ((topo bl.length E bl.length).length = bl.length → SZ w' v ((namesT bl (topo bl.length E bl.length)).map bs)) ∧ Below w.heap.size w w' := by
  have HBK := Lib.hid (fun w' (hb : Below w.heap.size w w') => rBlocks_any D ns w' (h.n.keep hb) (by omega))
  have HEG := Lib.hid (fun w' (hb : Below w.heap.size w w') => rEdges_any D ns es w' (h.keep hb) hn he bl hbl E hE)
  have hlb := blocks_le ns
  rw [hbl] at hlb HBK
  have hok : EdgOK bl.length E := by rw [← hE]; exact edgF_ok _ _
  have hsm : E.length ≤ 100000 := by rw [← hE]; exact edgF_small (by omega)
  have HOK := Lib.hid hok
  have HTW := Lib.hid (topo_w bl.length E bl.length)
  clear h hs hs2 hd hok hE hbl
  obtain ⟨W0, HO0, HB0, HW0, HZ0⟩ := boxD w D
  unfold desA at HBK HEG ⊢
  go_enter Tryz.func22, Tryz.ntmps22
  go_upto_region 1 with fail
  rw [HW0.out]
  clear HW0
  obtain ⟨c0, c1, c2, c3, c4, c5⟩ := desC HO0.out
  go_wp2_with fail
  refine (HBK.out W0 HB0.out).mono ?_
  rintro e w1 ⟨bv, rfl, hbs, h1'⟩
  clear c0 c1 c2 c3 c4 c5
  have HB1 := Lib.hid (ext_trans HB0.out h1')
  obtain ⟨c0, c1, c2, c3, c4, c5⟩ := desC (HO0.out.keep h1')
  have HBS := Lib.hid hbs
  obtain ⟨ba, bc, rfl, b1, b2, b3⟩ := hbs
  rw [List.length_map] at b1
  rw [List.length_map] at HBS
  rw [List.length_map]
  have B3 := Lib.hid b3
  clear h1' b3
  go_wp2_with fail
  refine (HEG.out w1 HB1.out).mono ?_
  rintro e w2 ⟨ev, rfl, hev, h2'⟩
  clear c0 c1 c2 c3 c4 c5
  have HB2 := Lib.hid (ext_trans HB1.out h2')
  have HB12 := Lib.hid h2'
  have HEV := Lib.hid hev
  clear h2' hev
  go_wp2_with fail
  refine (rdOrder_any bl.length ev E w2 HEV.out HOK.out (by omega) hsm).mono ?_
  rintro e w3 ⟨ov, rfl, hov, h3'⟩
  have HB3 := Lib.hid (ext_trans HB2.out h3')
  have HB13 := Lib.hid (ext_trans HB12.out h3')
  clear h3'
  by_cases hf : (topo bl.length E bl.length).length = bl.length
  rotate_left
  · rw [if_neg hf]
    have HF := Lib.hid hf
    clear hf hov
    go_wp2_with fail
    go_ret2
    refine ⟨⟨.slice none 0 0, ?_⟩, HB3.out⟩
    first | rfl | (rw [if_neg HF.out]; rfl)
  · rw [if_pos hf]
    have HF := Lib.hid hf
    have HOV := Lib.hid (hov hf)
    obtain ⟨T, hT⟩ : ∃ T, topo bl.length E bl.length = T := ⟨_, rfl⟩
    have HT := Lib.hid hT
    rw [hT] at HOV HTW
    obtain ⟨oa, oc, rfl, o1, o2, o3⟩ := HOV.out
    rw [natI_len] at o1 o3
    rw [natI_len]
    have O3 := Lib.hid o3
    have hTl : T.length ≤ 256 := by rw [← hT]; omega
    have hmT : T.length ≤ 9223372036854775807 := by omega
    clear hf hov o3 hT
    go_wp2_with fail
    go_loopw [7, 8] (fun o i wr => ∃ k : Nat, k ≤ T.length ∧ i = .int .i64 k ∧ Hid (Below w3.heap.size w3 wr) ∧ Hid (OwnZ wr w3.heap.size o ((namesT bl (T.take k)).map bs))) (fun _ i _ => T.length - (intOf i).toNat)
    case atStart => exact ⟨0, Nat.zero_le _, rfl, Below.refl _ _, OwnZ_nil _ _⟩
    case round =>
      obtain ⟨k, hk, rfl, hb, ho⟩ := hrel
      by_cases hlt : k < T.length
      · obtain ⟨ab, ao, rfl, hc⟩ := O3.out k hlt
        have hcc := cell_keep hb.out hc
        try dsimp only at hcc
        rw [gi_natI hlt] at hcc
        have hvl := HTW.out.lt _ (List.getElem_mem hlt)
        have HTT : Hid (T.take (k + 1) = T.take k ++ [T[k]]) := List.take_succ_eq_append_getElem hlt
        generalize T[k] = v at *
        obtain ⟨sb, so, rfl, hsc⟩ := B3.out v (by rw [List.length_map]; exact hvl)
        have hs2 := cell_keep (ext_trans HB13.out hb.out) hsc
        try dsimp only at hs2
        rw [zi_bk hvl] at hs2
        have hsw := hb.out.size
        have hlt' : ∀ g, u7.ownBlock = some g → w3.heap.size ≤ g := fun g hg => (World.ownsRow.lt ho.out g hg).1
        have HLN : Hid (((namesT bl (T.take k)).map bs).length ≤ 2000000) := by show _ ≤ _; unfold namesT; rw [List.length_map, List.length_map, List.length_take]; omega
        have i1 : (v : Int) < bl.length := by omega
        have i2 : (0 : Int) ≤ v := by omega
        clear hc hsc
        go_wp2_with (at_builtin; refine wpList_app_str rfl (.tmp 28) (.tmp 36) rfl w3.heap.size u7 ((namesT bl (T.take k)).map bs) rfl (OwnZ_alloc ho.out _) wr.heap.size 1 (bs (bkI bl v)) rfl (lit_str _ _) HLN.out (by simp; omega) ?_)
        intro va wa hoa hga _
        have hba : Below w3.heap.size w3 wa := (hb.out.alloc hsw _).grown hga (by simp; omega) hlt'
        have HO3 : Hid (OwnZ wa w3.heap.size va ((namesT bl (T.take (k + 1))).map bs)) := by show OwnZ ..; rw [HTT.out]; unfold namesT; rw [List.map_append, List.map_append]; exact hoa
        have HBA := Lib.hid hba
        clear hoa hba hga hcc hs2
        go_wp2_with fail
        go_roundw
        case rel => exact ⟨k + 1, by omega, by go_num, HBA, HO3⟩
        case measure => simp [intOf]; omega
      · obtain rfl : k = T.length := by omega
        have HS : Hid (SZ wr u7 ((namesT bl T).map bs)) := by have := ho.out.sl; rw [List.take_length] at this; exact this
        have HBE := Lib.hid (ext_trans HB3.out hb.out)
        go_wp2_with fail
        go_ret2
        exact ⟨_, by first | rfl | (rw [if_pos HF.out]; rfl), by first | (rw [HT.out]; exact HS.out) | (intro _; rw [HT.out]; exact HS.out), HBE.out⟩
end Go.Proofs.YtfpnjbomlmhlpaaGreat

/- Contract: CheckJobs of the reference of sched. -/
namespace Go.Proofs.YtfpnjbomlmhlpaaGreat
open Go.RowKit

theorem less_total : ∀ {a b : List UInt8}, Op.bytesLess a b = false → (Op.bytesLess b a || b == a) = true
  | [], [], _ => rfl
  | [], _ :: _, h => by cases h
  | _ :: _, [], _ => rfl
  | x :: a, y :: b, h => by
    have e1 : Op.bytesLess (x :: a) (y :: b) = (decide (x < y) || (x == y && Op.bytesLess a b)) := rfl
    have e2 : Op.bytesLess (y :: b) (x :: a) = (decide (y < x) || (y == x && Op.bytesLess b a)) := rfl
    rw [e1, Bool.or_eq_false_iff, decide_eq_false_iff_not] at h
    obtain ⟨h1, h2⟩ := h
    by_cases e : x = y
    · subst e
      rw [beq_self_eq_true, Bool.true_and] at h2
      have := less_total h2
      rw [Bool.or_eq_true] at this ⊢
      rcases this with h3 | h3
      · left; rw [e2, h3]; simp
      · right; rw [beq_iff_eq] at h3; subst h3; simp
    · have hlt : y < x := by
        rw [UInt8.lt_iff_toNat_lt] at h1 ⊢
        have : x.toNat ≠ y.toNat := fun h => e (UInt8.toNat_inj.1 h)
        omega
      rw [e2, decide_eq_true hlt]; rfl
set_option maxRecDepth 100000 in
theorem rfind_any (v : Value) (l : List (List UInt8)) (s : List UInt8) (w : World) (h : SZ w v (l.map bs)) : Calls Tryz.prog 24 #[v, .string (bs s)] w (Ret w (.int .i64 (idxS l s))) := by
  obtain ⟨a, cap, rfl, h1, h2, h3⟩ := h
  rw [List.length_map] at h1 h3
  rw [List.length_map]
  have H3 := Lib.hid h3; clear h3
  have hm : l.length ≤ 9223372036854775807 := by unfold maxLen at h2; omega
  go_enter Tryz.func24, Tryz.ntmps24
  go_wp2_with fail
  go_loopw [5] (fun i wr => ∃ k : Nat, k ≤ l.length ∧ i = .int .i64 k ∧ Hid (Below w.heap.size w wr) ∧ Hid (∀ j (hj : j < l.length), j < k → l[j] ≠ s)) (fun i _ => l.length - (intOf i).toNat)
  case atStart => exact ⟨0, Nat.zero_le _, rfl, Lib.hid (Below.refl _ _), Lib.hid fun j hj h0 => by omega⟩
  case round =>
    obtain ⟨k, hk, rfl, hb, hj⟩ := hrel
    by_cases hlt : k < l.length
    · obtain ⟨b, off, rfl, hc⟩ := H3.out k hlt
      have c0 := cell_keep hb.out hc
      try dsimp only at c0
      rw [zi_bs hlt] at c0
      have HE := Lib.hid (bs_eq l[k] s)
      clear hc
      obtain ⟨ex, hex⟩ : ∃ ex, ((bs l[k]).toList == (bs s).toList) = ex := ⟨_, rfl⟩
      have HX := Lib.hid hex
      cases ex
      · have HJ : Hid (∀ j (hj : j < l.length), j < k + 1 → l[j] ≠ s) := fun j hjl hjk => by
          by_cases e : j = k
          · subst e
            have := HE.out.symm.trans hex
            rw [beq_eq_false_iff_ne] at this
            exact this
          · exact hj.out j hjl (by omega)
        go_wp2_with fail
        go_roundw
        case rel => exact ⟨k + 1, by omega, by go_num, hb, HJ⟩
        case measure => simp [intOf]; omega
      · have HV : Hid (idxS l s = k) := idxS_hit hlt (fun j hjk => hj.out j (by omega) hjk) (by have := HE.out.symm.trans hex; rw [beq_iff_eq] at this; exact this)
        go_wp2_with fail
        go_ret
        exact ⟨ret_int HV.out.symm, hb.out⟩
    · have HV : Hid (idxS l s = -1) := idxS_miss fun j hjl => hj.out j hjl (by omega)
      go_wp2_with fail
      go_ret
      exact ⟨ret_int HV.out.symm, hb.out⟩
/-- the first jobs are right -/
structure JobsU (J : List Hst) (bl : List (List UInt8)) (k : Nat) : Prop where
  blk : ∀ i, i < k → (hsi J i).block ∈ bl
  asc : ∀ i, i + 1 < k → Op.bytesLess (hsi J i).block (hsi J (i + 1)).block = true
  hr : ∀ i, i < k → 1 ≤ (hsi J i).hours ∧ (hsi J i).hours ≤ 10000
  cn : ∀ i, i < k → 1 ≤ (hsi J i).cranes.length ∧ (hsi J i).cranes.length ≤ 8
  ca : ∀ i, i < k → AscS (hsi J i).cranes
theorem JobsU.all {J : List Hst} {bl : List (List UInt8)} (h : JobsU J bl J.length) (hf : J.length ≤ 64) : JobsR J bl := by
  have k : ∀ (q : Hst → Prop), (∀ i, i < J.length → q (hsi J i)) → ∀ j ∈ J, q j := fun q hq j hj => by
    obtain ⟨i, hi, rfl⟩ := List.mem_iff_getElem.1 hj
    have := hq i hi
    rw [hsi_lt hi] at this
    exact this
  exact ⟨hf, k _ h.blk, fun i hi => h.asc i hi, k _ h.hr, k _ h.cn, k _ h.ca⟩
theorem JobsU.next {J : List Hst} {bl : List (List UInt8)} {k : Nat} (h : JobsU J bl k) (h1 : (hsi J k).block ∈ bl) (h2 : ∀ i, k = i + 1 → Op.bytesLess (hsi J i).block (hsi J k).block = true) (h3 : 1 ≤ (hsi J k).hours ∧ (hsi J k).hours ≤ 10000) (h4 : 1 ≤ (hsi J k).cranes.length ∧ (hsi J k).cranes.length ≤ 8) (h5 : AscS (hsi J k).cranes) : JobsU J bl (k + 1) := by
  refine ⟨upto h.blk h1, fun i hi => ?_, upto h.hr h3, upto h.cn h4, upto h.ca h5⟩
  by_cases e : i + 1 = k
  · have := h2 i e.symm; rw [← e] at this; exact this
  · exact h.asc i (by omega)
end Go.Proofs.YtfpnjbomlmhlpaaGreat

/- Contract: CheckJobs of the reference of sched: nothing wrong is told of right jobs alone. -/
namespace Go.Proofs.YtfpnjbomlmhlpaaGreat
open Go.RowKit

set_option maxRecDepth 100000 in
set_option maxHeartbeats 1000000 in
theorem rCheckJobs_any (D : Des) (ns : List Nod) (es : List Nd) (jv : Value) (l : List MH) (w : World) (h : DesOK w D ns es) (hn : ns.length ≤ 256) (he : es.length ≤ 10000) (hd : (blocksF ns).Nodup) (hs : ∀ x ∈ ns, x.id.length ≤ maxLen) (hs2 : ∀ x ∈ es, x.block.length ≤ maxLen ∧ x.on.length ≤ maxLen) (bl : List (List UInt8)) (hbl : blocksF ns = bl) (E : Edg) (hE : edgF es bl bl.length = E)
    (hj : SHs w jv l) (hc : Crn w l) (hsm : l.length ≤ 1000) : Calls Tryz.prog 6 #[.agg (desA D), jv] w fun e w' => ∃ z : Int, e = .returned (.int .i64 z) ∧ (z = 0 → JobsR (hl l) bl ∧ (topo bl.length E bl.length).length = bl.length) ∧ Below w.heap.size w w' := by
  have HNO := Lib.hid (fun w' (hb : Below w.heap.size w w') => rOrder_any D ns es w' (h.keep hb) hn he hd hs hs2 bl hbl E hE)
  have HBK := Lib.hid (fun w' (hb : Below w.heap.size w w') => rBlocks_any D ns w' (h.n.keep hb) (by omega))
  rw [hbl] at HBK
  have HC := Lib.hid hc
  obtain ⟨ja, jc, rfl, j1, j2, j3⟩ := hj
  have J3 := Lib.hid j3
  clear h hs hs2 hd hbl hE hc j3
  obtain ⟨W0, HO0, HB0, HW0, HZ0⟩ := boxD w D
  have hm : l.length ≤ 9223372036854775807 := by omega
  unfold desA at HNO HBK ⊢
  by_cases hfew : l.length ≤ 64
  rotate_left
  · have d1 : (64 : Int) < l.length := by omega
    go_enter Tryz.func6, Tryz.ntmps6
    go_upto_region 1 with fail
    rw [HW0.out]
    go_wp2_with fail
    go_ret
    exact ⟨4, rfl, fun h => by omega, HB0.out⟩
  have d1 : ¬ (64 : Int) < l.length := by omega
  go_enter Tryz.func6, Tryz.ntmps6
  go_upto_region 1 with fail
  rw [HW0.out]
  clear HW0
  obtain ⟨c0, c1, c2, c3, c4, c5⟩ := desC HO0.out
  go_wp2_with fail
  refine (HNO.out W0 HB0.out).mono ?_
  rintro e w1 ⟨nv, rfl, _, h1'⟩
  have HB1 := Lib.hid (ext_trans HB0.out h1')
  have HO1 := Lib.hid (HO0.out.keep h1')
  clear c0 c1 c2 c3 c4 c5 d1 h1'
  by_cases ht : (topo bl.length E bl.length).length = bl.length
  rotate_left
  · rw [if_neg ht]
    go_wp2_with fail
    go_ret
    exact ⟨20, rfl, fun h => by omega, HB1.out⟩
  rw [if_pos ht]
  have HT := Lib.hid ht
  clear ht
  obtain ⟨c0, c1, c2, c3, c4, c5⟩ := desC HO1.out
  go_wp2_with fail
  refine (HBK.out w1 HB1.out).mono ?_
  rintro e w2 ⟨bv, rfl, hbs, h2'⟩
  clear c0 c1 c2 c3 c4 c5
  have HB2 := Lib.hid (ext_trans HB1.out h2')
  have HBS := Lib.hid hbs
  clear h2' hbs
  go_wp2_with fail
  go_loopw [8] (fun i wr => ∃ k : Nat, k ≤ l.length ∧ i = .int .i64 k ∧ Hid (Below w2.heap.size w2 wr) ∧ Hid (JobsU (hl l) bl k)) (fun i _ => l.length - (intOf i).toNat)
  case atStart => exact ⟨0, Nat.zero_le _, rfl, Below.refl _ _, ⟨fun i hi => by omega, fun i hi => by omega, fun i hi => by omega, fun i hi => by omega, fun i hi => by omega⟩⟩
  case round =>
    obtain ⟨k, hk, rfl, hb, hu⟩ := hrel
    have HBW := Lib.hid (ext_trans HB2.out hb.out)
    by_cases hlt : k < l.length
    · obtain ⟨b, off, rfl, hc⟩ := J3.out k hlt
      obtain ⟨c0, c1, c2⟩ := hc.keep HBW.out
      obtain ⟨va, vc, hav, hsz⟩ := HC.out.form hlt
      have HAV := Lib.hid hav
      have HSZ := Lib.hid hsz
      rw [hav] at c2
      obtain ⟨W3, HO3, HC3, HW3, _⟩ := copyH wr (mhi l k) hav
      have HB3 := Lib.hid (ext_trans hb.out HC3.out)
      have HB03 := Lib.hid (ext_trans HB2.out HB3.out)
      have HK := Lib.hid (hsi_ml hlt)
      have i2 : (k : Int) < l.length := by omega
      clear hc hav hsz
      go_upto_region 11 with fail
      rw [HW3.out]
      clear c0 c1 c2 HW3
      obtain ⟨c0, c1, c2⟩ := hsC HO3.out
      rw [Nat.zero_add] at c1 c2
      rw [HAV.out] at c2
      go_wp2_with fail
      refine (rfind_any bv bl (mhi l k).h.block W3 (HBS.out.keep HB3.out)).mono ?_
      rintro e w4 ⟨rfl, h4'⟩
      have HB4 := Lib.hid (ext_trans HB03.out h4')
      have HB24 := Lib.hid (ext_trans HB3.out h4')
      have HO4 := Lib.hid (HO3.out.keep h4')
      clear c0 c1 c2 h4'
      by_cases hin : (mhi l k).h.block ∈ bl
      rotate_left
      · rw [show idxS bl (mhi l k).h.block = -1 from if_neg hin]
        go_wp2_with fail
        go_ret
        exact ⟨8, rfl, fun h => by omega, HB4.out⟩
      rw [show idxS bl (mhi l k).h.block = (atB bl (mhi l k).h.block : Nat) from if_pos hin]
      have HIN := Lib.hid hin
      have i3 : ¬ ((atB bl (mhi l k).h.block : Nat) : Int) < 0 := by omega
      clear hin
      obtain ⟨c0, c1, c2⟩ := hsC HO4.out
      rw [Nat.zero_add] at c1 c2
      rw [HAV.out] at c2
      obtain ⟨b', off', e', hcp⟩ := J3.out (k - 1) (by omega)
      cases e'
      have HCP := Lib.hid (hcp.keep HB4.out)
      clear hcp
      go_upto_region 13 with fail
      clear c0 c1 c2
      refine wp_region_ev sqT sqT_ok [⟨wr.heap.size, 0, (hsA (mhi l k)).toList⟩, ⟨b, off + (k - 1) * 3, hsCells (mhi l (k - 1))⟩] (Below w4.heap.size w4) [(9, 0)] [(49, .ix (k - 1) 1)] [(40, .bool (decide (0 < k) && (Op.bytesLess (mhi l k).h.block (mhi l (k - 1)).h.block || (mhi l k).h.block == (mhi l (k - 1)).h.block)))] (by kernel_rfl) mixed (by kernel_rfl) ((Below.refl _ _).drew)
        (obsC (fun u hu => rangeKeep (range_new HO4.out) hu) (obsC (fun u hu => rangeKeep (hs_range HCP.out) hu) obsN)) ⟨rfl, trivial⟩ ?_
      conv => whnf
      refine And.intro (by conv => whnf
                           exact fun _ => under_of (by omega)) ?_
      conv => whnf
      refine And.intro (by conv => whnf
                           exact fun hg => by have hg := of_decide_eq_true hg; exact under_of ⟨by omega, by omega, rfl, rfl⟩) ?_
      conv => whnf
      intro f1
      conv => whnf
      refine And.intro (by rw [bs_toList, bs_toList]; exact congrArg Value.bool (congrArg (· && _) (by rw [Bool.eq_iff_iff, decide_eq_true_eq, decide_eq_true_eq]; omega))) ?_
      conv => whnf
      intro w5 h5
      have HB5 := Lib.hid (ext_trans HB4.out h5)
      have HB25 := Lib.hid (ext_trans HB24.out h5)
      have HO5 : Hid (ObjAt w5 wr.heap.size #[.string (bs (mhi l k).h.block), .int .i64 (mhi l k).h.hours, .slice va (mhi l k).h.cranes.length vc] 59) := by
        have q := HO4.out.keep h5
        unfold hsA at q
        rw [HAV.out] at q
        exact q
      clear h5 HB4 HB24 HO4 HCP HBW HB3 HB03 HO3 HC3
      obtain ⟨z, hz⟩ : ∃ z, (decide (0 < k) && (Op.bytesLess (mhi l k).h.block (mhi l (k - 1)).h.block || (mhi l k).h.block == (mhi l (k - 1)).h.block)) = z := ⟨_, rfl⟩
      have HZ := Lib.hid hz
      rw [hz]
      clear hz
      cases z
      rotate_left
      · go_wp2_with fail
        go_ret
        exact ⟨11, rfl, fun h => by omega, HB5.out⟩
      have HLE : Hid (∀ i, k = i + 1 → Op.bytesLess (hsi (hl l) i).block (hsi (hl l) k).block = true) := by
        intro i hi
        subst hi
        have q := HZ.out
        rw [decide_eq_true (by omega : 0 < i + 1), Bool.true_and, Nat.add_sub_cancel] at q
        rw [hsi_ml hlt, hsi_ml (by omega)]
        cases e : Op.bytesLess (mhi l i).h.block (mhi l (i + 1)).h.block
        · rw [less_total e] at q; cases q
        · rfl
      clear HZ
      have c0 := HO5.out.cell 1
      have c1 := HO5.out.cell 2
      dsimp at c0 c1
      by_cases hh1 : (mhi l k).h.hours < 1
      · go_upto_region 15 with fail
        go_wp2_with fail
        go_ret
        exact ⟨9, rfl, fun h => by omega, HB5.out⟩
      by_cases hh2 : 10000 < (mhi l k).h.hours
      · go_upto_region 15 with fail
        go_wp2_with fail
        go_ret
        exact ⟨9, rfl, fun h => by omega, HB5.out⟩
      by_cases hh3 : (mhi l k).h.cranes.length = 0
      · have e0 : (((mhi l k).h.cranes.length : Nat) : Int) = 0 := by omega
        go_upto_region 15 with fail
        go_wp2_with fail
        go_ret
        exact ⟨3, rfl, fun h => by omega, HB5.out⟩
      have e0 : ¬ (((mhi l k).h.cranes.length : Nat) : Int) = 0 := by omega
      by_cases hh4 : 8 < (mhi l k).h.cranes.length
      · have e1 : 8 < (((mhi l k).h.cranes.length : Nat) : Int) := by omega
        go_upto_region 15 with fail
        go_wp2_with fail
        go_ret
        exact ⟨4, rfl, fun h => by omega, HB5.out⟩
      have e1 : ¬ 8 < (((mhi l k).h.cranes.length : Nat) : Int) := by omega
      go_upto_region 15 with fail
      go_wp2_with fail
      clear e0 e1 c0 c1
      have HSZ5 := Lib.hid (HSZ.out.keep HB5.out)
      obtain ⟨va', vc', ev, v1, v2, v3⟩ := HSZ5.out
      rw [List.length_map] at v1 v3
      have V3 := Lib.hid v3
      have ev := (by rw [List.length_map] at ev; exact ev : Value.slice va (mhi l k).h.cranes.length vc = .slice va' (mhi l k).h.cranes.length vc')
      cases ev
      clear v3
      obtain ⟨bx, hbx⟩ : ∃ bx, wr.heap.size = bx := ⟨_, rfl⟩
      rw [hbx] at HO5 ⊢
      clear hbx
      go_loopw [10] (fun i wq => ∃ m : Nat, i = .int .i64 ((m : Int) + 1) ∧ m < (mhi l k).h.cranes.length ∧ Hid (Below w5.heap.size w5 wq) ∧ Hid (∀ j (h : j + 1 < (mhi l k).h.cranes.length), j < m → Op.bytesLess (mhi l k).h.cranes[j] (mhi l k).h.cranes[j + 1] = true)) (fun i _ => (mhi l k).h.cranes.length + 1 - (intOf i).toNat)
      case atStart => exact ⟨0, rfl, by omega, Below.refl _ _, fun j h hj => by omega⟩
      case round =>
        obtain ⟨m, rfl, hm2, hb2, ha2⟩ := hrel
        have HO6 := Lib.hid (HO5.out.keep hb2.out)
        have HB6 := Lib.hid (ext_trans HB5.out hb2.out)
        by_cases hlt3 : m + 1 < (mhi l k).h.cranes.length
        · obtain ⟨cb, co, rfl, q1⟩ := V3.out (m + 1) hlt3
          obtain ⟨cb', co', e', q2⟩ := V3.out m hm2
          cases e'
          have q1 := cell_keep hb2.out q1
          have q2 := cell_keep hb2.out q2
          try dsimp only at q1 q2
          rw [zi_bs hlt3] at q1
          rw [zi_bs hm2] at q2
          have Q1 := Lib.hid q1
          have Q2 := Lib.hid q2
          clear q1 q2
          have i1 : ((m : Int) + 1) < (((mhi l k).h.cranes.length : Nat) : Int) := by omega
          have c2 := HO6.out.cell 2
          dsimp at c2
          go_upto_region 24 with fail
          clear c2
          refine wp_region_ev sqT sqT_ok [⟨bx, 0, [.string (bs (mhi l k).h.block), .int .i64 (mhi l k).h.hours, .slice (some ⟨cb, co, none⟩) (mhi l k).h.cranes.length vc]⟩, ⟨cb, co + (m + 1), [.string (bs (mhi l k).h.cranes[m + 1])]⟩, ⟨cb, co + m, [.string (bs (mhi l k).h.cranes[m])]⟩] (Below wr.heap.size wr) [(9, 0)] [(83, .ix (m + 1) 1), (89, .ix m 2)] [(91, .bool (Op.bytesLess (mhi l k).h.cranes[m + 1] (mhi l k).h.cranes[m] || (mhi l k).h.cranes[m + 1] == (mhi l k).h.cranes[m]))] (by kernel_rfl) mixed (by kernel_rfl) ((Below.refl _ _).drew)
            (obsC (fun u hu => rangeKeep (range_new HO6.out) hu) (obsC (fun u hu => rangeKeep (intR Q1.out) hu) (obsC (fun u hu => rangeKeep (intR Q2.out) hu) obsN))) ⟨rfl, trivial⟩ ?_
          conv => whnf
          refine And.intro (under_of ⟨by omega, hlt3, rfl, by show co + (m + 1) = co + (m + 1) * 1; omega⟩) ?_
          conv => whnf
          refine And.intro (under_of (by omega)) ?_
          conv => whnf
          refine And.intro (under_of ⟨by omega, hm2, rfl, by show co + m = co + m * 1; omega⟩) ?_
          conv => whnf
          intro f2
          conv => whnf
          refine And.intro (by rw [bs_toList, bs_toList]) ?_
          conv => whnf
          intro w7 h7
          have HB7 := Lib.hid (ext_trans HB6.out h7)
          have HB57 := Lib.hid (ext_trans hb2.out h7)
          clear h7
          obtain ⟨y, hy⟩ : ∃ y, (Op.bytesLess (mhi l k).h.cranes[m + 1] (mhi l k).h.cranes[m] || (mhi l k).h.cranes[m + 1] == (mhi l k).h.cranes[m]) = y := ⟨_, rfl⟩
          have HY := Lib.hid hy
          rw [hy]
          clear hy
          cases y
          rotate_left
          · go_wp2_with fail
            go_ret
            exact ⟨11, rfl, fun h => by omega, HB7.out⟩
          have HA3 : Hid (∀ j (h : j + 1 < (mhi l k).h.cranes.length), j < m + 1 → Op.bytesLess (mhi l k).h.cranes[j] (mhi l k).h.cranes[j + 1] = true) := by
            intro j hj hjm
            by_cases e : j = m
            · subst e
              cases e2 : Op.bytesLess (mhi l k).h.cranes[j] (mhi l k).h.cranes[j + 1]
              · have := less_total e2
                rw [HY.out] at this; cases this
              · rfl
            · exact ha2.out j hj (by omega)
          clear HY
          go_wp2_with fail
          go_roundw
          case rel => exact ⟨m + 1, by go_num, hlt3, HB57, HA3⟩
          case measure => simp [intOf]; omega
        · have i1 : ¬ ((m : Int) + 1) < (((mhi l k).h.cranes.length : Nat) : Int) := by omega
          have c2 := HO6.out.cell 2
          dsimp at c2
          have HU : Hid (JobsU (hl l) bl (k + 1)) := by
            refine hu.out.next ?_ HLE.out ?_ ?_ ?_
            · rw [HK.out]; exact HIN.out
            · rw [HK.out]; omega
            · rw [HK.out]; omega
            · rw [HK.out]; exact fun j hj => ha2.out j hj (by omega)
          have HBN := Lib.hid (ext_trans HB25.out hb2.out)
          go_wp2_with fail
          go_roundw
          case rel => exact ⟨k + 1, by omega, by go_num, HBN, HU⟩
          case measure => simp [intOf]; omega
    · have i2 : ¬ (k : Int) < l.length := by omega
      have e : k = l.length := by omega
      have HU : Hid (JobsR (hl l) bl) := by
        have q := hu.out
        rw [e, ← hl_len] at q
        exact q.all (by rw [hl_len]; exact hfew)
      go_wp2_with fail
      go_ret
      exact ⟨0, rfl, fun _ => ⟨HU.out, HT.out⟩, HBW.out⟩
end Go.Proofs.YtfpnjbomlmhlpaaGreat

/- Contract: begins of the law: in a plan that is right every job begins when those before it have been erected. -/
namespace Go.Proofs.YtfpnjbomlmhlpaaGreat
open Go.RowKit

theorem en_range {w : World} {b off : Nat} {x : Ern} (h : EnAt w b off x) : w.rangeAt b off (enCells x) := fun j v hv => by
  match j, hv with
  | 0, hv => cases hv; exact h.c0
  | 1, hv => cases hv; exact h.c1
  | 2, hv => cases hv; exact h.c2
  | 3, hv => cases hv; exact h.c3
theorem eg_range {w : World} {b off : Nat} {x : Nat × Nat} (h : EgAt w b off x) : w.rangeAt b off (egCells x) := fun j v hv => by
  match j, hv with
  | 0, hv => cases hv; exact h.c0
  | 1, hv => cases hv; exact h.c1
theorem run_arr0 (b off : Nat) (w : World) : (Instr.indexAt 86 (.pointer (some ⟨b, off, none⟩)) (.int .i64 0)).run Tryz.prog w = .ok (.pointer (some ⟨b, off, none⟩)) w := by go_simp
theorem run_arr1 (b off : Nat) (w : World) : (Instr.indexAt 86 (.pointer (some ⟨b, off, none⟩)) (.int .i64 1)).run Tryz.prog w = .ok (.pointer (some ⟨b, off + 1, none⟩)) w := by go_simp
theorem enter_rBlocks (args : Array Value) (w : World) : (callFunc 23 args).run Tryz.prog w = .ok (.enter 23 args) w := enters_of Tryz.func23 (by kernel_rfl) rfl args w
theorem enter_rEdges (args : Array Value) (w : World) : (callFunc 40 args).run Tryz.prog w = .ok (.enter 40 args) w := enters_of Tryz.func40 (by kernel_rfl) rfl args w
/-- what the law asks of a plan -/
def BegOK (bl : List (List UInt8)) (E : Edg) (q : List Ern) : Prop := ∀ e ∈ E, ∀ x ∈ q, ∀ y ∈ q, x.block = bkI bl e.1 → y.block = bkI bl e.2 → x.b ≤ y.a
theorem beg_false {bl : List (List UInt8)} {E : Edg} {q : List Ern} (h : BegOK bl E q) {i k n : Nat} (hi : i < E.length) (hk : k < q.length) (hn : n < q.length) : (((eri q k).block == bkI bl (egi E i).1 && (eri q n).block == bkI bl (egi E i).2) && decide ((eri q n).a < (eri q k).b)) = false := by
  rw [Bool.eq_false_iff]
  intro e
  rw [Bool.and_eq_true, Bool.and_eq_true, decide_eq_true_eq, beq_iff_eq, beq_iff_eq] at e
  have := h _ (egi_mem hi) _ (eri_mem hk) _ (eri_mem hn) e.1.1 e.1.2
  omega
set_option maxRecDepth 100000 in
set_option maxHeartbeats 1000000 in
theorem begins_any (D : Des) (ns : List Nod) (es : List Nd) (lv : Value) (q : List Ern) (w : World) (h : DesOK w D ns es) (hn : ns.length ≤ 256) (he : es.length ≤ 10000) (bl : List (List UInt8)) (hbl : blocksF ns = bl) (E : Edg) (hE : edgF es bl bl.length = E)
    (hq : SEn w lv q) (hl : q.length ≤ 64) (hb : BegOK bl E q) : Calls Tryz.prog 11 #[.agg (desA D), lv] w (Ret w (.bool true)) := by
  have HBK := Lib.hid (fun w' (hb : Below w.heap.size w w') => rBlocks_any D ns w' (h.n.keep hb) (by omega))
  have HEG := Lib.hid (fun w' (hb : Below w.heap.size w w') => rEdges_any D ns es w' (h.keep hb) hn he bl hbl E hE)
  have HOK : Hid (EdgOK bl.length E) := by show EdgOK ..; rw [← hE]; exact edgF_ok _ _
  have HBG := Lib.hid hb
  have hlb := blocks_le ns
  have hel := edgF_len es bl bl.length
  rw [hE] at hel
  rw [hbl] at hlb HBK
  have q3 : bl.length * bl.length ≤ 256 * 256 := Nat.mul_le_mul (by omega) (by omega)
  obtain ⟨qa, qc, rfl, k1, k2, k3⟩ := hq
  have K3 := Lib.hid k3
  clear h hb k3 hbl hE
  obtain ⟨W0, HO0, HB0, HW0, HZ0⟩ := boxD w D
  unfold desA at HBK HEG ⊢
  go_enter Tryz.func11, Tryz.ntmps11
  go_upto_region 1 with fail
  rw [HW0.out]
  clear HW0
  refine wp_region_sp sqT sqT_ok [⟨w.heap.size, 0, (desA D).toList⟩] [(2, 0)] [] [] [(1, .call 23 [10] [.agg (desA D)] fun v u => SZ u v (bl.map bs)), (3, .call 40 [12] [.agg (desA D)] fun v u => SEg u v E), (4, .asg 1), (5, .asg 3)]
    (by kernel_rfl) mixed (by kernel_rfl) (by simp) (by simp [SpK.isPut]) ?_ (obsC (fun v hv => rangeKeep (range_new HO0.out) hv) obsN) ⟨rfl, trivial⟩ ?_
  · exact List.forall_mem_cons.2 ⟨⟨⟨_, _, rfl, rfl, rfl, rfl⟩, enter_rBlocks, kept_SZ _, fun u hu => HBK.out u (ext_trans HB0.out hu)⟩, List.forall_mem_cons.2 ⟨⟨⟨_, _, rfl, rfl, rfl, rfl⟩, enter_rEdges, kept_SEg _, fun u hu => HEG.out u (ext_trans HB0.out hu)⟩,
      List.forall_mem_cons.2 ⟨⟨by simp, _, 11, rfl, rfl, ⟨_, _, rfl, rfl, rfl, ⟨1, .data⟩, by simp, rfl, rfl⟩⟩, List.forall_mem_cons.2 ⟨⟨by simp, _, 13, rfl, rfl, ⟨_, _, rfl, rfl, rfl, ⟨3, .data⟩, by simp, rfl, rfl⟩⟩, fun p hp => by cases hp⟩⟩⟩⟩
  conv => whnf
  refine And.intro (Nat.le_refl 6) ?_
  conv => whnf
  refine And.intro (Nat.le_refl 6) ?_
  conv => whnf
  refine And.intro ⟨⟨rfl, trivial⟩, ⟨rfl, trivial⟩, trivial⟩ ?_
  intro f1 s1 hs1
  conv => whnf
  intro w1 h1 hj1
  obtain ⟨v1, a1, b1⟩ := hs1 1 rfl _ rfl
  obtain ⟨v3, a3, b3⟩ := hs1 3 rfl _ rfl
  obtain ⟨v4, a4, b4⟩ := hs1 4 rfl _ rfl
  obtain ⟨v5, a5, b5⟩ := hs1 5 rfl _ rfl
  have e1 := hj1 _ (.head _) v1 a1
  have e3 := hj1 _ (.tail _ (.head _)) v3 a3
  have e4 := hj1 _ (.tail _ (.tail _ (.head _))) v4 a4
  have e5 := hj1 _ (.tail _ (.tail _ (.tail _ (.head _)))) v5 a5
  rw [a1] at e4; cases e4
  rw [a3] at e5; cases e5
  rw [← b1 _ rfl, ← b3 _ rfl, ← b4 _ rfl, ← b5 _ rfl]
  clear hs1 hj1 a1 a3 a4 a5 b1 b3 b4 b5 HBK HEG
  have HB1 := Lib.hid (ext_trans HB0.out h1)
  clear h1
  obtain ⟨ba, bc, rfl, g1, g2, g3⟩ := e1
  rw [List.length_map] at g1 g3
  rw [List.length_map]
  have B3 : Hid (∀ v (hv : v < bl.length), ∃ sb so, ba = some ⟨sb, so, none⟩ ∧ w1.cell? ⟨sb, so + v, none⟩ = some (.string (bs (bkI bl v)))) := fun v hv => by
    obtain ⟨sb, so, e, c⟩ := g3 v hv
    exact ⟨sb, so, e, c.trans (congrArg some (congrArg Value.string (zi_bk hv)))⟩
  obtain ⟨ea, ec, rfl, m1, m2, m3⟩ := e3
  have M3 := Lib.hid m3
  clear g3 m3
  have hm : E.length ≤ 9223372036854775807 := by omega
  go_wp2_with fail
  go_loopw [7] (fun i wr => ∃ k : Nat, k ≤ E.length ∧ i = .int .i64 k ∧ Hid (Below w1.heap.size w1 wr)) (fun i _ => E.length - (intOf i).toNat)
  case atStart => exact ⟨0, Nat.zero_le _, rfl, Below.refl _ _⟩
  case round =>
    obtain ⟨i, hi, rfl, hb⟩ := hrel
    have HBW := Lib.hid (ext_trans HB1.out hb.out)
    by_cases hlt : i < E.length
    · obtain ⟨eb, eo, rfl, hce⟩ := M3.out i hlt
      have HCE := Lib.hid hce
      have HU := Lib.hid (HOK.out _ (egi_mem hlt))
      obtain ⟨sb, so, rfl, hc1⟩ := B3.out _ HU.out.1
      obtain ⟨sb', so', e', hc2⟩ := B3.out _ HU.out.2.1
      cases e'
      have HC1 := Lib.hid hc1
      have HC2 := Lib.hid hc2
      have HLT := Lib.hid hlt
      have i1 : (i : Int) < E.length := by omega
      clear hce hc1 hc2
      go_wp2_with fail
      go_loopw [8] (fun i2 wr2 => ∃ k : Nat, k ≤ q.length ∧ i2 = .int .i64 k ∧ Hid (Below w1.heap.size w1 wr2)) (fun i2 _ => q.length - (intOf i2).toNat)
      case atStart => exact ⟨0, Nat.zero_le _, rfl, hb⟩
      case round =>
        obtain ⟨k, hk, rfl, hb2⟩ := hrel
        by_cases hltk : k < q.length
        · have i2 : (k : Int) < q.length := by omega
          go_wp2_with fail
          go_loopw [9] (fun i2 wr2 => ∃ n : Nat, n ≤ q.length ∧ i2 = .int .i64 n ∧ Hid (Below w1.heap.size w1 wr2)) (fun i2 _ => q.length - (intOf i2).toNat)
          case atStart => exact ⟨0, Nat.zero_le _, rfl, hb2⟩
          case round =>
            obtain ⟨n, hnn, rfl, hb3⟩ := hrel
            by_cases hltn : n < q.length
            · obtain ⟨qb, qo, rfl, y1⟩ := K3.out k hltk
              obtain ⟨qb', qo', e', y2⟩ := K3.out n hltn
              cases e'
              have hbb := ext_trans HB1.out hb3.out
              have Y1 := Lib.hid (y1.keep hbb)
              have Y2 := Lib.hid (y2.keep hbb)
              have Y3 := Lib.hid (HCE.out.keep hb3.out)
              have Y4 := Lib.hid (cell_keep hb3.out HC1.out)
              have Y5 := Lib.hid (cell_keep hb3.out HC2.out)
              have i3 : (n : Int) < q.length := by omega
              have HF := Lib.hid (beg_false HBG.out HLT.out hltk hltn)
              clear y1 y2 hbb
              go_upto_region 11 with fail
              refine wp_region_ev sqT sqT_ok [⟨qb, qo + k * 4, enCells (eri q k)⟩, ⟨qb, qo + n * 4, enCells (eri q n)⟩, ⟨eb, eo + i * 2, egCells (egi E i)⟩, ⟨sb, so + (egi E i).1, [.string (bs (bkI bl (egi E i).1))]⟩, ⟨sb, so + (egi E i).2, [.string (bs (bkI bl (egi E i).2))]⟩] (Below wr.heap.size wr) []
                [(34, .ix k 0), (40, .ix i 2), (41, .ix 0 2), (43, .ix (egi E i).1 3), (49, .ix n 1), (55, .ix i 2), (56, .ix 1 2), (58, .ix (egi E i).2 4), (65, .ix n 1), (70, .ix k 0)]
                [(74, .bool false)] (by kernel_rfl) mixed (by kernel_rfl) ((Below.refl _ _).drew)
                (obsC (fun u hu => rangeKeep (en_range Y1.out) hu) (obsC (fun u hu => rangeKeep (en_range Y2.out) hu) (obsC (fun u hu => rangeKeep (eg_range Y3.out) hu) (obsC (fun u hu => rangeKeep (intR Y4.out) hu) (obsC (fun u hu => rangeKeep (intR Y5.out) hu) obsN))))) trivial ?_
              conv => whnf
              refine And.intro (under_of ⟨rfl, hltk, rfl, rfl⟩) ?_
              conv => whnf
              refine And.intro (under_of ⟨rfl, HLT.out, rfl, rfl⟩) ?_
              conv => whnf
              refine And.intro (under_of fun w => run_arr0 _ _ w) ?_
              conv => whnf
              refine And.intro (under_of ⟨rfl, HU.out.1, rfl, by show so + _ = so + _ * 1; omega⟩) ?_
              conv => whnf
              refine And.intro (under_of ⟨rfl, hltn, rfl, rfl⟩) ?_
              conv => whnf
              refine And.intro (under_of ⟨rfl, HLT.out, rfl, rfl⟩) ?_
              conv => whnf
              refine And.intro (under_of fun w => run_arr1 _ _ w) ?_
              conv => whnf
              refine And.intro (under_of ⟨rfl, HU.out.2.1, rfl, by show so + _ = so + _ * 1; omega⟩) ?_
              conv => whnf
              refine And.intro (under_of ⟨rfl, hltn, rfl, rfl⟩) ?_
              conv => whnf
              refine And.intro (under_of ⟨rfl, hltk, rfl, rfl⟩) ?_
              conv => whnf
              intro f2
              conv => whnf
              refine And.intro (by rw [bs_eq, bs_eq]; exact congrArg Value.bool HF.out) ?_
              conv => whnf
              intro w7 h7
              have HB7 := Lib.hid (ext_trans hb3.out h7)
              clear h7 HF
              go_wp2_with fail
              go_roundw
              case rel => exact ⟨n + 1, by omega, by go_num, HB7⟩
              case measure => simp [intOf]; omega
            · have i3 : ¬ (n : Int) < q.length := by omega
              go_wp2_with fail
              go_roundw
              case rel => exact ⟨k + 1, by omega, by go_num, hb3⟩
              case measure => simp [intOf]; omega
        · have i3 : ¬ (k : Int) < q.length := by omega
          go_wp2_with fail
          go_roundw
          case rel => exact ⟨i + 1, by omega, by go_num, hb2⟩
          case measure => simp [intOf]; omega
    · have i1 : ¬ (i : Int) < E.length := by omega
      go_wp2_with fail
      go_ret
      exact ⟨rfl, HBW.out⟩
end Go.Proofs.YtfpnjbomlmhlpaaGreat

/- The law: schedules respect the precedence of the blocks; the best one ends no later than the greedy one. -/
namespace Go.Proofs.YtfpnjbomlmhlpaaGreat
open Go.RowKit

theorem asc_less {l : List (List UInt8)} (h : AscS l) : ∀ i j (hj : j < l.length) (hij : i < j), Op.bytesLess (l[i]'(by omega)) l[j] = true := fun i j => by
  induction j with
  | zero => intro _ h2; omega
  | succ j ih =>
    intro hj hij
    by_cases e : i = j
    · subst e; exact h i hj
    · exact less_trans (ih (by omega) (by omega)) (h j hj)
theorem less_irr (a : List UInt8) : Op.bytesLess a a = false := by
  cases h : Op.bytesLess a a with
  | false => rfl
  | true => rw [← (less_asym h).1, h]
theorem asc_nodup {l : List (List UInt8)} (h : AscS l) : l.Nodup := by
  rw [List.nodup_iff_pairwise_ne, List.pairwise_iff_getElem]
  intro i j hi hj hij e
  have := asc_less h i j hj hij
  rw [e, less_irr] at this
  cases this
theorem blocks_nodup {ns : List Nod} (h : AscS (ns.map (·.id))) : (blocksF ns).Nodup := by
  unfold blocksF
  exact (List.filter_sublist.map _).nodup (asc_nodup h)
theorem plan_beg {l : List MH} {fr : Int} {bl : List (List UInt8)} {E : Edg} {q : List Ern} (h : PlanOK l fr bl E q) (hd : bl.Nodup) (hE : EdgOK bl.length E) (hJ : JobsOK (hl l)) : BegOK bl E q := fun e he x hx y hy ex ey => by
  obtain ⟨h1, h2, h3⟩ := hE e he
  refine h.ord x hx y hy ?_
  have jx := jobI_lt (h.in_ x hx)
  have jy := jobI_lt (h.in_ y hy)
  refine befB_iff.2 ?_
  rw [jx.2, jy.2, ex, ey, atB_at hd h1, atB_at hd h2]
  refine ⟨fun e9 => h3 ?_, .one he⟩
  rw [← atB_at hd h1, ← atB_at hd h2, e9]
theorem setCells_frv (n b : Nat) : ∀ (vs : List Value) (o : Nat) (u : World), FrV n (blkV b) u (u.setCells b o vs)
  | [], _, _ => FrV.refl _ _ _
  | v :: vs, o, u => by
    rw [World.setCells]
    exact (setCell_frv (n := n)).cmp (setCells_frv n b vs (o + 1) _) (Nat.le_refl _)
/-- what is asked of the arguments -/
structure LawIn (w : World) (D : Des) (g s : Sv) (ns : List Nod) (es : List Nd) (ps : List Prt) (ss : List Sea) (ks : List Pkg) (gs : List Grd) (cs : List Sct) (ja : Option Addr) (jc : Nat) (l : List MH) : Prop where
  X : DesX w D ns es ps ss ks
  M : MatOK w g s gs cs
  mz : MatZ gs cs
  h : D.hull.length ≤ maxLen
  n : ∀ x ∈ ns, x.id.length ≤ 1100000
  e : ∀ x ∈ es, x.block.length ≤ maxLen ∧ x.on.length ≤ maxLen
  p : ∀ x ∈ ps, x.id.length ≤ 1100000 ∧ x.node.length ≤ 1100000
  s : ∀ x ∈ ss, x.id.length ≤ 1100000 ∧ x.a.length ≤ 1100000 ∧ x.b.length ≤ 1100000
  k : ∀ x ∈ ks, x.id.length ≤ 1100000
  j : SHs w (.slice ja l.length jc) l
  c : Crn w l
  cs : ∀ m ∈ l, ∀ c ∈ m.h.cranes, c.length ≤ maxLen
theorem ag_des : gmAg 28 = some 6 := by kernel_rfl
theorem info_des : (Tryz.prog.info? 28).map (·.size) = some 6 := by kernel_rfl
theorem one_des (D : Des) : (#[.string (bs D.hull), .slice D.n.a D.n.n D.n.c, .slice D.p.a D.p.n D.p.c, .slice D.s.a D.s.n D.s.c, .slice D.k.a D.k.n D.k.c, .slice D.e.a D.e.n D.e.c] : Array Value).all (·.oneCell') = true := by simp [Value.oneCell']
theorem there_of {w : World} {b : Nat} {cs : Array Value} {e : TypeId} (h : ObjAt w b cs e) {m : Nat} (hm : m ≤ cs.size) : w.there b 0 m := fun j hj => by
  rw [Nat.zero_add]
  refine ⟨?_, h.frozen j⟩
  rw [h.cell]
  simp; omega
set_option maxRecDepth 100000 in
set_option maxHeartbeats 2000000 in
theorem law_any (D Dx : Des) (g s : Sv) (ns : List Nod) (es : List Nd) (ps : List Prt) (ss : List Sea) (ks : List Pkg) (gs : List Grd) (cs : List Sct) (ja : Option Addr) (jc : Nat) (l : List MH) (fr : Int) (w : World) (h : LawIn w D g s ns es ps ss ks gs cs ja jc l) :
    Calls Tryz.prog 3 #[.agg (desA D), .agg (matA g s), .agg #[.string (bs Dx.hull), .slice Dx.n.a Dx.n.n Dx.n.c, .slice Dx.p.a Dx.p.n Dx.p.c, .slice Dx.s.a Dx.s.n Dx.s.c, .slice Dx.k.a Dx.k.n Dx.k.c, .slice Dx.e.a Dx.e.n Dx.e.c, .slice ja l.length jc, .int .i64 fr]] w (Ret w (.bool true)) := by
  have HL := Lib.hid h
  have hlm := h.j.len
  unfold maxLen at hlm
  clear h
  obtain ⟨W1, HO1, HQ1, HH1, HB1, HW⟩ := three_box w #[.string (bs D.hull), .slice D.n.a D.n.n D.n.c, .slice D.p.a D.p.n D.p.c, .slice D.s.a D.s.n D.s.c, .slice D.k.a D.k.n D.k.c, .slice D.e.a D.e.n D.e.c] #[.slice g.a g.n g.c, .slice s.a s.n s.c] #[.string (bs Dx.hull), .slice Dx.n.a Dx.n.n Dx.n.c, .slice Dx.p.a Dx.p.n Dx.p.c, .slice Dx.s.a Dx.s.n Dx.s.c, .slice Dx.k.a Dx.k.n Dx.k.c, .slice Dx.e.a Dx.e.n Dx.e.c, .slice ja l.length jc, .int .i64 fr] 28 32 35
  have HF := Lib.hid (setCells_frv W1.heap.size (w.heap.size + 1 + 1) (#[.string (bs D.hull), .slice D.n.a D.n.n D.n.c, .slice D.p.a D.p.n D.p.c, .slice D.s.a D.s.n D.s.c, .slice D.k.a D.k.n D.k.c, .slice D.e.a D.e.n D.e.c] : Array Value).toList 0 W1)
  obtain ⟨W2, hW2⟩ : ∃ W, W1.setCells (w.heap.size + 1 + 1) 0 (#[.string (bs D.hull), .slice D.n.a D.n.n D.n.c, .slice D.p.a D.p.n D.p.c, .slice D.s.a D.s.n D.s.c, .slice D.k.a D.k.n D.k.c, .slice D.e.a D.e.n D.e.c] : Array Value).toList = W := ⟨_, rfl⟩
  have HC2 : Hid (W2.rangeAt (w.heap.size + 1 + 1) 6 [.slice ja l.length jc, .int .i64 fr]) := by
    show World.rangeAt ..
    rw [← hW2]
    refine World.rangeAt_setCells_apart ?_ _ _ _ (.inr (.inr (by simp)))
    intro j v hv
    match j, hv with
    | 0, hv => cases hv; exact HH1.out.cell 6
    | 1, hv => cases hv; exact HH1.out.cell 7
  rw [hW2] at HF
  have HO2 := Lib.hid (HF.out.objN HO1.out HO1.out.lt (by omega))
  have HQ2 := Lib.hid (HF.out.objN HQ1.out HQ1.out.lt (by omega))
  have HB2 : Hid (Below w.heap.size w W2) := HB1.out.trans (HF.out.belowN (by omega) HB1.out.size)
  have HT1 := Lib.hid (there_of HH1.out (m := 6) (by simp))
  have HW2 := Lib.hid hW2
  clear hW2 HF
  show Calls Tryz.prog 3 #[.agg #[.string (bs D.hull), .slice D.n.a D.n.n D.n.c, .slice D.p.a D.p.n D.p.c, .slice D.s.a D.s.n D.s.c, .slice D.k.a D.k.n D.k.c, .slice D.e.a D.e.n D.e.c], .agg #[.slice g.a g.n g.c, .slice s.a s.n s.c], .agg #[.string (bs Dx.hull), .slice Dx.n.a Dx.n.n Dx.n.c, .slice Dx.p.a Dx.p.n Dx.p.c, .slice Dx.s.a Dx.s.n Dx.s.c, .slice Dx.k.a Dx.k.n Dx.k.c, .slice Dx.e.a Dx.e.n Dx.e.c, .slice ja l.length jc, .int .i64 fr]] w _
  go_enter Tryz.func3, Tryz.ntmps3
  go_upto_region 1 with fail
  rw [HW.out]
  clear HW
  obtain ⟨c0, c1, c2, c3, c4, c5⟩ := desC HO1.out
  go_upto_region 2 with (refine at_store ?_; refine wpList_store_mid (op := ⟨none, .store _ _ _, _, _, _, _⟩) rfl 28 (.tmp 18) (.tmp 17) rfl (w.heap.size + 1 + 1) 0 #[.string (bs D.hull), .slice D.n.a D.n.n D.n.c, .slice D.p.a D.p.n D.p.c, .slice D.s.a D.s.n D.s.c, .slice D.k.a D.k.n D.k.c, .slice D.e.a D.e.n D.e.c] rfl rfl HT1.out info_des (one_des D) ?_; rw [HW2.out])
  obtain ⟨c0, c1, c2, c3, c4, c5⟩ := desC HO2.out
  have h6 : W2.cell? ⟨w.heap.size + 1 + 1, 6, none⟩ = some (.slice ja l.length jc) := HC2.out 0 _ rfl
  have h7 : W2.cell? ⟨w.heap.size + 1 + 1, 7, none⟩ = some (.int .i64 fr) := HC2.out 1 _ rfl
  go_wp2_with fail
  refine (rFew_any D ns es ps ss ks W2 (HL.out.X.keep HB2.out)).mono ?_
  rintro e w3 ⟨z3, rfl, hz3, hb3⟩
  have HB3 := Lib.hid (ext_trans HB2.out hb3)
  have HO3 := Lib.hid (HO2.out.keep hb3)
  have HQ3 := Lib.hid (HQ2.out.keep hb3)
  have HC3 := Lib.hid (rangeKeep HC2.out hb3)
  clear hb3 c0 c1 c2 c3 c4 c5 h6 h7
  cases z3
  · go_wp2_with fail
    go_ret
    exact ⟨rfl, HB3.out⟩
  obtain ⟨⟨f1, f2, f3, f4, f5⟩, f6⟩ := hz3 rfl
  have en := HL.out.X.n.n
  have ep := HL.out.X.p.n
  have es' := HL.out.X.s.n
  have ek := HL.out.X.k.n
  have ee := HL.out.X.e.n
  have HLEN : Hid (ns.length ≤ 40 ∧ ps.length ≤ 40 ∧ ss.length ≤ 40 ∧ ks.length ≤ 40 ∧ es.length ≤ 40) := by show _ ∧ _; omega
  have HAFT := Lib.hid f6
  clear f1 f2 f3 f4 f5 f6 hz3 en ep es' ek ee
  obtain ⟨c0, c1, c2, c3, c4, c5⟩ := desC HO3.out
  have h6 : w3.cell? ⟨w.heap.size + 1 + 1, 6, none⟩ = some (.slice ja l.length jc) := HC3.out 0 _ rfl
  have h7 : w3.cell? ⟨w.heap.size + 1 + 1, 7, none⟩ = some (.int .i64 fr) := HC3.out 1 _ rfl
  have d0 := HQ3.out.cell 0
  have d1 := HQ3.out.cell 1
  dsimp at d0 d1
  by_cases hl4 : 4 < l.length
  · have i1 : 4 < (l.length : Int) := by omega
    go_wp2_with fail
    go_ret
    exact ⟨rfl, HB3.out⟩
  have i1 : ¬ 4 < (l.length : Int) := by omega
  go_wp2_with fail
  refine (rChk17_any D ns es ps ss ks g s gs cs w3 (HL.out.X.keep HB3.out) (HL.out.M.keep HB3.out) ⟨HL.out.h, HL.out.n, HL.out.p, HL.out.s, HL.out.k, HAFT.out, HLEN.out.1, HLEN.out.2.1, HLEN.out.2.2.1, HLEN.out.2.2.2.1⟩ HL.out.mz).mono ?_
  rintro e w4 ⟨y, rfl, hasc, hb4⟩
  have HB4 := Lib.hid (ext_trans HB3.out hb4)
  have HO4 := Lib.hid (HO3.out.keep hb4)
  have HQ4 := Lib.hid (HQ3.out.keep hb4)
  have HC4 := Lib.hid (rangeKeep HC3.out hb4)
  clear hb4 c0 c1 c2 c3 c4 c5 h6 h7 d0 d1
  by_cases hy : y = 0
  rotate_left
  · go_wp2_with fail
    go_ret
    exact ⟨rfl, HB4.out⟩
  subst hy
  have HND := Lib.hid (blocks_nodup (hasc rfl))
  clear hasc
  obtain ⟨bl, hbl⟩ : ∃ b, blocksF ns = b := ⟨_, rfl⟩
  obtain ⟨E, hE⟩ : ∃ E, edgF es bl bl.length = E := ⟨_, rfl⟩
  have HBL := Lib.hid hbl
  have HE := Lib.hid hE
  clear hbl hE
  obtain ⟨c0, c1, c2, c3, c4, c5⟩ := desC HO4.out
  have h6 : w4.cell? ⟨w.heap.size + 1 + 1, 6, none⟩ = some (.slice ja l.length jc) := HC4.out 0 _ rfl
  have h7 : w4.cell? ⟨w.heap.size + 1 + 1, 7, none⟩ = some (.int .i64 fr) := HC4.out 1 _ rfl
  go_wp2_with fail
  refine (rCheckJobs_any D ns es _ l w4 (HL.out.X.toDesOK.keep HB4.out) (by have := HLEN.out; omega) (by have := HLEN.out; omega) HND.out (fun x hx => Nat.le_trans (HL.out.n x hx) (by unfold maxLen; omega)) HL.out.e bl HBL.out E HE.out (HL.out.j.keep HB4.out) (HL.out.c.keep HB4.out) (by omega)).mono ?_
  rintro e w5 ⟨y, rfl, hjr, hb5⟩
  have HB5 := Lib.hid (ext_trans HB4.out hb5)
  have HO5 := Lib.hid (HO4.out.keep hb5)
  have HQ5 := Lib.hid (HQ4.out.keep hb5)
  have HC5 := Lib.hid (rangeKeep HC4.out hb5)
  clear hb5 c0 c1 c2 c3 c4 c5 h6 h7
  by_cases hy : y = 0
  rotate_left
  · go_wp2_with fail
    go_ret
    exact ⟨rfl, HB5.out⟩
  subst hy
  obtain ⟨hJ, hT⟩ := hjr rfl
  have HJR := Lib.hid hJ
  have HTT := Lib.hid hT
  clear hjr hJ hT
  obtain ⟨c0, c1, c2, c3, c4, c5⟩ := desC HO5.out
  have h6 : w5.cell? ⟨w.heap.size + 1 + 1, 6, none⟩ = some (.slice ja l.length jc) := HC5.out 0 _ rfl
  have h7 : w5.cell? ⟨w.heap.size + 1 + 1, 7, none⟩ = some (.int .i64 fr) := HC5.out 1 _ rfl
  by_cases hf0 : fr < 0
  · go_wp2_with fail
    go_ret
    exact ⟨rfl, HB5.out⟩
  by_cases hf1 : 100000 < fr
  · go_wp2_with fail
    go_ret
    exact ⟨rfl, HB5.out⟩
  have HIN : Hid (SchIn w D ns es (.slice ja l.length jc) l fr bl E) := ⟨HL.out.X.toDesOK, by have := HLEN.out; omega, by have := HLEN.out; omega, HND.out, fun x hx => Nat.le_trans (HL.out.n x hx) (by unfold maxLen; omega), HL.out.e, HBL.out, HE.out, HL.out.j, HL.out.c, HJR.out, HTT.out, by omega, by omega⟩
  have HBEG : Hid (∀ q, Reach (hl l) (BefJ l bl E) fr q → q.length = l.length → PlanOK l fr bl E q ∧ BegOK bl E q) := fun q h1 h2 => by
    have h3 := reach_ok HJR.out (by omega) (by omega) h1 h2
    exact ⟨h3, plan_beg h3 (by rw [← HBL.out]; exact HND.out) (by rw [← HE.out]; exact edgF_ok _ _) HJR.out.ok⟩
  have HCK : Hid (∀ (v : Value) (q : List Ern) (W : World), Below w.heap.size w W → SEn W v q → Reach (hl l) (BefJ l bl E) fr q → q.length = l.length → Calls Tryz.prog 10 #[.agg (desA D), .slice ja l.length jc, .int .i64 fr, v] W (Ret W (.int .i64 0))) := fun v q W hW hv h1 h2 => check_ok D ns es ja jc l fr bl E v q W (HIN.out.keep hW) hv (HBEG.out q h1 h2).1
  have HBG : Hid (∀ (v : Value) (q : List Ern) (W : World), Below w.heap.size w W → SEn W v q → Reach (hl l) (BefJ l bl E) fr q → q.length = l.length → Calls Tryz.prog 11 #[.agg (desA D), v] W (Ret W (.bool true))) := fun v q W hW hv h1 h2 => begins_any D ns es v q W (HL.out.X.toDesOK.keep hW) (by have := HLEN.out; omega) (by have := HLEN.out; omega) bl HBL.out E HE.out hv (by omega) (HBEG.out q h1 h2).2
  go_wp2_with fail
  refine (greedy_any D ns es ja jc l fr bl E w5 (HIN.out.keep HB5.out)).mono ?_
  rintro e w6 ⟨va, qa, rfl, hva, hra, hqa, hb6⟩
  have HB6 := Lib.hid (ext_trans HB5.out hb6)
  have HO6 := Lib.hid (HO5.out.keep hb6)
  have HQ6 := Lib.hid (HQ5.out.keep hb6)
  have HC6 := Lib.hid (rangeKeep HC5.out hb6)
  clear hb6 c0 c1 c2 c3 c4 c5 h6 h7
  have HVA := Lib.hid hva
  have HRA := Lib.hid hra
  have HQA := Lib.hid hqa
  obtain ⟨aa, ac, rfl, _⟩ := hva
  rw [hqa] at HVA ⊢
  clear hra hqa
  obtain ⟨c0, c1, c2, c3, c4, c5⟩ := desC HO6.out
  have h6 : w6.cell? ⟨w.heap.size + 1 + 1, 6, none⟩ = some (.slice ja l.length jc) := HC6.out 0 _ rfl
  have h7 : w6.cell? ⟨w.heap.size + 1 + 1, 7, none⟩ = some (.int .i64 fr) := HC6.out 1 _ rfl
  go_wp2_with fail
  refine (HCK.out _ qa w6 HB6.out HVA.out HRA.out HQA.out).mono ?_
  rintro e w7 ⟨rfl, hb7⟩
  have HVA7 := Lib.hid (HVA.out.keep hb7)
  have HB7 := Lib.hid (ext_trans HB6.out hb7)
  have HO7 := Lib.hid (HO6.out.keep hb7)
  have HQ7 := Lib.hid (HQ6.out.keep hb7)
  have HC7 := Lib.hid (rangeKeep HC6.out hb7)
  clear hb7 c0 c1 c2 c3 c4 c5 h6 h7
  obtain ⟨c0, c1, c2, c3, c4, c5⟩ := desC HO7.out
  have h6 : w7.cell? ⟨w.heap.size + 1 + 1, 6, none⟩ = some (.slice ja l.length jc) := HC7.out 0 _ rfl
  have h7 : w7.cell? ⟨w.heap.size + 1 + 1, 7, none⟩ = some (.int .i64 fr) := HC7.out 1 _ rfl
  go_wp2_with fail
  refine (HBG.out _ qa w7 HB7.out HVA7.out HRA.out HQA.out).mono ?_
  rintro e w8 ⟨rfl, hb8⟩
  have HVA8 := Lib.hid (HVA7.out.keep hb8)
  have HB8 := Lib.hid (ext_trans HB7.out hb8)
  have HO8 := Lib.hid (HO7.out.keep hb8)
  have HQ8 := Lib.hid (HQ7.out.keep hb8)
  have HC8 := Lib.hid (rangeKeep HC7.out hb8)
  clear hb8 c0 c1 c2 c3 c4 c5 h6 h7
  obtain ⟨c0, c1, c2, c3, c4, c5⟩ := desC HO8.out
  have h6 : w8.cell? ⟨w.heap.size + 1 + 1, 6, none⟩ = some (.slice ja l.length jc) := HC8.out 0 _ rfl
  have h7 : w8.cell? ⟨w.heap.size + 1 + 1, 7, none⟩ = some (.int .i64 fr) := HC8.out 1 _ rfl
  go_upto_region 11 with fail
  go_wp2_with fail
  refine (best_any D ns es ja jc l fr bl E w8 (HIN.out.keep HB8.out) (by omega)).mono ?_
  rintro e w9 ⟨hbest, hb9⟩
  have HVA9 := Lib.hid (HVA8.out.keep hb9)
  have HB9 := Lib.hid (ext_trans HB8.out hb9)
  have HO9 := Lib.hid (HO8.out.keep hb9)
  have HQ9 := Lib.hid (HQ8.out.keep hb9)
  have HC9 := Lib.hid (rangeKeep HC8.out hb9)
  clear hb9 c0 c1 c2 c3 c4 c5 h6 h7
  rcases hbest with rfl | ⟨vb, qb, fv, rfl, hvb, hdb, hrb⟩
  · go_wp2_with fail
    go_ret
    exact ⟨rfl, HB9.out⟩
  obtain ⟨hfv, hle⟩ := hdb qa HRA.out (by rw [hl_len]; exact HQA.out) List.nil_prefix
  obtain ⟨hr, hq⟩ := hrb hfv
  have HVB := Lib.hid hvb
  have HRB := Lib.hid hr
  have HQB := Lib.hid hq
  have HLE := Lib.hid hle
  obtain ⟨ba, bc, rfl, _⟩ := hvb
  rw [hq] at HVB ⊢
  clear hdb hrb hfv hle hr hq
  obtain ⟨c0, c1, c2, c3, c4, c5⟩ := desC HO9.out
  have h6 : w9.cell? ⟨w.heap.size + 1 + 1, 6, none⟩ = some (.slice ja l.length jc) := HC9.out 0 _ rfl
  have h7 : w9.cell? ⟨w.heap.size + 1 + 1, 7, none⟩ = some (.int .i64 fr) := HC9.out 1 _ rfl
  go_wp2_with fail
  refine (bound_any D ns es ja jc l fr bl E w9 (HIN.out.keep HB9.out) HL.out.cs).mono ?_
  rintro e w10 ⟨z, rfl, hzb, hb10⟩
  have HZB := Lib.hid (hzb qb HRB.out HQB.out)
  have HVA10 := Lib.hid (HVA9.out.keep hb10)
  have HVB10 := Lib.hid (HVB.out.keep hb10)
  clear hzb
  have HB10 := Lib.hid (ext_trans HB9.out hb10)
  have HO10 := Lib.hid (HO9.out.keep hb10)
  have HQ10 := Lib.hid (HQ9.out.keep hb10)
  have HC10 := Lib.hid (rangeKeep HC9.out hb10)
  clear hb10 c0 c1 c2 c3 c4 c5 h6 h7
  obtain ⟨c0, c1, c2, c3, c4, c5⟩ := desC HO10.out
  have h6 : w10.cell? ⟨w.heap.size + 1 + 1, 6, none⟩ = some (.slice ja l.length jc) := HC10.out 0 _ rfl
  have h7 : w10.cell? ⟨w.heap.size + 1 + 1, 7, none⟩ = some (.int .i64 fr) := HC10.out 1 _ rfl
  go_wp2_with fail
  refine (HCK.out _ qb w10 HB10.out HVB10.out HRB.out HQB.out).mono ?_
  rintro e w11 ⟨rfl, hb11⟩
  have HVA11 := Lib.hid (HVA10.out.keep hb11)
  have HVB11 := Lib.hid (HVB10.out.keep hb11)
  have HB11 := Lib.hid (ext_trans HB10.out hb11)
  have HO11 := Lib.hid (HO10.out.keep hb11)
  have HQ11 := Lib.hid (HQ10.out.keep hb11)
  have HC11 := Lib.hid (rangeKeep HC10.out hb11)
  clear hb11 c0 c1 c2 c3 c4 c5 h6 h7
  obtain ⟨c0, c1, c2, c3, c4, c5⟩ := desC HO11.out
  have h6 : w11.cell? ⟨w.heap.size + 1 + 1, 6, none⟩ = some (.slice ja l.length jc) := HC11.out 0 _ rfl
  have h7 : w11.cell? ⟨w.heap.size + 1 + 1, 7, none⟩ = some (.int .i64 fr) := HC11.out 1 _ rfl
  go_wp2_with fail
  refine (HBG.out _ qb w11 HB11.out HVB11.out HRB.out HQB.out).mono ?_
  rintro e w12 ⟨rfl, hb12⟩
  have HVA12 := Lib.hid (HVA11.out.keep hb12)
  have HVB12 := Lib.hid (HVB11.out.keep hb12)
  have HB12 := Lib.hid (ext_trans HB11.out hb12)
  have HO12 := Lib.hid (HO11.out.keep hb12)
  have HQ12 := Lib.hid (HQ11.out.keep hb12)
  have HC12 := Lib.hid (rangeKeep HC11.out hb12)
  clear hb12 c0 c1 c2 c3 c4 c5 h6 h7
  obtain ⟨c0, c1, c2, c3, c4, c5⟩ := desC HO12.out
  have h6 : w12.cell? ⟨w.heap.size + 1 + 1, 6, none⟩ = some (.slice ja l.length jc) := HC12.out 0 _ rfl
  have h7 : w12.cell? ⟨w.heap.size + 1 + 1, 7, none⟩ = some (.int .i64 fr) := HC12.out 1 _ rfl
  go_wp2_with fail
  refine (End_any _ qb w12 HVB12.out).mono ?_
  rintro e w13 ⟨rfl, hb13⟩
  have HVA13 := Lib.hid (HVA12.out.keep hb13)
  have HVB13 := Lib.hid (HVB12.out.keep hb13)
  have HB13 := Lib.hid (ext_trans HB12.out hb13)
  have HO13 := Lib.hid (HO12.out.keep hb13)
  have HQ13 := Lib.hid (HQ12.out.keep hb13)
  have HC13 := Lib.hid (rangeKeep HC12.out hb13)
  clear hb13 c0 c1 c2 c3 c4 c5 h6 h7
  obtain ⟨c0, c1, c2, c3, c4, c5⟩ := desC HO13.out
  have h6 : w13.cell? ⟨w.heap.size + 1 + 1, 6, none⟩ = some (.slice ja l.length jc) := HC13.out 0 _ rfl
  have h7 : w13.cell? ⟨w.heap.size + 1 + 1, 7, none⟩ = some (.int .i64 fr) := HC13.out 1 _ rfl
  go_wp2_with fail
  refine (End_any _ qa w13 HVA13.out).mono ?_
  rintro e w14 ⟨rfl, hb14⟩
  have HVB14 := Lib.hid (HVB13.out.keep hb14)
  have HB14 := Lib.hid (ext_trans HB13.out hb14)
  have HO14 := Lib.hid (HO13.out.keep hb14)
  have HQ14 := Lib.hid (HQ13.out.keep hb14)
  have HC14 := Lib.hid (rangeKeep HC13.out hb14)
  clear hb14 c0 c1 c2 c3 c4 c5 h6 h7
  obtain ⟨c0, c1, c2, c3, c4, c5⟩ := desC HO14.out
  have h6 : w14.cell? ⟨w.heap.size + 1 + 1, 6, none⟩ = some (.slice ja l.length jc) := HC14.out 0 _ rfl
  have h7 : w14.cell? ⟨w.heap.size + 1 + 1, 7, none⟩ = some (.int .i64 fr) := HC14.out 1 _ rfl
  have hle := HLE.out
  by_cases hl0 : l.length = 0
  · have i2 : ((l.length : Nat) : Int) = 0 := by omega
    go_wp2_with fail
    go_ret
    exact ⟨rfl, HB14.out⟩
  have i2 : ¬ ((l.length : Nat) : Int) = 0 := by omega
  go_wp2_with fail
  refine (End_any _ qb w14 HVB14.out).mono ?_
  rintro e w15 ⟨rfl, hb15⟩
  have HB15 := Lib.hid (ext_trans HB14.out hb15)
  have HO15 := Lib.hid (HO14.out.keep hb15)
  have HQ15 := Lib.hid (HQ14.out.keep hb15)
  have HC15 := Lib.hid (rangeKeep HC14.out hb15)
  clear hb15 c0 c1 c2 c3 c4 c5 h6 h7
  have hzb : z ≤ endF qb := HZB.out (fun e => hl0 (by have := HQB.out; rw [e] at this; simpa using this.symm))
  go_wp2_with fail
  go_ret
  exact ⟨rfl, HB15.out⟩
end Go.Proofs.YtfpnjbomlmhlpaaGreat
