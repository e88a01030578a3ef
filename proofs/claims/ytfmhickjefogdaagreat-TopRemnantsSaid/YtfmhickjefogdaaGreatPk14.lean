/- A drawn region that appends a number to each of two rows of one's own. -/
import Derived.Test.YtfmhickjefogdaaGreatPk12
import Derived.Test.YtfmhickjefogdaaGreatShelfS
import Derived.Shelf.SlSortCmp.WholeK
import Derived.Shelf.SlicesQ.Reverse
import Derived.Test.YtfmhickjefogdaaGreatPk01
set_option linter.unusedSimpArgs false
set_option linter.unusedVariables false

/- Sorting and reversing rows of structs. -/
namespace Go.Proofs.YtfmhickjefogdaaGreat
open Go.RowKit Go.Sort

theorem holdsK_of {α : Type} [Inhabited α] {enc : α → List Value} {k : Nat} (hk : ∀ x, (enc x).length = k) (h0 : 0 < k) {w : World} {B g n cap : Nat} {e : TypeId} {l : List α} (h : w.ownsRow B e k (.slice (some ⟨g, 0, none⟩) n cap) l.length (l.flatMap enc)) : HoldsK enc k w g 0 l.toArray := by
  have hn : l.length = n := by
    rcases h.2 with ⟨e, _⟩ | ⟨g', cap', cur, e, _⟩
    · cases e
    · simp at e; exact e.2.1.symm
  subst hn
  intro t ht
  rw [size_flatK] at ht
  simp only [List.size_toArray] at ht
  rw [get_flatK enc k l.toArray t (by simpa using ht), Nat.zero_add]
  have hi : t / k < l.length := Nat.div_lt_of_lt_mul (by rw [Nat.mul_comm]; exact ht)
  have hj : t % k < k := Nat.mod_lt _ h0
  refine ⟨?_, h.frozenAt t⟩
  have e1 : t = t / k * k + t % k := by rw [Nat.mul_comm]; exact (Nat.div_add_mod t k).symm
  have key := h.cellAt t ht
  rw [key]
  conv => lhs; rw [e1]
  rw [flat_get enc hk l (t / k) (t % k) hi hj]
  have hel : (l.toArray)[t / k]! = l[t / k] := by simp [hi]
  rw [hel, List.getElem?_eq_getElem (by rw [hk]; exact hj)]
  simp [List.getElem!_eq_getElem?_getD, List.getElem?_eq_getElem (show t % k < (enc l[t / k]).length by rw [hk]; exact hj)]

theorem below_worldK {α : Type} [Inhabited α] (enc : α → List Value) (k : Nat) (w : World) (g n : Nat) (d : Array α) (os : Array Obj) : w.grownBy (sortWorldK enc k w g 0 n d os) (some g) := by
  unfold sortWorldK
  refine ⟨rfl, rfl, rfl, by rw [size_grow, size_putRowK]; exact Nat.le_add_right _ _, fun b hb hne => ?_⟩
  have hs : b < (putRowK enc k (Sort.ahead w n) g 0 d).heap.size := by rw [size_putRowK]; exact hb
  have hb' : b ≠ g := fun e => hne (by rw [e])
  have e1 : (grow (putRowK enc k (Sort.ahead w n) g 0 d) os).heap[b]? = (putRowK enc k (Sort.ahead w n) g 0 d).heap[b]? := by
    simp only [grow]; rw [Array.getElem?_append_left hs]
  rw [e1]
  unfold putRowK putRow mapBlock
  simp only [Array.getElem?_modify]
  rw [if_neg (fun e => hb' e.symm)]
  rfl

theorem at_worldK {α : Type} [Inhabited α] {enc : α → List Value} {k : Nat} {w : World} {g n : Nat} {d d' : Array α} {os : Array Obj} (h : HoldsK enc k w g 0 d) (hg : g < w.heap.size) (hs : d'.size = d.size) {i j : Nat} (hi : i < d'.size) (hj : j < k) :
    (sortWorldK enc k w g 0 n d' os).cell? ⟨g, i * k + j, none⟩ = some (enc d'[i]!)[j]! := by
  have := (HoldsK.cell (holdsK_sortWorldK enc k w g 0 n d d' os hg h hs) hi hj).1
  rwa [Nat.zero_add] at this

theorem perm_in {α : Type} [Inhabited α] {d d' : Array α} (h : PermIn 0 d.size d d') : d'.toList.Perm d.toList := by
  obtain ⟨h1, _, h3⟩ := h
  have e1 : d.extract 0 d.size = d := by simp
  have e2 : d'.extract 0 d.size = d' := by rw [← h1]; simp
  rwa [e1, e2] at h3


theorem owns_putRowK {α : Type} [Inhabited α] {enc : α → List Value} {k : Nat} (hk : ∀ x, (enc x).length = k) (h0 : 0 < k) {w : World} {B g n cap q : Nat} {e : TypeId} {xs : List Value} {ys : List α} (h : w.ownsRow B e k (.slice (some ⟨g, 0, none⟩) n cap) n xs) (hy : ys.length = n) :
    (putRowK enc k (Sort.ahead w q) g 0 ys.toArray).ownsRow B e k (.slice (some ⟨g, 0, none⟩) n cap) n (ys.flatMap enc) := by
  rcases h.2 with ⟨e0, _⟩ | ⟨g', cap', cur, e0, hb, hg, hn, hm, hs, ht⟩
  · cases e0
  · injection e0 with e1 _ e3
    injection e1 with e1
    injection e1 with e1
    subst e1; subst e3
    have hfl : (ys.flatMap enc).length = n * k := by rw [flat_len enc hk ys, hy]
    refine ⟨hfl, .inr ⟨g, cap, putCells id 0 (flatK enc k ys.toArray) cur, rfl, hb, ?_, hn, hm, by simpa [putCells] using hs, ?_⟩⟩
    · simp [putRowK, putRow, mapBlock, Sort.ahead, Array.getElem?_modify, hg, onCells]
    · apply List.ext_getElem?
      intro j
      rw [List.getElem?_take, Array.getElem?_toList]
      have hnk : n * k ≤ cap * k := Nat.mul_le_mul_right k hn
      by_cases hj : j < n * k
      · have hjc : j < cur.size := by omega
        have hjy : j < ys.toArray.size * k := by simpa [hy] using hj
        simp only [if_pos hj, putCells, Array.getElem?_mapIdx, Array.getElem?_eq_getElem hjc, Option.map_some]
        rw [if_pos (by rw [size_flatK]; omega)]
        have hi : j / k < ys.length := by rw [hy]; exact Nat.div_lt_of_lt_mul (by rw [Nat.mul_comm]; exact hj)
        have hjk : j % k < k := Nat.mod_lt _ h0
        have e1 : j = j / k * k + j % k := by rw [Nat.mul_comm]; exact (Nat.div_add_mod j k).symm
        have hel : (ys.toArray)[j / k]! = ys[j / k] := by simp [hi]
        rw [Nat.sub_zero, get_flatK enc k ys.toArray j hjy, hel]
        conv => rhs; rw [e1]
        rw [flat_get enc hk ys (j / k) (j % k) hi hjk, List.getElem?_eq_getElem (by rw [hk]; exact hjk)]
        simp [List.getElem!_eq_getElem?_getD, List.getElem?_eq_getElem (show j % k < (enc ys[j / k]).length by rw [hk]; exact hjk)]
      · rw [if_neg hj, List.getElem?_eq_none (by omega)]
theorem grown_putRowK {α : Type} [Inhabited α] (enc : α → List Value) (k : Nat) (w : World) (g n : Nat) (d : Array α) : w.grownBy (putRowK enc k (Sort.ahead w n) g 0 d) (some g) := by
  refine ⟨rfl, rfl, rfl, by rw [size_putRowK]; exact Nat.le_refl _, fun b hb hne => ?_⟩
  have hb' : b ≠ g := fun e => hne (by rw [e])
  unfold putRowK putRow mapBlock
  simp only [Array.getElem?_modify]
  rw [if_neg (fun e => hb' e.symm)]
  rfl
theorem agg_Pt : ∀ w, (isAgg 37).run Tryz.prog w = .ok true w := Tryz.isAgg37
theorem size_Pt : ∀ w, (Go.sizeOf 37).run Tryz.prog w = .ok 2 w := Tryz.sizeOf37
/-- slices.Reverse of points -/
theorem rev_any (v : Value) (l : List Pnt) (B : Nat) (w : World) (ho : OwnPt w B v l) (hl : l.length ≤ 100000) : Calls Tryz.prog 44 #[v] w fun e w' => e = .returned (.tuple #[]) ∧ w.grownBy w' v.ownBlock ∧ OwnPt w' B v l.reverse := by
  have h0 : w.ownsRow B 37 2 v l.length (l.flatMap ptCells) := ho
  rcases h0.2 with ⟨rfl, hn⟩ | ⟨g, cap, cur, rfl, _⟩
  · refine (AnyQ.slices_Reverse_empty Tryz.revP none 0 w).mono ?_
    rintro e w' ⟨rfl, rfl⟩
    have : l = [] := List.length_eq_zero_iff.1 hn
    subst this
    exact ⟨rfl, World.grownBy.refl _ _, OwnPt_nil _ _⟩
  · have hH : HoldsK ptCells 2 w g 0 l.toArray := holdsK_of (enc := ptCells) (k := 2) ptCells_len (by decide) h0
    have key := AnyQ.slices_Reverse Tryz.revP 2 agg_Pt size_Pt ptCells ptCells_len ptOne g 0 cap l.toArray w hH (by simp; omega)
    rw [List.size_toArray] at key
    refine key.mono ?_
    rintro e w' ⟨rfl, n, rfl⟩
    refine ⟨rfl, grown_putRowK _ _ _ _ _ _, ?_⟩
    have h2 := owns_putRowK (enc := ptCells) (k := 2) ptCells_len (by decide) (q := n) (ys := l.reverse) h0 (by simp)
    rw [show l.toArray.reverse = l.reverse.toArray from by simp]
    show World.ownsRow _ _ _ _ _ _ _
    rw [List.length_reverse]
    exact h2
end Go.Proofs.YtfmhickjefogdaaGreat

/- region's Move$1: a contour at a spot (printed by wip/gen_rgh.py). -/
namespace Go.Proofs.YtfmhickjefogdaaGreat
open Go.RowKit

/-- the first corners, moved -/
def mvT (x : Spo) (l : List Pnt) (k : Nat) : List Pnt := (l.take k).map (mvP x)
theorem mvT_len (x : Spo) (l : List Pnt) (k : Nat) : (mvT x l k).length = min k l.length := by unfold mvT; simp
theorem mvT_succ (x : Spo) (l : List Pnt) (k : Nat) (h : k < l.length) : mvT x l (k + 1) = mvT x l k ++ [mvP x (pti l k)] := by
  unfold mvT
  rw [List.take_add_one, List.map_append]
  simp [h, pti]
theorem mvL_noflip (x : Spo) (l : List Pnt) (h : x.flip = false) : mvL x l = mvT x l l.length := by unfold mvL mvT; rw [h, List.take_length]; rfl
theorem mvL_flip (x : Spo) (l : List Pnt) (h : x.flip = true) : mvL x l = (mvT x l l.length).reverse := by unfold mvL mvT; rw [h, List.take_length]; rfl

set_option maxRecDepth 100000 in
set_option maxHeartbeats 4000000 in
theorem moved_false (xp : List UInt8) (xx xy xt : Int) (v : Value) (l : List Pnt) (sb : Nat) (w : World) (h : SPt w v l) (hn : ∀ i, i < l.length → Nr (pti l i)) (hx : RightS ⟨xp, xx, xy, xt, false⟩) (hl : l.length ≤ 1000) (hob : ObjAt w sb (soA ⟨xp, xx, xy, xt, false⟩) 55) : Calls Tryz.prog 43 #[v, .pointer (some ⟨sb, 0, none⟩)] w (RetPts w (mvL ⟨xp, xx, xy, xt, false⟩ l)) := by
  obtain ⟨pa, pc, rfl, k1, k2, k3⟩ := h
  have K3 := Lib.hid k3
  have HN := Lib.hid hn
  have HR := Lib.hid hx
  have HX := Lib.hid hob
  have hm : xt ≤ 3 := hx.t3
  have hm0 : 0 ≤ xt := hx.t0
  clear k3 hn hx k1 k2 hob
  go_enter Tryz.func43, Tryz.ntmps43
  go_wp2_with fail
  go_loopw [4, 9] (fun o0 i wr => ∃ (k : Nat) (o : Value), k ≤ l.length ∧ i = .int .i64 k ∧ o = o0 ∧ Hid (Below w.heap.size w wr) ∧ Hid (OwnPt wr w.heap.size o (mvT ⟨xp, xx, xy, xt, false⟩ l k))) (fun _ i _ => l.length - (intOf i).toNat)
  case atStart => exact ⟨0, _, Nat.zero_le _, rfl, rfl, Below.refl _ _, OwnPt_nil _ _⟩
  case round =>
    obtain ⟨k, o, hk, rfl, rfl, hb, ho⟩ := hrel
    obtain ⟨oa, oc, eo, _⟩ := ho.out.s
    rw [mvT_len, Nat.min_eq_left hk] at eo
    subst eo
    by_cases hlt : k < l.length
    rotate_left
    · have i1 : ¬ (k : Int) < l.length := by omega
      have e : k = l.length := by omega
      have HM : Hid (mvL ⟨xp, xx, xy, xt, false⟩ l = mvT ⟨xp, xx, xy, xt, false⟩ l k) := by show _ = _; rw [e]; exact mvL_noflip _ _ rfl
      clear e
      have c4 := (HX.out.keep hb.out).cell 4
      simp only [soA] at c4
      dsimp at c4
      go_wp2_with fail
      go_ret
      exact ⟨_, rfl, by rw [HM.out]; exact ho.out, hb.out⟩
    have i1 : (k : Int) < l.length := by omega
    obtain ⟨pb, po, rfl, hc⟩ := K3.out k hlt
    obtain ⟨q, hq⟩ : ∃ q, pti l k = q := ⟨_, rfl⟩
    have HPQ := Lib.hid hq
    have HQ := Lib.hid (HN.out k hlt)
    rw [hq] at hc HQ
    clear hq
    have p0 := (hc.keep hb.out).c0
    have p1 := (hc.keep hb.out).c1
    obtain ⟨W2, HP2, HB2, HW2, _⟩ := copyPt wr q
    go_upto_region 5 with fail
    rw [HW2.out]
    clear p0 p1 hc
    have c4 := (HX.out.keep (ext_trans hb.out HB2.out)).cell 4
    have c3' := (HX.out.keep (ext_trans hb.out HB2.out)).cell 3
    simp only [soA] at c4 c3'
    dsimp at c4 c3'

    have HP3 : Hid (ObjAt W2 wr.heap.size (ptA (rotN 0 (flpB false q))) 37) := HP2
    have HB3 := HB2
    go_wp2_with fail
    clear c4 HW2 HB2 HP2
    obtain ⟨pb0, hpb0⟩ : ∃ b, wr.heap.size = b := ⟨_, rfl⟩
    obtain ⟨wo, hwo⟩ : ∃ u, wr = u := ⟨_, rfl⟩
    rw [hpb0] at HP3 ⊢
    rw [hwo] at HB3 hb ho hpb0
    clear hwo
    go_loopw [21] (fun i wr2 => ∃ j : Nat, j ≤ xt.toNat ∧ i = .int .i64 j ∧ Hid (Below wo.heap.size wo wr2) ∧ Hid (ObjAt wr2 pb0 (ptA (rotN j (flpB false q))) 37)) (fun i _ => xt.toNat - (intOf i).toNat)
    case atStart => exact ⟨0, Nat.zero_le _, rfl, HB3, HP3⟩
    case round =>
      obtain ⟨j, hj, rfl, hb2, hp⟩ := hrel
      have c3 := (HX.out.keep (ext_trans hb.out hb2.out)).cell 3
      simp only [soA] at c3
      dsimp at c3
      by_cases hlt2 : j < xt.toNat
      · have i2 : (j : Int) < xt := by omega
        have p0 := hp.out.cell 0
        have p1 := hp.out.cell 1
        simp only [ptA] at p0 p1
        dsimp at p0 p1
        have hw := rotN_nr (flpB_nr HQ.out false) j
        have hn : IntKind.i64.wrap (-(rotN j (flpB false q)).y) = -(rotN j (flpB false q)).y := IntWalk.i64_in _ (by have := hw.c; have := hw.d; omega)
        clear hw
        go_wp2_with (refine wpList_store_row (o := ⟨none, .store _ _ _, _, _, _, _⟩) rfl 37 (.tmp 6) (.tmp 28) rfl pb0 (ptA (rotN (j + 1) (flpB false q))) rfl rfl 37 _ hp.out info_Point rfl (pt_one _) ?_)
        go_roundw
        case rel => exact ⟨j + 1, by omega, by go_num, below_setRow hb2.out (Nat.le_of_eq hpb0) _, setRow_heap _ _ _ _ _ _ hp.out⟩
        case measure => simp [intOf]; omega
      · have i2 : ¬ (j : Int) < xt := by omega
        have e : j = xt.toNat := by omega
        have p0 := hp.out.cell 0
        have p1 := hp.out.cell 1
        have HXW := Lib.hid (HX.out.keep (ext_trans hb.out hb2.out))
        have c1 := HXW.out.cell 1
        have c2 := HXW.out.cell 2
        simp only [ptA, soA] at p0 p1 c1 c2
        dsimp at p0 p1 c1 c2
        have hw := rotN_nr (flpB_nr HQ.out false) j
        obtain ⟨X, hX⟩ : ∃ X, (rotN j (flpB false q)).x + xx = X := ⟨_, rfl⟩
        obtain ⟨Y, hY⟩ : ∃ Y, (rotN j (flpB false q)).y + xy = Y := ⟨_, rfl⟩
        have hnx : IntKind.i64.wrap ((rotN j (flpB false q)).x + xx) = X := (IntWalk.i64_in _ (by have := hw.a; have := hw.b; have := HR.out.x0; have := HR.out.x1; dsimp at *; omega)).trans hX
        have hny : IntKind.i64.wrap ((rotN j (flpB false q)).y + xy) = Y := (IntWalk.i64_in _ (by have := hw.c; have := hw.d; have := HR.out.y0; have := HR.out.y1; dsimp at *; omega)).trans hY
        have HV : Hid (mvP ⟨xp, xx, xy, xt, false⟩ q = ⟨(rotN j (flpB false q)).x + xx, (rotN j (flpB false q)).y + xy⟩) := by show _ = _; rw [e]; rfl
        have HOW := Lib.hid (OwnPt.below ho.out hb2.out)
        have HBW := Lib.hid (ext_trans hb.out hb2.out)
        clear hw e
        rw [hX, hY] at HV
        clear hX hY
        obtain ⟨W4, HN4, HB4, HW4⟩ := newObj wr (ptA ⟨X, Y⟩) 37
        go_wp2_with (at_builtin; rw [show wr.alloc (.cells #[.int .i64 X, .int .i64 Y] 37) = W4 from HW4.out]; refine wpList_app_Pt rfl (.tmp 30) (.tmp 44) rfl w.heap.size (.slice oa k oc) (mvT ⟨xp, xx, xy, xt, false⟩ l k) [⟨X, Y⟩] rfl (OwnPt.below HOW.out HB4.out) ⟨wr.heap.size, 0, none⟩ 1 1 rfl (sPt_one (ptC HN4.out)) (by rw [mvT_len]; simp; omega) (Nat.le_trans HBW.out.size HB4.out.size) ?_)
        intro v5 w5 ho5 hg5 _
        have HOE : Hid (OwnPt w5 w.heap.size v5 (mvT ⟨xp, xx, xy, xt, false⟩ l (k + 1))) := by show OwnPt ..; rw [mvT_succ _ _ _ hlt, HPQ.out, HV.out]; exact ho5
        have HBE := Lib.hid ((ext_trans HBW.out HB4.out).grown hg5 (Nat.le_trans HBW.out.size HB4.out.size) (fun r hr => (OwnPt.lt HOW.out r hr).1))
        clear ho5 hg5 HW4 HN4 p0 p1 c1 c2 c3
        go_wp2_with fail
        go_roundw
        case rel => exact ⟨k + 1, _, by omega, by go_num, rfl, HBE, HOE⟩
        case measure => simp [intOf]; omega
set_option maxRecDepth 100000 in
set_option maxHeartbeats 4000000 in
theorem moved_true (xp : List UInt8) (xx xy xt : Int) (v : Value) (l : List Pnt) (sb : Nat) (w : World) (h : SPt w v l) (hn : ∀ i, i < l.length → Nr (pti l i)) (hx : RightS ⟨xp, xx, xy, xt, true⟩) (hl : l.length ≤ 1000) (hob : ObjAt w sb (soA ⟨xp, xx, xy, xt, true⟩) 55) : Calls Tryz.prog 43 #[v, .pointer (some ⟨sb, 0, none⟩)] w (RetPts w (mvL ⟨xp, xx, xy, xt, true⟩ l)) := by
  obtain ⟨pa, pc, rfl, k1, k2, k3⟩ := h
  have K3 := Lib.hid k3
  have HN := Lib.hid hn
  have HR := Lib.hid hx
  have HX := Lib.hid hob
  have hm : xt ≤ 3 := hx.t3
  have hm0 : 0 ≤ xt := hx.t0
  clear k3 hn hx k1 k2 hob
  go_enter Tryz.func43, Tryz.ntmps43
  go_wp2_with fail
  go_loopw [4, 9] (fun o0 i wr => ∃ (k : Nat) (o : Value), k ≤ l.length ∧ i = .int .i64 k ∧ o = o0 ∧ Hid (Below w.heap.size w wr) ∧ Hid (OwnPt wr w.heap.size o (mvT ⟨xp, xx, xy, xt, true⟩ l k))) (fun _ i _ => l.length - (intOf i).toNat)
  case atStart => exact ⟨0, _, Nat.zero_le _, rfl, rfl, Below.refl _ _, OwnPt_nil _ _⟩
  case round =>
    obtain ⟨k, o, hk, rfl, rfl, hb, ho⟩ := hrel
    obtain ⟨oa, oc, eo, _⟩ := ho.out.s
    rw [mvT_len, Nat.min_eq_left hk] at eo
    subst eo
    by_cases hlt : k < l.length
    rotate_left
    · have i1 : ¬ (k : Int) < l.length := by omega
      have e : k = l.length := by omega
      have HM : Hid (mvL ⟨xp, xx, xy, xt, true⟩ l = (mvT ⟨xp, xx, xy, xt, true⟩ l k).reverse) := by show _ = _; rw [e]; exact mvL_flip _ _ rfl
      clear e
      have c4 := (HX.out.keep hb.out).cell 4
      simp only [soA] at c4
      dsimp at c4
      go_wp2_with fail
      refine (rev_any (.slice oa k oc) (mvT ⟨xp, xx, xy, xt, true⟩ l k) w.heap.size wr ho.out (by rw [mvT_len]; omega)).mono ?_
      rintro e w5 ⟨rfl, hg5, ho5⟩
      have HBE := Lib.hid (hb.out.grown hg5 hb.out.size (fun r hr => (OwnPt.lt ho.out r hr).1))
      have HOE := Lib.hid ho5
      clear hg5 ho5 c4
      go_wp2_with fail
      go_ret
      exact ⟨_, rfl, by rw [HM.out]; exact HOE.out, HBE.out⟩
    have i1 : (k : Int) < l.length := by omega
    obtain ⟨pb, po, rfl, hc⟩ := K3.out k hlt
    obtain ⟨q, hq⟩ : ∃ q, pti l k = q := ⟨_, rfl⟩
    have HPQ := Lib.hid hq
    have HQ := Lib.hid (HN.out k hlt)
    rw [hq] at hc HQ
    clear hq
    have p0 := (hc.keep hb.out).c0
    have p1 := (hc.keep hb.out).c1
    obtain ⟨W2, HP2, HB2, HW2, _⟩ := copyPt wr q
    go_upto_region 5 with fail
    rw [HW2.out]
    clear p0 p1 hc
    have c4 := (HX.out.keep (ext_trans hb.out HB2.out)).cell 4
    have c3' := (HX.out.keep (ext_trans hb.out HB2.out)).cell 3
    simp only [soA] at c4 c3'
    dsimp at c4 c3'

    have p0 := HP2.out.cell 0
    have f0 := HP2.out.frozen 0
    simp only [ptA] at p0
    dsimp at p0
    have hn1 : IntKind.i64.wrap (-q.x) = -q.x := IntWalk.i64_in _ (by have := HQ.out.a; have := HQ.out.b; omega)
    have HP3 : Hid (ObjAt (W2.setCell ⟨wr.heap.size, 0, none⟩ (.int .i64 (-q.x))) wr.heap.size (ptA (rotN 0 (flpB true q))) 37) := by
      have h := HP2.out.set 0 (.int .i64 (-q.x))
      exact h
    have HB3 := Lib.hid (HB2.out.setCell (p := ⟨wr.heap.size, 0, none⟩) (Nat.le_refl _) (.int .i64 (-q.x)))
    go_wp2_with fail
    generalize W2.setCell ⟨wr.heap.size, 0, none⟩ (.int .i64 (-q.x)) = W3 at *
    clear p0 f0 hn1 c4 HW2 HB2 HP2
    obtain ⟨pb0, hpb0⟩ : ∃ b, wr.heap.size = b := ⟨_, rfl⟩
    obtain ⟨wo, hwo⟩ : ∃ u, wr = u := ⟨_, rfl⟩
    rw [hpb0] at HP3 ⊢
    rw [hwo] at HB3 hb ho hpb0
    clear hwo
    go_loopw [21] (fun i wr2 => ∃ j : Nat, j ≤ xt.toNat ∧ i = .int .i64 j ∧ Hid (Below wo.heap.size wo wr2) ∧ Hid (ObjAt wr2 pb0 (ptA (rotN j (flpB true q))) 37)) (fun i _ => xt.toNat - (intOf i).toNat)
    case atStart => exact ⟨0, Nat.zero_le _, rfl, HB3, HP3⟩
    case round =>
      obtain ⟨j, hj, rfl, hb2, hp⟩ := hrel
      have c3 := (HX.out.keep (ext_trans hb.out hb2.out)).cell 3
      simp only [soA] at c3
      dsimp at c3
      by_cases hlt2 : j < xt.toNat
      · have i2 : (j : Int) < xt := by omega
        have p0 := hp.out.cell 0
        have p1 := hp.out.cell 1
        simp only [ptA] at p0 p1
        dsimp at p0 p1
        have hw := rotN_nr (flpB_nr HQ.out true) j
        have hn : IntKind.i64.wrap (-(rotN j (flpB true q)).y) = -(rotN j (flpB true q)).y := IntWalk.i64_in _ (by have := hw.c; have := hw.d; omega)
        clear hw
        go_wp2_with (refine wpList_store_row (o := ⟨none, .store _ _ _, _, _, _, _⟩) rfl 37 (.tmp 6) (.tmp 28) rfl pb0 (ptA (rotN (j + 1) (flpB true q))) rfl rfl 37 _ hp.out info_Point rfl (pt_one _) ?_)
        go_roundw
        case rel => exact ⟨j + 1, by omega, by go_num, below_setRow hb2.out (Nat.le_of_eq hpb0) _, setRow_heap _ _ _ _ _ _ hp.out⟩
        case measure => simp [intOf]; omega
      · have i2 : ¬ (j : Int) < xt := by omega
        have e : j = xt.toNat := by omega
        have p0 := hp.out.cell 0
        have p1 := hp.out.cell 1
        have HXW := Lib.hid (HX.out.keep (ext_trans hb.out hb2.out))
        have c1 := HXW.out.cell 1
        have c2 := HXW.out.cell 2
        simp only [ptA, soA] at p0 p1 c1 c2
        dsimp at p0 p1 c1 c2
        have hw := rotN_nr (flpB_nr HQ.out true) j
        obtain ⟨X, hX⟩ : ∃ X, (rotN j (flpB true q)).x + xx = X := ⟨_, rfl⟩
        obtain ⟨Y, hY⟩ : ∃ Y, (rotN j (flpB true q)).y + xy = Y := ⟨_, rfl⟩
        have hnx : IntKind.i64.wrap ((rotN j (flpB true q)).x + xx) = X := (IntWalk.i64_in _ (by have := hw.a; have := hw.b; have := HR.out.x0; have := HR.out.x1; dsimp at *; omega)).trans hX
        have hny : IntKind.i64.wrap ((rotN j (flpB true q)).y + xy) = Y := (IntWalk.i64_in _ (by have := hw.c; have := hw.d; have := HR.out.y0; have := HR.out.y1; dsimp at *; omega)).trans hY
        have HV : Hid (mvP ⟨xp, xx, xy, xt, true⟩ q = ⟨(rotN j (flpB true q)).x + xx, (rotN j (flpB true q)).y + xy⟩) := by show _ = _; rw [e]; rfl
        have HOW := Lib.hid (OwnPt.below ho.out hb2.out)
        have HBW := Lib.hid (ext_trans hb.out hb2.out)
        clear hw e
        rw [hX, hY] at HV
        clear hX hY
        obtain ⟨W4, HN4, HB4, HW4⟩ := newObj wr (ptA ⟨X, Y⟩) 37
        go_wp2_with (at_builtin; rw [show wr.alloc (.cells #[.int .i64 X, .int .i64 Y] 37) = W4 from HW4.out]; refine wpList_app_Pt rfl (.tmp 30) (.tmp 44) rfl w.heap.size (.slice oa k oc) (mvT ⟨xp, xx, xy, xt, true⟩ l k) [⟨X, Y⟩] rfl (OwnPt.below HOW.out HB4.out) ⟨wr.heap.size, 0, none⟩ 1 1 rfl (sPt_one (ptC HN4.out)) (by rw [mvT_len]; simp; omega) (Nat.le_trans HBW.out.size HB4.out.size) ?_)
        intro v5 w5 ho5 hg5 _
        have HOE : Hid (OwnPt w5 w.heap.size v5 (mvT ⟨xp, xx, xy, xt, true⟩ l (k + 1))) := by show OwnPt ..; rw [mvT_succ _ _ _ hlt, HPQ.out, HV.out]; exact ho5
        have HBE := Lib.hid ((ext_trans HBW.out HB4.out).grown hg5 (Nat.le_trans HBW.out.size HB4.out.size) (fun r hr => (OwnPt.lt HOW.out r hr).1))
        clear ho5 hg5 HW4 HN4 p0 p1 c1 c2 c3
        go_wp2_with fail
        go_roundw
        case rel => exact ⟨k + 1, _, by omega, by go_num, rfl, HBE, HOE⟩
        case measure => simp [intOf]; omega

theorem moved_any (x : Spo) (v : Value) (l : List Pnt) (sb : Nat) (w : World) (h : SPt w v l) (hn : ∀ i, i < l.length → Nr (pti l i)) (hx : RightS x) (hl : l.length ≤ 1000) (hob : ObjAt w sb (soA x) 55) : Calls Tryz.prog 43 #[v, .pointer (some ⟨sb, 0, none⟩)] w (RetPts w (mvL x l)) := by
  obtain ⟨xp, xx, xy, xt, xf⟩ := x
  cases xf
  · exact moved_false xp xx xy xt v l sb w h hn hx hl hob
  · exact moved_true xp xx xy xt v l sb w h hn hx hl hob
end Go.Proofs.YtfmhickjefogdaaGreat

/- region's Move, for shapes that are right and spots that are right (printed by wip/gen_rgi.py). -/
namespace Go.Proofs.YtfmhickjefogdaaGreat
open Go.RowKit

theorem enters_callV {P : Program} {o : Oper} {a : Act} {c : Call} {f : FuncId} {caps : Array Value} {n : Nat} (ho : o.op = .call c) (hc : c.callee = .value (.tmp n)) {vs : List Value} (hx : (Operand.tmp n :: c.args.toList).map a.eval = .func (.func f) #[] caps :: vs) (en : ∀ args w, (callFunc f args).run P w = .ok (.enter f args) w) (w : World) :
    (execOp a.eval o).run P w = .ok (.enter f (vs.toArray ++ caps)) w := by
  rw [List.map_cons] at hx
  injection hx with hf hx
  have e1 : c.args.map a.eval = vs.toArray := by rw [← hx]; apply Array.ext'; simp
  unfold execOp
  simp only [ho, resolve, hc, e1, hf, Deferred.ofValue, Sem.run_bind, Sem.run_pure, Result.andThen_ok, invoke, Array.empty_append, en]
theorem gfar_small (x : Spo) (u : World) (h : RightS x) : Calls Tryz.prog 41 #[.agg #[.int .i64 x.x, .int .i64 x.y]] u (Ret u (.bool false)) := by
  have := gFar_any ⟨x.x, x.y⟩ u
  rw [far_nr (right_nr h)] at this
  exact this
theorem gfar_fn (W0 : World) : FnPt (.func (.func 41) #[] #[]) W0 (fun _ => True) (fun q => farP q) :=
  ⟨_, _, rfl, fun args w => enters_of Tryz.func41 (by kernel_rfl) rfl args w, fun x w _ _ => gFar_any x w⟩
theorem far_none {l : List Pnt} (h : ∀ i, i < l.length → Nr (pti l i)) : (l.any fun q => farP q) = false := by
  rw [List.any_eq_false]
  intro x hx
  obtain ⟨j, hj, e⟩ := mem_pti hx
  rw [← e, far_nr (h j hj)]; decide
set_option maxRecDepth 100000 in
set_option maxHeartbeats 4000000 in
theorem gMove_any (ov hv : Value) (outer : List Pnt) (holes : List (List Pnt)) (hvs : List Value) (x : Spo) (w : World) (h : ShpOK w ov hv outer holes hvs) (ho : Con outer) (hh : ∀ i, i < holes.length → Con (holes.getD i [])) (hl : holes.length ≤ 8) (hx : RightS x) : Calls Tryz.prog 16 #[.agg #[ov, hv], .agg (soA x)] w (RetShp w (mvL x outer) (holes.map (mvL x))) := by
  have HP := Lib.hid h
  have HNL := Lib.hid h.n
  have HO := Lib.hid ho
  have HH := Lib.hid hh
  have HX := Lib.hid hx
  have hh8 : hvs.length ≤ 8 := by rw [h.n]; exact hl
  obtain ⟨oa, oc, rfl, _⟩ := h.o
  obtain ⟨ha, hc, rfl, _, _, s3⟩ := h.hs
  have S3 := Lib.hid s3
  clear h s3 ho hh hl hx
  obtain ⟨W1, HS1, HX1, HR1, HB1, HW1, HZ1⟩ := boxMv w oa outer.length oc ha hvs.length hc x
  go_enter Tryz.func16, Tryz.ntmps16
  go_upto_region 1 with fail
  rw [HW1.out]

  refine wp_region_et gmT gmT_ok [⟨w.heap.size + 1, 0, (soA x).toList⟩] (Below W1.heap.size W1) [(3, 0)] [(22, .ret (.bool false))] [(23, .bool false)] (by kernel_rfl) (Below.refl _ _)
    (obsC (fun u hu => rangeKeep (range_new HX1.out) hu) obsN) ⟨rfl, trivial⟩ ?_
  conv => whnf
  refine And.intro (Nat.le_of_ble_eq_true rfl) ?_
  conv => whnf
  refine And.intro (under_of fun u hu => ret_in (gfar_small _ u HX.out) hu) ?_
  conv => whnf
  intro f1
  conv => whnf
  refine And.intro (far_guard HX.out) ?_
  conv => whnf
  intro w2 h2
  have HB2 := Lib.hid (ext_trans HB1.out h2)
  have HS2 := Lib.hid (HS1.out.keep h2)
  have HX2 := Lib.hid (HX1.out.keep h2)
  have HR2 := Lib.hid (HR1.out.keep h2)
  have HZ2 : Hid (W1.heap.size ≤ w2.heap.size) := h2.size
  clear h2
  have c0 := HS2.out.cell 0
  have c1 := HS2.out.cell 1
  dsimp at c0 c1
  go_wp2_with fail
  refine (gcontours_any _ _ outer holes hvs w2 (HP.out.keep HB2.out) (by omega)).mono ?_
  rintro e w3 ⟨vl, rfl, hl2, hb2⟩
  obtain ⟨la, lc, rfl, _, _, l3⟩ := hl2
  have L3 := Lib.hid l3
  have HB3 := Lib.hid (ext_trans HB2.out hb2)
  have HS3 := Lib.hid (HS2.out.keep hb2)
  have HX3 := Lib.hid (HX2.out.keep hb2)
  have HR3 := Lib.hid (HR2.out.keep hb2)
  have HC3 := Lib.hid (ShpOK.con (HP.out.keep HB3.out))
  have HCN := Lib.hid (con_all HO.out HH.out)
  have HZ3 : Hid (W1.heap.size ≤ w3.heap.size) := Nat.le_trans HZ2.out hb2.size
  clear l3 hb2 c0 c1
  go_wp2_with fail
  go_loopw [28] (fun i wr => ∃ k : Nat, k ≤ hvs.length + 1 ∧ i = .int .i64 k ∧ Hid (Below w3.heap.size w3 wr)) (fun i _ => hvs.length + 1 - (intOf i).toNat)
  case atStart => exact ⟨0, Nat.zero_le _, rfl, Below.refl _ _⟩
  case round =>
    obtain ⟨k, hk, rfl, hb⟩ := hrel
    by_cases hlt : k < hvs.length + 1
    · have i1 : (k : Int) < hvs.length + 1 := by omega
      obtain ⟨lb, lo, rfl, hcl⟩ := L3.out k hlt
      obtain ⟨pa, pc, ep, k1, k2, k3⟩ := HC3.out k hlt
      rw [ep] at hcl
      obtain ⟨C, hC⟩ : ∃ C, (outer :: holes).getD k [] = C := ⟨_, rfl⟩
      have HN := Lib.hid (HCN.out k (by have := HNL.out; simp; omega))
      rw [hC] at k1 k3 hcl HN
      have cl := cell_keep hb.out hcl
      have SC : Hid (SPt wr (.slice pa C.length pc) C) := SPt.keep ⟨pa, pc, rfl, k1, k2, k3⟩ hb.out
      clear hcl ep k1 k2 k3 hC
      go_wp2_with fail
      refine (contains_Pt _ _ (fun _ => True) (fun q => farP q) C wr SC.out (fun _ _ => trivial) (gfar_fn wr)).mono ?_
      rintro e w4 ⟨rfl, hb4⟩
      have HB4 := Lib.hid (ext_trans hb.out hb4)
      clear hb4 cl
      rw [far_none HN.out.nr]
      go_wp2_with fail
      go_roundw
      case rel => exact ⟨k + 1, by omega, by go_num, HB4⟩
      case measure => simp [intOf]; omega
    · have i1 : ¬ (k : Int) < hvs.length + 1 := by omega
      have HB4 := Lib.hid (ext_trans HB3.out hb.out)
      have HS4 := Lib.hid (HS3.out.keep hb.out)
      have HX4 := Lib.hid (HX3.out.keep hb.out)
      have HR4 := Lib.hid (HR3.out.keep hb.out)
      have HZ4 : Hid (W1.heap.size ≤ wr.heap.size) := Nat.le_trans HZ3.out hb.out.size
      have c0 := HS4.out.cell 0
      dsimp at c0
      go_wp2_with fail
      refine (moved_any x _ outer (w.heap.size + 1) wr (SPt.keep (HP.out.o) HB4.out) HO.out.nr HX.out HO.out.ln HX4.out).mono ?_
      rintro e w5 ⟨vo, rfl, hvo, hb5⟩
      obtain ⟨va, vc, rfl, _, _, _⟩ := OwnPt.s hvo
      have HVO := Lib.hid (OwnPt.mono hvo hb.out.size |>.mono HB3.out.size |>.mono (Nat.le_refl _))
      have HB5 := Lib.hid (ext_trans HB4.out hb5)
      have HS5 := Lib.hid (HS4.out.keep hb5)
      have HX5 := Lib.hid (HX4.out.keep hb5)
      have HR5 := Lib.hid (HR4.out.keep hb5)
      have HZ5 : Hid (W1.heap.size ≤ w5.heap.size) := Nat.le_trans HZ4.out hb5.size
      have HSV : Hid (∀ k, k < holes.length → SPt w5 (hvs.getD k default) (holes.getD k [])) := (HP.out.keep HB5.out).h
      clear hvo hb5 c0
      obtain ⟨W6, HN6, HB6, HW6⟩ := boxS w5 va (mvL x outer).length vc none 0 0
      have HB6' := Lib.hid (ext_trans HB5.out HB6.out)
      have HS6 := Lib.hid (HS5.out.keep HB6.out)
      have HZ6 : Hid (W6.heap.size = w5.heap.size + 1) := by show _ = _; rw [← HW6.out]; simp
      clear hk hb HS3 HX3 HR3
      go_upto_region 11 with fail
      rw [HW6.out]
      have c1 := HS6.out.cell 1
      dsimp at c1
      go_wp2_with fail
      clear c1
      go_loopw [45] (fun i wr => ∃ (k : Nat) (hs : List Value) (a : Option Addr) (c : Nat), k ≤ hvs.length ∧ i = .int .i64 k ∧ Hid (Below w5.heap.size w5 wr) ∧ Hid (W6.heap.size ≤ wr.heap.size) ∧
        Hid (ObjAt wr w5.heap.size #[.slice va (mvL x outer).length vc, .slice a hs.length c] 47) ∧ Hid (OwnHs wr W6.heap.size (.slice a hs.length c) hs ((holes.map (mvL x)).take k)) ∧ Hid (hs.length = k)) (fun i _ => hvs.length - (intOf i).toNat)
      case atStart => exact ⟨0, [], none, 0, Nat.zero_le _, rfl, HB6, Nat.le_refl _, HN6, OwnHs_nil _ _, rfl⟩
      case round =>
        obtain ⟨j, hs, a, c, hj, rfl, hb, hsz, hN, hH, hl⟩ := hrel
        by_cases hlt : j < hvs.length
        · have i2 : (j : Int) < hvs.length := by omega
          obtain ⟨xb, xo, rfl, hcx⟩ := S3.out j hlt
          obtain ⟨pa, pc, ep, _, _, _⟩ := HSV.out j (by have := HNL.out; omega)
          rw [ep] at hcx
          have cx := cell_keep hb.out (cell_keep HB5.out hcx)
          have HSJ : Hid (SPt w5 (.slice pa (holes.getD j []).length pc) (holes.getD j [])) := by show SPt ..; rw [← ep]; exact HSV.out j (by have := HNL.out; omega)
          have HCJ := Lib.hid (HH.out j (by have := HNL.out; omega))
          have HTK : Hid ((holes.map (mvL x)).take (j + 1) = (holes.map (mvL x)).take j ++ [mvL x (holes.getD j [])]) := by
            have h1 : j < holes.length := by have := HNL.out; omega
            show _ = _
            rw [List.take_add_one]
            simp [h1]
          clear hcx ep
          go_upto_region 14 with fail
          refine wp_region_lc gmT gmT_ok [⟨w5.heap.size, 0, [.slice va (mvL x outer).length vc, .slice a hs.length c]⟩]
            [(8, 0)] [] [] 4 5 6 8 53 54 55 56 50 45 44 47 [51, 52] [.func (.func 43) #[] #[.pointer (some ⟨w.heap.size + 1, 0, none⟩)], .slice pa (holes.getD j []).length pc] (fun v => #[v]) #[.slice va (mvL x outer).length vc, .slice a hs.length c]
            (fun v u => OwnPt u W6.heap.size v (mvL x (holes.getD j []))) (.slice a hs.length c) W6.heap.size w5.heap.size 1 (fun u => Below w5.heap.size w5 u ∧ W6.heap.size ≤ u.heap.size) (fun u => OwnHs u W6.heap.size (.slice a hs.length c) hs ((holes.map (mvL x)).take j))
            (fun v u => ∃ xv, OwnHs u W6.heap.size v (hs ++ [xv]) ((holes.map (mvL x)).take (j + 1)))
            (by kernel_rfl) mixed (by kernel_rfl) (by kernel_rfl) (by kernel_rfl) (by decide) (by decide)
            ⟨_, rfl, rfl, by decide, fun a u K h1 h2 hK => wp_of_enter (enters_callV rfl rfl h1 (fun args w => enters_of Tryz.func43 (by kernel_rfl) rfl args w) u) ((moved_any x _ _ (w.heap.size + 1) u (SPt.keep HSJ.out h2.1) HCJ.out.nr HX.out HCJ.out.ln (HX5.out.keep h2.1)).mono fun e u' ⟨v, he, hv, hb⟩ => ⟨v, he, hK v u' (OwnPt.mono hv h2.2) hb⟩)⟩
            ⟨_, rfl, rfl, rfl, ⟨4, .data⟩, by simp, rfl, rfl⟩ ⟨_, rfl, rfl, rfl, ⟨5, .data⟩, by simp, rfl, rfl⟩ ⟨_, rfl, rfl, rfl, ⟨6, .data⟩, by simp, rfl, rfl⟩
            (fun v u u' h hb => OwnPt.below h hb) (fun x u h => build_one_pp x (OwnPt.form h) u)
            (fun xv o a2 u g K ho h1 h2 hv h3 h4 h5 hK => wp_app_pp (.tmp 50) (.tmp 54) ho W6.heap.size (.slice a hs.length c) _ hs [xv] h1 h2 h4.own (sl_one h3) (fun y hy => by obtain rfl := List.mem_singleton.1 hy; obtain ⟨_, _, _, rfl⟩ := OwnPt.form hv; rfl) (by have := hl.out; simp; omega) h5 fun v' u' a1 a3 => hK v' u' ⟨xv, by rw [HTK.out]; exact h4.app hv a3 a1⟩ a3)
            (by kernel_rfl) (fun v u h => by obtain ⟨xv, h⟩ := h; exact own_one h.own) rfl
            (fun u u' h hb => h.below hb) (fun v u u' h hb => by obtain ⟨xv, h⟩ := h; exact ⟨xv, h.below hb⟩) (fun v u h _ => by obtain ⟨xv, h⟩ := h; exact ⟨xv, h.cell (by have := HZ6.out; omega) _ _⟩)
            (fun u h ho e => by have := (h.own.lt _ e).1; have := HZ6.out; omega)
            ⟨hb.out.drew, hsz.out⟩ hH.out hsz.out hN.out
            (fun u u' h hb => ⟨h.1.trans (hb.mono h.1.size), Nat.le_trans h.2 hb.size⟩) (fun u u' h hn2 ho2 hg => ⟨h.1.grown hg h.1.size (fun r hr => by have := (ho2.own.lt r hr).1; have := HZ6.out; omega), Nat.le_trans h.2 hg.size⟩) (fun u v h => ⟨h.1.setCell (p := ⟨w5.heap.size, 1, none⟩) (Nat.le_refl _) v, by rw [size_setCell]; exact h.2⟩)
            (obsC (fun u hu => range_new hu.2) obsN) ⟨rfl, trivial⟩ ?_
          conv => whnf
          refine And.intro ⟨⟨rfl, rfl, trivial⟩, rfl, rfl⟩ ?_
          intro f6
          conv => whnf
          intro w6 v6 hc6 ho6 hn6 hx6
          obtain ⟨xv, hh6⟩ := ho6
          obtain ⟨a6, c6, rfl, _⟩ := hh6.sl
          have HB7 := Lib.hid hc6.1
          have HN7 := Lib.hid hn6
          have HX7 : Hid (ObjAt w6 w5.heap.size #[.slice va (mvL x outer).length vc, .slice a6 (hs ++ [xv]).length c6] 47) := hx6
          have HH7 := Lib.hid hh6
          have HL7 : Hid ((hs ++ [xv]).length = j + 1) := by show _ = _; rw [List.length_append, hl.out]; rfl
          clear hc6 hh6 hn6 hx6 hb hN hH hl hsz cx
          go_wp2_with fail
          go_roundw
          case rel => exact ⟨j + 1, hs ++ [xv], a6, c6, by omega, by go_num, HB7, HN7, HX7, HH7, HL7⟩
          case measure => simp [intOf]; omega
        · have i2 : ¬ (j : Int) < hvs.length := by omega
          have e : j = holes.length := by have := HNL.out; omega
          have HH8 : Hid (OwnHs wr W6.heap.size (.slice a hs.length c) hs (holes.map (mvL x))) := by show OwnHs ..; have := hH.out; rw [e, List.take_of_length_le (by simp)] at this; exact this
          have HV8 := Lib.hid (OwnPt.below HVO.out hb.out)
          have HR8 := Lib.hid (HR5.out.keep hb.out)
          have n0 := hN.out.cell 0
          have n1 := hN.out.cell 1
          dsimp at n0 n1
          go_wp2_with (refine wpList_store_row (o := ⟨none, .store _ _ _, _, _, _, _⟩) rfl 47 (.tmp 4) (.tmp 58) rfl (w.heap.size + 1 + 1) #[.slice va (mvL x outer).length vc, .slice a hs.length c] rfl rfl 47 _ HR8.out info_Shape rfl (sl2_one _ _ _ _ _ _) ?_)
          have HLD := Lib.hid (load_Shape (setRow_heap _ _ _ #[.slice va (mvL x outer).length vc, .slice a hs.length c] _ _ HR8.out))
          have HBR := Lib.hid (below_setRow (HB5.out.trans (hb.out.mono HB5.out.size)) (show w.heap.size ≤ w.heap.size + 1 + 1 by omega) #[.slice va (mvL x outer).length vc, .slice a hs.length c])
          have HOW : Hid (OwnShp (wr.setRow (w.heap.size + 1 + 1) #[.slice va (mvL x outer).length vc, .slice a hs.length c]) w.heap.size (.slice va (mvL x outer).length vc) (.slice a hs.length c) (mvL x outer) (holes.map (mvL x)) hs) :=
            OwnShp.row ⟨HV8.out, HH8.out.mono (by have := HZ6.out; have := HB5.out.size; omega)⟩ HR8.out (by decide) (by decide) _
          refine bodyPost_ret (results_cell Tryz.results16 rfl HLD.out) rfl ?_
          exact ⟨_, _, _, rfl, HOW.out, HBR.out⟩
end Go.Proofs.YtfmhickjefogdaaGreat

/- A drawn region that appends a number to each of two rows of one's own. -/
namespace Go.Proofs.YtfmhickjefogdaaGreat
open Go.RowKit

structure Rows2 (w : World) (B : Nat) (sx sy : Value) (xs ys : List Int) : Prop where
  x : OwnI w B sx xs
  y : OwnI w B sy ys
  ne : ∀ r, sx.ownBlock = some r → sy.ownBlock ≠ some r
theorem Rows2.below {w w' : World} {B : Nat} {sx sy : Value} {xs ys : List Int} (h : Rows2 w B sx sy xs ys) (hb : Below w.heap.size w w') : Rows2 w' B sx sy xs ys := ⟨owns_below h.x hb, owns_below h.y hb, h.ne⟩
theorem Rows2.alloc {w : World} {B : Nat} {sx sy : Value} {xs ys : List Int} (h : Rows2 w B sx sy xs ys) (o : Obj) : Rows2 (w.alloc o) B sx sy xs ys := h.below ((Below.refl _ _).alloc (Nat.le_refl _) _)
theorem Rows2.appX {w w' : World} {B : Nat} {sx sy : Value} {xs ys : List Int} (h : Rows2 w B sx sy xs ys) {sx' : Value} {xs' : List Int} (ho : OwnI w' B sx' xs') (hg : w.grownBy w' sx.ownBlock) (ha : sx'.ownBlock = sx.ownBlock ∨ ∃ q, sx'.ownBlock = some q ∧ w.heap.size ≤ q) : Rows2 w' B sx' sy xs' ys := by
  have hk : sy.ownBlock = none ∨ sy.ownBlock ≠ sx.ownBlock := by
    cases e : sy.ownBlock with
    | none => exact .inl rfl
    | some r => exact .inr fun e2 => h.ne r e2.symm e
  refine ⟨ho, World.ownsRow.kept h.y hg hk, fun r e1 e2 => ?_⟩
  rcases ha with ha | ⟨q, ha, hq⟩
  · rw [ha] at e1; exact h.ne r e1 e2
  · rw [ha] at e1
    have e3 := Option.some.inj e1
    have := (World.ownsRow.lt h.y r e2).2
    omega
theorem run_lit1i {o : Oper} {a : Act} {n : Nat} {x : Int} (ho : o.op = .buildSlice 93 1 #[(0, .tmp n)]) (hv : a.eval (.tmp n) = .int .i64 x) (w : World) : (execOp a.eval o).run Tryz.prog w = .ok (.value (.slice (some ⟨w.heap.size, 0, none⟩) 1 1)) (w.alloc (.cells #[.int .i64 x] 3)) := by
  unfold execOp; simp only [ho, List.map_toArray, List.map_cons, List.map_nil, hv]; go_simp
def cur (s : Nat → Option Value) (A : Nat) (p : Value) : Value := (s A).getD p
def curL (s : Nat → Option Value) (A : Nat) (xs : List Int) (x : Int) : List Int := if (s A).isSome then xs ++ [x] else xs
structure JT (B1 A1 D1 B2 A2 D2 : Nat) (B : Nat) (p1 p2 : Value) (xs ys : List Int) (x y : Int) (s : Nat → Option Value) (u : World) : Prop where
  rows : Rows2 u B (cur s A1 p1) (cur s A2 p2) (curL s A1 xs x) (curL s A2 ys y)
  bz : B ≤ u.heap.size
  o1 : s B1 = none → s A1 = none
  o2 : s B2 = none → s A2 = none
  l1 : ∀ v, s B1 = some v → s A1 = none → ∃ g, v = .slice (some ⟨g, 0, none⟩) 1 1 ∧ u.cell? ⟨g, 0, none⟩ = some (.int .i64 x) ∧ g < u.heap.size ∧ (cur s A2 p2).ownBlock ≠ some g
  l2 : ∀ v, s B2 = some v → s A2 = none → ∃ g, v = .slice (some ⟨g, 0, none⟩) 1 1 ∧ u.cell? ⟨g, 0, none⟩ = some (.int .i64 y) ∧ g < u.heap.size ∧ (cur s A1 p1).ownBlock ≠ some g
  d1 : s A1 = none → s D1 = none
  d2 : s A2 = none → s D2 = none
  e1 : ∀ v, s D1 = some v → s A1 = some v
  e2 : ∀ v, s D2 = some v → s A2 = some v
structure Six (B1 A1 D1 B2 A2 D2 : Nat) : Prop where
  ba : B1 ≠ A1
  bd : B1 ≠ D1
  bb : B1 ≠ B2
  bA : B1 ≠ A2
  bD : B1 ≠ D2
  ad : A1 ≠ D1
  ab : A1 ≠ B2
  aA : A1 ≠ A2
  aD : A1 ≠ D2
  db : D1 ≠ B2
  dA : D1 ≠ A2
  dD : D1 ≠ D2
  BA : B2 ≠ A2
  BD : B2 ≠ D2
  AD : A2 ≠ D2
theorem cur_same (s : Nat → Option Value) (A : Nat) (p v : Value) : cur (updS s A v) A p = v := by unfold cur; rw [updS_same]; rfl
theorem curL_same (s : Nat → Option Value) (A : Nat) (xs : List Int) (x : Int) (v : Value) : curL (updS s A v) A xs x = xs ++ [x] := by unfold curL; rw [updS_same]; rfl
theorem cur_other {s : Nat → Option Value} {A i : Nat} {p v : Value} (h : A ≠ i) : cur (updS s i v) A p = cur s A p := by unfold cur; rw [updS_other h]
theorem curL_other {s : Nat → Option Value} {A i : Nat} {xs : List Int} {x : Int} {v : Value} (h : A ≠ i) : curL (updS s i v) A xs x = curL s A xs x := by unfold curL; rw [updS_other h]
theorem cur_none {s : Nat → Option Value} {A : Nat} {p : Value} (h : s A = none) : cur s A p = p := by unfold cur; rw [h]; rfl
theorem curL_none {s : Nat → Option Value} {A : Nat} {xs : List Int} {x : Int} (h : s A = none) : curL s A xs x = xs := by unfold curL; rw [h]; rfl
section
variable {B1 A1 D1 B2 A2 D2 B : Nat} {p1 p2 : Value} {xs ys : List Int} {x y : Int} {s : Nat → Option Value} {u u' : World}
theorem JT.flip (h : JT B1 A1 D1 B2 A2 D2 B p1 p2 xs ys x y s u) : JT B2 A2 D2 B1 A1 D1 B p2 p1 ys xs y x s u :=
  ⟨⟨h.rows.y, h.rows.x, fun r e1 e2 => h.rows.ne r e2 e1⟩, h.bz, h.o2, h.o1, h.l2, h.l1, h.d2, h.d1, h.e2, h.e1⟩
theorem Six.flip (h : Six B1 A1 D1 B2 A2 D2) : Six B2 A2 D2 B1 A1 D1 := ⟨h.BA, h.BD, h.bb.symm, h.ab.symm, h.db.symm, h.AD, h.bA.symm, h.aA.symm, h.dA.symm, h.bD.symm, h.aD.symm, h.dD.symm, h.ba, h.bd, h.ad⟩
theorem JT.start (h : Rows2 u B p1 p2 xs ys) (hb : B ≤ u.heap.size) : JT B1 A1 D1 B2 A2 D2 B p1 p2 xs ys x y (fun _ => none) u :=
  ⟨h, hb, fun _ => rfl, fun _ => rfl, fun _ h => (by cases h), fun _ h => (by cases h), fun _ => rfl, fun _ => rfl, fun _ h => (by cases h), fun _ h => (by cases h)⟩
theorem JT.stepB (h : JT B1 A1 D1 B2 A2 D2 B p1 p2 xs ys x y s u) (hd : Six B1 A1 D1 B2 A2 D2) (hn : s B1 = none) : JT B1 A1 D1 B2 A2 D2 B p1 p2 xs ys x y (updS s B1 (.slice (some ⟨u.heap.size, 0, none⟩) 1 1)) (u.alloc (.cells #[.int .i64 x] 3)) := by
  have hA := h.o1 hn
  have hb : Below u.heap.size u (u.alloc (.cells #[.int .i64 x] 3)) := (Below.refl _ _).alloc (Nat.le_refl _) _
  obtain ⟨h0, h1, h2, h3, h4, h5, h6, h7, h8, h9⟩ := h
  refine ⟨?_, Nat.le_trans h1 hb.size, ?_, ?_, ?_, ?_, ?_, ?_, ?_, ?_⟩
  · rw [cur_other hd.ba.symm, cur_other hd.bA.symm, curL_other hd.ba.symm, curL_other hd.bA.symm]; exact h0.alloc _
  · rw [updS_same]; intro e; cases e
  · rw [updS_other hd.bb.symm, updS_other hd.bA.symm]; exact h3
  · intro v hv _
    rw [updS_same] at hv; cases hv
    rw [cur_other hd.bA.symm]
    refine ⟨u.heap.size, rfl, by rw [cell_of_row _ _ 0 _ _ _ (World.alloc_heap_new u _)]; rfl, by simp, fun e => ?_⟩
    have := (World.ownsRow.lt h0.y _ e).2; omega
  · intro v hv hv2
    rw [updS_other hd.bb.symm] at hv; rw [updS_other hd.bA.symm] at hv2
    obtain ⟨g, e1, e2, e3, e4⟩ := h5 v hv hv2
    exact ⟨g, e1, cell_keep hb e2, Nat.lt_of_lt_of_le e3 hb.size, by rw [cur_other hd.ba.symm]; exact e4⟩
  · rw [updS_other hd.ba.symm, updS_other hd.bd.symm]; exact h6
  · rw [updS_other hd.bA.symm, updS_other hd.bD.symm]; exact h7
  · rw [updS_other hd.ba.symm, updS_other hd.bd.symm]; exact h8
  · rw [updS_other hd.bA.symm, updS_other hd.bD.symm]; exact h9
theorem JT.stepA {t : Value} (h : JT B1 A1 D1 B2 A2 D2 B p1 p2 xs ys x y s u) (hd : Six B1 A1 D1 B2 A2 D2) (hn : s A1 = none) (hB : s B1 ≠ none) (ho : OwnI u' B t (xs ++ [x])) (hg : u.grownBy u' p1.ownBlock) (ha : t.ownBlock = p1.ownBlock ∨ t.ownBlock = some u.heap.size) :
    JT B1 A1 D1 B2 A2 D2 B p1 p2 xs ys x y (updS s A1 t) u' := by
  have hD := h.d1 hn
  obtain ⟨h0, h1, h2, h3, h4, h5, h6, h7, h8, h9⟩ := h
  have hc := cur_none (p := p1) hn
  refine ⟨?_, Nat.le_trans h1 hg.size, ?_, ?_, ?_, ?_, ?_, ?_, ?_, ?_⟩
  · rw [cur_same, curL_same, cur_other hd.aA.symm, curL_other hd.aA.symm]
    exact h0.appX ho (by rw [hc]; exact hg) (by rw [hc]; exact ha.imp_right fun e => ⟨_, e, Nat.le_refl _⟩)
  · rw [updS_other hd.ba]; intro e; exact absurd e hB
  · rw [updS_other hd.ab.symm, updS_other hd.aA.symm]; exact h3
  · intro v hv hv2; rw [updS_same] at hv2; cases hv2
  · intro v hv hv2
    rw [updS_other hd.ab.symm] at hv; rw [updS_other hd.aA.symm] at hv2
    obtain ⟨g, e1, e2, e3, e4⟩ := h5 v hv hv2
    rw [hc] at e4
    refine ⟨g, e1, hg.cell e2 (fun e => e4 e.symm), Nat.lt_of_lt_of_le e3 hg.size, ?_⟩
    rw [cur_same]
    rcases ha with e | e
    · rw [e]; exact e4
    · rw [e]; intro e'; have := Option.some.inj e'; omega
  · rw [updS_same]; intro e; cases e
  · rw [updS_other hd.aA.symm, updS_other hd.aD.symm]; exact h7
  · intro v hv; rw [updS_other hd.ad.symm, hD] at hv; cases hv
  · rw [updS_other hd.aA.symm, updS_other hd.aD.symm]; exact h9
theorem JT.stepD {v : Value} (h : JT B1 A1 D1 B2 A2 D2 B p1 p2 xs ys x y s u) (hd : Six B1 A1 D1 B2 A2 D2) (hv : s A1 = some v) : JT B1 A1 D1 B2 A2 D2 B p1 p2 xs ys x y (updS s D1 v) u := by
  obtain ⟨h0, h1, h2, h3, h4, h5, h6, h7, h8, h9⟩ := h
  refine ⟨?_, h1, ?_, ?_, ?_, ?_, ?_, ?_, ?_, ?_⟩
  · rw [cur_other hd.ad, curL_other hd.ad, cur_other hd.dA.symm, curL_other hd.dA.symm]; exact h0
  · rw [updS_other hd.bd, updS_other hd.ad]; exact h2
  · rw [updS_other hd.db.symm, updS_other hd.dA.symm]; exact h3
  · rw [updS_other hd.bd, updS_other hd.ad, cur_other hd.dA.symm]; exact h4
  · rw [updS_other hd.db.symm, updS_other hd.dA.symm, cur_other hd.ad]; exact h5
  · rw [updS_other hd.ad, hv]; intro e; cases e
  · rw [updS_other hd.dA.symm, updS_other hd.dD.symm]; exact h7
  · intro v' e; rw [updS_same] at e; cases e; rw [updS_other hd.ad]; exact hv
  · rw [updS_other hd.dA.symm, updS_other hd.dD.symm]; exact h9
end
/-- objects that stay -/
structure KO where
  b : Nat
  xs : Array Value
  e : TypeId
def KeptO (B : Nat) (w : World) (os : List KO) (u : World) : Prop := Below B w u ∧ ∀ o ∈ os, ObjAt u o.b o.xs o.e
theorem KeptO.alloc {B : Nat} {w u : World} {os : List KO} (h : KeptO B w os u) (hb : B ≤ u.heap.size) (o : Obj) : KeptO B w os (u.alloc o) := ⟨h.1.alloc hb _, fun k hk => (h.2 k hk).alloc _⟩
structure TwOps (ops : List Oper) (B1 A1 D1 nB nA nD nV nX : Nat) : Prop where
  b : ∃ o, ops[B1]? = some o ∧ o.op = .buildSlice 93 1 #[(0, .tmp nX)] ∧ o.dst = some nB
  a : ∃ o, ops[A1]? = some o ∧ o.op = .call { callee := .builtin .append, args := #[.tmp nV, .tmp nB], argTypes := #[93, 93] } ∧ o.dst = some nA ∧ ∃ e ∈ o.after, e.on = B1 ∧ Region.binds .any e = true
  d : ∃ o, ops[D1]? = some o ∧ o.op = .assign (.tmp nA) ∧ o.dst = some nD ∧ ∃ e ∈ o.after, e.on = A1 ∧ Region.binds .any e = true
section
variable {a0 : Act} {E : List Ob} {Q : Exit → Act → World → Prop} {w : World} {ops : List Oper} {B1 A1 D1 B2 A2 D2 nB nA nD nV nX B : Nat} {p1 p2 : Value} {xs ys : List Int} {x y : Int} {S : List Ent} {os : List KO}
theorem tw_specs {sp : List Nat} {J : (Nat → Option Value) → World → Prop} (hJ1 : ∀ s u, J s u → JT B1 A1 D1 B2 A2 D2 B p1 p2 xs ys x y s u) (hJ2 : ∀ s u, JT B1 A1 D1 B2 A2 D2 B p1 p2 xs ys x y s u → J s u)
    (hd : Six B1 A1 D1 B2 A2 D2) (hsB : sp.contains B1 = true) (hsA : sp.contains A1 = true) (H : TwOps ops B1 A1 D1 nB nA nD nV nX)
    (hV : ∃ m, lookS S nV = some ⟨m, [], .v p1⟩) (hX : ∃ m, lookS S nX = some ⟨m, [], .v (.int .i64 x)⟩) (hlen : xs.length ≤ 1000000) (hos : ∀ o ∈ os, 3 ≠ o.e) (hB : w.heap.size = B) :
    SpecAt a0 E (KeptO B w os) J sp ops Q S B1 ∧ SpecAt a0 E (KeptO B w os) J sp ops Q S A1 ∧ SpecAt a0 E (KeptO B w os) J sp ops Q S D1 := by
  obtain ⟨oB, b1, b2, b3⟩ := H.b
  obtain ⟨oA, a1, a2, a3, eA, a4, a5, a6⟩ := H.a
  obtain ⟨oD, d1, d2, d3, eD, d4, d5, d6⟩ := H.d
  obtain ⟨mV, hV⟩ := hV
  obtain ⟨mX, hX⟩ := hX
  refine ⟨?_, ?_, ?_⟩
  · intro o a u s ho hC hJ hn hq hold hdep K hK
    rw [b1] at ho; cases ho
    have hx : a.eval (.tmp nX) = .int .i64 x := hq nX (by unfold Oper.looksAt; rw [b2]; simp [Op.operands]) _ hX rfl
    exact wp_of_run (run_lit1i b2 hx u) (hK _ _ (hC.alloc (hJ1 _ _ hJ).bz _) (hJ2 _ _ ((hJ1 _ _ hJ).stepB hd hn)))
  · intro o a u s ho hC hJ hn hq hold hdep K hK
    rw [a1] at ho; cases ho
    have hJ' := hJ1 _ _ hJ
    obtain ⟨v, v1, v2⟩ := hdep eA a4 a6 (by rw [a5]; exact hsB)
    rw [a5] at v1 v2
    have hpv : a.eval (.tmp nV) = p1 := hq nV (by unfold Oper.looksAt; rw [a2]; simp [Op.operands, Call.operands]) _ hV rfl
    obtain ⟨g, e1, e2, e3, e4⟩ := hJ'.l1 v v1 hn
    have hown : OwnI u B p1 xs := by have := hJ'.rows.x; rw [cur_none hn, curL_none hn] at this; exact this
    have hsi : SI u v [x] := by
      rw [e1]
      refine ⟨_, 1, rfl, Nat.le_refl _, by decide, fun i hi => ⟨g, 0, rfl, ?_⟩⟩
      have : i = 0 := by simpa using hi
      subst this
      exact e2
    refine wp_app_int (.tmp nV) (.tmp nB) a2 B p1 v xs [x] hpv (v2 oB nB b1 b3) hown hsi (by simp; omega) hJ'.bz fun t w' ho hg hat => ?_
    refine hK _ _ ⟨hC.1.grown hg hJ'.bz (fun q hq => (World.ownsRow.lt hown q hq).1), fun k hk => (hC.2 k hk).grown hg ((hC.2 k hk).ne hown (hos k hk))⟩ (hJ2 _ _ (hJ'.stepA hd hn (by rw [v1]; simp) ho hg hat))
  · intro o a u s ho hC hJ hn hq hold hdep K hK
    rw [d1] at ho; cases ho
    have hJ' := hJ1 _ _ hJ
    obtain ⟨v, v1, v2⟩ := hdep eD d4 d6 (by rw [d5]; exact hsA)
    rw [d5] at v1 v2
    refine wp_of_run (v := v) (w' := u) ?_ (hK _ _ hC (hJ2 _ _ (hJ'.stepD hd v1)))
    unfold execOp; simp only [d2, v2 oA nA a1 a3]; rfl
end
def selT (n : Nat) (v : Value) (f : Nat → Value) : Nat → Value := fun m => match Nat.beq m n with
  | true => v
  | false => f m
theorem selT_same {n : Nat} {v : Value} {f : Nat → Value} (h : f n = v) : selT n v f = f := by
  funext m
  unfold selT
  cases hb : Nat.beq m n with
  | true => have := Nat.eq_of_beq_eq_true hb; subst this; exact h.symm
  | false => rfl
def evTw (a0 : Act) (E : List Ob) (C : World → Prop) (nA1 nD1 nV1 nX1 nA2 nD2 nV2 nX2 : Nat) (p1 p2 : Value) (x y : Int) (ns : List Nat) (V : Value → Value → World → Prop) (outs : List (Nat × Value)) (Q : Act → World → Prop) (S : List Ent) : Prop :=
  ((∃ m, lookS S nV1 = some ⟨m, [], .v p1⟩) ∧ (∃ m, lookS S nX1 = some ⟨m, [], .v (.int .i64 x)⟩)) ∧ ((∃ m, lookS S nV2 = some ⟨m, [], .v p2⟩) ∧ (∃ m, lookS S nX2 = some ⟨m, [], .v (.int .i64 y)⟩)) ∧ ∀ (f : Nat → Value) (v1 v2 : Value), match a0 with
    | ⟨⟨l⟩, d⟩ => finS E outs f S l fun l' => setsN (selT nA1 v1 (selT nD1 v1 (selT nA2 v2 (selT nD2 v2 f)))) ns l' fun l'' => ∀ w', C w' → V v1 v2 w' → Q ⟨l''.toArray, d⟩ w'
theorem wp_region_tw {a0 : Act} {id : Nat} {Q : Exit → Act → World → Prop} {w : World} {ops : List Oper} (T : QTab) (hT : T.Ok) (E : List Ob) (ps : List (Nat × Nat)) (hs : List (Nat × Hint)) (outs : List (Nat × Value))
    (B1 A1 D1 B2 A2 D2 nB1 nA1 nD1 nV1 nX1 nB2 nA2 nD2 nV2 nX2 : Nat) (ns : List Nat) (p1 p2 : Value) (xs ys : List Int) (x y : Int) (B : Nat) (wB : World) (os : List KO)
    (hz : (ops.all fun o => match o.dst with | some n => decide (n < a0.tmps.size) | none => true) = true) (hm : Tryz.prog.follows .mixedOrders = true)
    (hst : (ordB ops.toArray && nodB (dstsL ops) && chkB ops.toArray (quietL [B1, A1, D1, B2, A2, D2] 0 ops) && depB [B1, A1, D1, B2, A2, D2] ops.toArray) = true)
    (hsp : spD [B1, A1, D1, B2, A2, D2] 0 ops = ns) (hd : Six B1 A1 D1 B2 A2 D2) (H1 : TwOps ops B1 A1 D1 nB1 nA1 nD1 nV1 nX1) (H2 : TwOps ops B2 A2 D2 nB2 nA2 nD2 nV2 nX2)
    (hC : KeptO B wB os w) (hB : wB.heap.size = B) (hos : ∀ o ∈ os, 3 ≠ o.e) (hr : Rows2 w B p1 p2 xs ys) (h1 : xs.length ≤ 1000000) (h2 : ys.length ≤ 1000000)
    (hE : ObsIn (KeptO B wB os) E) (P' : psOk a0 E ps)
    (h : evL a0 ps T E (KeptO B wB os) (fun u u' => u' = u) hs ops (evTw a0 E (KeptO B wB os) nA1 nD1 nV1 nX1 nA2 nD2 nV2 nX2 p1 p2 x y ns (fun v1 v2 w' => Rows2 w' B v1 v2 (xs ++ [x]) (ys ++ [y])) outs (Q .normal)) (quietL [B1, A1, D1, B2, A2, D2] 0 ops) []) : (Code.region id ops.toArray true).wp Tryz.prog Q a0 w := by
  have hst' := hst
  simp only [Bool.and_eq_true] at hst'
  obtain ⟨⟨⟨s1, s2⟩, s3⟩, s4⟩ := hst'
  have hsub : ∀ o ∈ quietL [B1, A1, D1, B2, A2, D2] 0 ops, o ∈ ops := fun o ho => by obtain ⟨k, hk, _⟩ := mem_quietL ho; exact List.mem_of_getElem? hk
  obtain ⟨S, H', af, I, ⟨⟨hV1, hX1⟩, ⟨hV2, hX2⟩, h3⟩, f1, f2, f3⟩ := evL_fin P' hT hE hz _ [] [] a0 hsub s3 InvQ.start h
  have J1 := tw_specs (a0 := a0) (E := E) (Q := Q) (w := wB) (sp := [B1, A1, D1, B2, A2, D2]) (J := fun s u => JT B1 A1 D1 B2 A2 D2 B p1 p2 xs ys x y s u) (fun _ _ h => h) (fun _ _ h => h) hd (by simp) (by simp) H1 hV1 hX1 h1 hos hB
  have J2 := tw_specs (a0 := a0) (E := E) (Q := Q) (w := wB) (sp := [B1, A1, D1, B2, A2, D2]) (J := fun s u => JT B1 A1 D1 B2 A2 D2 B p1 p2 xs ys x y s u) (fun _ _ h => h.flip) (fun _ _ h => h.flip) hd.flip (by simp) (by simp) H2 hV2 hX2 h2 hos hB
  obtain ⟨oA1, q1, q2, q3, _⟩ := H1.a
  obtain ⟨oA2, r1, r2, r3, _⟩ := H2.a
  obtain ⟨oD1, t1, t2, t3, _⟩ := H1.d
  obtain ⟨oD2, z1, z2, z3, _⟩ := H2.d
  refine mix_core [B1, A1, D1, B2, A2, D2] E (KeptO B wB os) (fun u u' => u' = u) outs (fun s u => JT B1 A1 D1 B2 A2 D2 B p1 p2 xs ys x y s u) hz hm hst ⟨hC.1.drew, hC.2⟩ (JT.start (hr.below ((Below.refl _ _).drew)) (Nat.le_trans (Nat.le_of_eq hB.symm) hC.1.size)) (fun u u' h1 h2 => by rw [h2]; exact h1) (fun u _ => rfl) (fun s u u' _ h1 h2 => by rw [h2]; exact h1) I ⟨⟨J1.1, J1.2.1, J1.2.2, J2.1, J2.2.1, J2.2.2, trivial⟩, fun f s hsv => ?_⟩ f1 f2 f3
  obtain ⟨v1, m1, m2⟩ := hsv A1 (by simp) oA1 q1
  obtain ⟨v2, m3, m4⟩ := hsv A2 (by simp) oA2 r1
  obtain ⟨v3, m5, m6⟩ := hsv D1 (by simp) oD1 t1
  obtain ⟨v4, m7, m8⟩ := hsv D2 (by simp) oD2 z1
  have k1 : f nA1 = v1 := (m2 nA1 q3).symm
  have k2 : f nA2 = v2 := (m4 nA2 r3).symm
  have k3 : f nD1 = v3 := (m6 nD1 t3).symm
  have k4 : f nD2 = v4 := (m8 nD2 z3).symm
  obtain ⟨⟨li⟩, d⟩ := a0
  dsimp only at h3 ⊢
  rw [hsp]
  refine finS_mono (fun l' hl' => ?_) (h3 f v1 v2)
  by_cases e1 : v3 = v1
  · by_cases e2 : v4 = v2
    · rw [selT_same (f := f) (k4.trans e2), selT_same k2, selT_same (f := f) (k3.trans e1), selT_same k1] at hl'
      rw [setsN_eq] at hl' ⊢
      intro w' hC' hJ'
      refine hl' w' hC' ?_
      have := hJ'.rows
      unfold cur curL at this
      rw [m1, m3] at this
      exact this
    · rw [setsN_eq]
      intro w' _ hJ'
      have := hJ'.e2 v4 m7
      rw [m3] at this
      exact absurd (Option.some.inj this).symm e2
  · rw [setsN_eq]
    intro w' _ hJ'
    have := hJ'.e1 v3 m5
    rw [m1] at this
    exact absurd (Option.some.inj this).symm e1

end Go.Proofs.YtfmhickjefogdaaGreat
