/- Contract: at of dock's reference. -/
import Derived.Test.YtgmecjmepbaolaaDoorDokS
set_option linter.unusedSimpArgs false
set_option linter.unusedVariables false
namespace Go.Proofs.YtgmecjmepbaolaaDoor
open Go.RowKit

theorem enter_with : ∀ args w, (callFunc 24 args).run Tryd.prog w = .ok (.enter 24 args) w := enters_of Tryd.func24 (by kernel_rfl) rfl
theorem enter_rdC : ∀ args w, (callFunc 4 args).run Tryd.prog w = .ok (.enter 4 args) w := enters_of Tryd.func4 (by kernel_rfl) rfl
theorem take_snoc {l : List Ber} {k : Nat} (h : k < l.length) : l.take (k + 1) = l.take k ++ [bri l k] := take_bri h
/-- what the search of the reference works with -/
structure P3 (w w' : World) (x : Ber) (sx sy : Value) (xs ys : List Int) (X Y : Int) : Prop where
  sx : SI w' sx xs
  sy : SI w' sy ys
  ox : ObjAt w' w.heap.size (syCs (x.put X Y)) 29
  orr : ObjAt w' (w.heap.size + 1) (syCs default) 29
  bw : Below w.heap.size w w'
section
variable {w w' w'' : World} {x : Ber} {sx sy : Value} {xs ys : List Int} {X Y : Int}
theorem P3.below (h : P3 w w' x sx sy xs ys X Y) (hb : Below w'.heap.size w' w'') : P3 w w'' x sx sy xs ys X Y :=
  ⟨h.sx.keep hb, h.sy.keep hb, h.ox.keep hb, h.orr.keep hb, ext_trans h.bw hb⟩
theorem P3.put (h : P3 w w' x sx sy xs ys X Y) (h1 : sx.ownBlock ≠ some w.heap.size) (h2 : sy.ownBlock ≠ some w.heap.size) (X' Y' : Int) :
    P3 w ((w'.setCell ⟨w.heap.size, 2, none⟩ (.int .i64 X')).setCell ⟨w.heap.size, 3, none⟩ (.int .i64 Y')) x sx sy xs ys X' Y' :=
  ⟨(h.sx.set h1 _ _).set h1 _ _, (h.sy.set h2 _ _).set h2 _ _, (h.ox.set 2 _).set 3 _, (h.orr.other (by omega) _ _).other (by omega) _ _, (h.bw.setCell (p := ⟨w.heap.size, 2, none⟩) (Nat.le_refl _) _).setCell (p := ⟨w.heap.size, 3, none⟩) (Nat.le_refl _) _⟩
end
set_option maxRecDepth 100000 in
set_option maxHeartbeats 2000000 in
theorem at_any (dv lv : Value) (docks : List DBay) (l : List Ber) (x : Ber) (w : World) (hd : SD w dv docks) (hl : SB w lv l) (hnil : lv = .slice none 0 0 ∨ ∃ ad n c, lv = .slice (some ad) n c) (hsd : StrD docks maxLen) (hsb : StrB l 1100000) (hx : x.hull.length ≤ 1100000) (hn : l.length ≤ 8) (hti : ∀ u ∈ l, TiB u) :
    Calls Tryd.prog 25 #[dv, lv, syV x] w (Ret w (atV docks l x)) := by
  have HD := Lib.hid hd; have HL := Lib.hid hl; have HSD := Lib.hid hsd; have HSB := Lib.hid hsb; have HX := Lib.hid hx; have HTI := Lib.hid hti; have HNIL := Lib.hid hnil
  obtain ⟨da, dc, rfl, d1, d2, d3⟩ := hd
  obtain ⟨la, lc, rfl, l1, l2, l3⟩ := hl
  have L3 := Lib.hid l3
  clear hsd hsb d3 l3 hx hti hnil d1 d2
  unfold maxLen at l2
  obtain ⟨W0, HX0, HR0, HB0, HZ0, HW⟩ := start_fit w x
  have HX1 : Hid (SI (W0.alloc (.cells #[.int .i64 0] 3)) (.slice (some ⟨W0.heap.size, 0, none⟩) 1 1) (xsR (l.take 0) x.dock)) := SI_one W0 0 3
  have hm : l.length ≤ 9223372036854775807 := by omega
  unfold syV
  go_enter Tryd.func25, Tryd.ntmps25
  go_upto_region 1 with fail
  rw [HW.out]
  clear HW
  obtain ⟨W1, hW1⟩ : ∃ W1, W1 = (W0.alloc (.cells #[.int .i64 0] 3)).alloc (.cells #[.int .i64 0] 3) := ⟨_, rfl⟩
  have HXS : Hid (SI W1 (.slice (some ⟨W0.heap.size, 0, none⟩) 1 1) (xsR (l.take 0) x.dock)) := by
    rw [hW1]; exact (SI_one W0 0 3).keep ((Below.refl _ _).alloc (Nat.le_refl _) _)
  have HYS : Hid (SI W1 (.slice (some ⟨W0.heap.size + 1, 0, none⟩) 1 1) (ysR (l.take 0) x.dock)) := by
    rw [hW1]; have := SI_one (W0.alloc (.cells #[.int .i64 0] 3)) 0 3; rw [show (W0.alloc (.cells #[.int .i64 0] 3)).heap.size = W0.heap.size + 1 by simp] at this; exact this
  have HB1 : Hid (Below W0.heap.size W0 W1) := by rw [hW1]; exact ((Below.refl _ _).alloc (Nat.le_refl _) _).alloc (by simp) _
  have HW : Hid ((W0.alloc (.cells #[.int .i64 0] 3)).alloc (.cells #[.int .i64 0] 3) = W1) := hW1.symm
  clear hW1 HX1
  have NB0 : Hid ((Value.slice (some ⟨W0.heap.size, 0, none⟩) 1 1).ownBlock ≠ some w.heap.size) := by show _ ≠ _; have := HZ0.out; simp [Value.ownBlock]; omega
  have NB1 : Hid ((Value.slice (some ⟨W0.heap.size + 1, 0, none⟩) 1 1).ownBlock ≠ some w.heap.size) := by show _ ≠ _; have := HZ0.out; simp [Value.ownBlock]; omega
  go_wp2_with fail
  rw [HW.out]
  clear HW
  go_loopw [8, 9, 10] (fun sx sy i wr => ∃ k : Nat, k ≤ l.length ∧ i = .int .i64 k ∧ Hid (Below W0.heap.size W0 wr) ∧ Hid (SI wr sx (xsR (l.take k) x.dock)) ∧ Hid (SI wr sy (ysR (l.take k) x.dock)) ∧ Hid (sx.ownBlock ≠ some w.heap.size) ∧ Hid (sy.ownBlock ≠ some w.heap.size)) (fun _ _ i _ => l.length - (intOf i).toNat)
  case atStart => exact ⟨0, Nat.zero_le _, rfl, HB1, HXS, HYS, NB0, NB1⟩
  case round =>
    obtain ⟨k, hk, rfl, hb, hxs, hys, NX, NY⟩ := hrel
    by_cases hlt : k < l.length
    · obtain ⟨b, off, rfl, hc⟩ := L3.out k hlt
      have HBW := Lib.hid (ext_trans HB0.out hb.out)
      have HC := Lib.hid (bAt_range (hc.keep HBW.out))
      have HO := Lib.hid (range_new (HX0.out.keep hb.out))
      have HLX := Lib.hid (xsR_len (l.take k) x.dock)
      have HLY := Lib.hid (ysR_len (l.take k) x.dock)
      have HTK : Hid ((l.take k).length = k) := by show _ = _; rw [List.length_take]; omega
      clear hc
      obtain ⟨xa, xc, e, x1, x2, x3⟩ := hxs.out
      subst e
      obtain ⟨ya, yc, e, y1, y2, y3⟩ := hys.out
      subst e
      clear x1 x2 x3 y1 y2 y3
      go_upto_region 5 with fail
      refine wp_region_ev dkT dkT_ok [berO b (off + k * 8) (bri l k), berO w.heap.size 0 x] (Below wr.heap.size wr) [(5, 1)] [(23, .ix k 0)] [(28, .bool ((bri l k).dock == x.dock))] (by kernel_rfl) mixed (by kernel_rfl) ((Below.refl _ _).drew) (obs2 (fun v hv => rangeKeep HC.out hv) (fun v hv => rangeKeep HO.out hv)) ⟨rfl, trivial⟩ ?_
      conv => whnf
      refine And.intro (under_of ⟨rfl, hlt, rfl, rfl⟩) ?_
      conv => whnf
      intro f
      conv => whnf
      refine And.intro (congrArg Value.bool (bs_eq _ _)) ?_
      conv => whnf
      intro w2 h2
      obtain ⟨dk, hdk⟩ : ∃ dk, ((bri l k).dock == x.dock) = dk := ⟨_, rfl⟩
      rw [hdk]
      have HB2 := Lib.hid (ext_trans hb.out h2)
      have HXS2 := Lib.hid (hxs.out.keep h2)
      have HYS2 := Lib.hid (hys.out.keep h2)
      have HC2 := Lib.hid (rangeKeep HC.out h2)
      clear h2 hxs hys HC HBW HO hb
      cases dk
      · have HXN : Hid (xsR (l.take (k + 1)) x.dock = xsR (l.take k) x.dock) := by show _ = _; rw [take_snoc hlt, xsR_snoc, if_neg (by rw [hdk]; decide)]
        have HYN : Hid (ysR (l.take (k + 1)) x.dock = ysR (l.take k) x.dock) := by show _ = _; rw [take_snoc hlt, ysR_snoc, if_neg (by rw [hdk]; decide)]
        clear hdk
        go_wp2_with fail
        go_roundw
        case rel => exact ⟨k + 1, by omega, by go_num, HB2, by rw [HXN.out]; exact HXS2, by rw [HYN.out]; exact HYS2, NX, NY⟩
        case measure => simp [intOf]; omega
      · have HXN : Hid (xsR (l.take (k + 1)) x.dock = withL (xsR (l.take k) x.dock) ((bri l k).x + (bri l k).len)) := by show _ = _; rw [take_snoc hlt, xsR_snoc, if_pos hdk]
        have HYN : Hid (ysR (l.take (k + 1)) x.dock = withL (ysR (l.take k) x.dock) ((bri l k).y + (bri l k).wid)) := by show _ = _; rw [take_snoc hlt, ysR_snoc, if_pos hdk]
        have HTB := Lib.hid (HTI.out _ (bri_mem hlt))
        clear hdk
        go_upto_region 6 with fail
        refine wp_region_ca dkT dkT_ok [berO b (off + k * 8) (bri l k)] [] [(32, .ix k 0), (38, .ix k 0)] [] 13 14 42 8 24 [29, 41] [.slice xa (xsR (l.take k) x.dock).length xc, .int .i64 ((bri l k).x + (bri l k).len)] (fun v w' => SI w' v (withL (xsR (l.take k) x.dock) ((bri l k).x + (bri l k).len)) ∧ v.ownBlock ≠ some w.heap.size) (by kernel_rfl) mixed (by kernel_rfl) rfl ⟨_, _, rfl, rfl, rfl, rfl, rfl⟩ ⟨_, rfl, rfl, rfl, ⟨13, .data⟩, by simp, rfl, rfl⟩ enter_with (fun v u u' h1 h2 => ⟨h1.1.keep h2, h1.2⟩) (fun u hu => (with_any _ _ _ u (HXS2.out.keep hu) (by have := HLX.out; have := HTK.out; omega)).mono fun e u' ⟨v, h1, h2, h3⟩ => ⟨v, h1, ⟨h2.si, fun e => by have := (World.ownsRow.lt h2 _ e).1; have := hu.size; have := HB2.out.size; have := HZ0.out; omega⟩, h3⟩) (obs1 fun v hv => rangeKeep HC2.out hv) trivial ?_
        conv => whnf
        refine And.intro (under_of ⟨rfl, hlt, rfl, rfl⟩) ?_
        conv => whnf
        refine And.intro (under_of ⟨rfl, hlt, rfl, rfl⟩) ?_
        conv => whnf
        refine And.intro (under_of (by have h := HTB.out; have := h.x0; have := h.x1; have := h.l0; have := h.l1; omega)) ?_
        conv => whnf
        refine And.intro ⟨rfl, rfl, trivial⟩ ?_
        intro f1 v1
        conv => whnf
        intro w3 h3 hv1
        have HB3 := Lib.hid (ext_trans HB2.out h3)
        have HXS3 : Hid (SI w3 v1 (xsR (l.take (k + 1)) x.dock)) := by show _; rw [HXN.out]; exact hv1.1
        have NX3 := Lib.hid hv1.2
        have HYS3 := Lib.hid (HYS2.out.keep h3)
        have HC3 := Lib.hid (rangeKeep HC2.out h3)
        clear h3 hv1 HC2 HXS2 HYS2 HB2
        go_upto_region 7 with fail
        refine wp_region_ca dkT dkT_ok [berO b (off + k * 8) (bri l k)] [] [(46, .ix k 0), (52, .ix k 0)] [] 13 14 56 9 24 [43, 55] [.slice ya (ysR (l.take k) x.dock).length yc, .int .i64 ((bri l k).y + (bri l k).wid)] (fun v w' => SI w' v (withL (ysR (l.take k) x.dock) ((bri l k).y + (bri l k).wid)) ∧ v.ownBlock ≠ some w.heap.size) (by kernel_rfl) mixed (by kernel_rfl) rfl ⟨_, _, rfl, rfl, rfl, rfl, rfl⟩ ⟨_, rfl, rfl, rfl, ⟨13, .data⟩, by simp, rfl, rfl⟩ enter_with (fun v u u' h1 h2 => ⟨h1.1.keep h2, h1.2⟩) (fun u hu => (with_any _ _ _ u (HYS3.out.keep hu) (by have := HLY.out; have := HTK.out; omega)).mono fun e u' ⟨v, h1, h2, h3⟩ => ⟨v, h1, ⟨h2.si, fun e => by have := (World.ownsRow.lt h2 _ e).1; have := hu.size; have := HB3.out.size; have := HZ0.out; omega⟩, h3⟩) (obs1 fun v hv => rangeKeep HC3.out hv) trivial ?_
        conv => whnf
        refine And.intro (under_of ⟨rfl, hlt, rfl, rfl⟩) ?_
        conv => whnf
        refine And.intro (under_of ⟨rfl, hlt, rfl, rfl⟩) ?_
        conv => whnf
        refine And.intro (under_of (by have h := HTB.out; have := h.y0; have := h.y1; have := h.w0; have := h.w1; omega)) ?_
        conv => whnf
        refine And.intro ⟨rfl, rfl, trivial⟩ ?_
        intro f2 v2
        conv => whnf
        intro w4 h4 hv2
        have HB4 := Lib.hid (ext_trans HB3.out h4)
        have HXS4 := Lib.hid (HXS3.out.keep h4)
        have HYS4 : Hid (SI w4 v2 (ysR (l.take (k + 1)) x.dock)) := by show _; rw [HYN.out]; exact hv2.1
        have NY4 := Lib.hid hv2.2
        clear h4 hv2 HC3 HXS3 HYS3 HB3 HXN HYN
        go_wp2_with fail
        go_roundw
        case rel => exact ⟨k + 1, by omega, by go_num, HB4, HXS4, HYS4, NX3, NY4⟩
        case measure => simp [intOf]; omega
    · obtain rfl : k = l.length := by omega
      have HXS2 : Hid (SI wr u8 (xsR l x.dock)) := by have := hxs.out; rw [List.take_length] at this; exact this
      have HYS2 : Hid (SI wr u9 (ysR l x.dock)) := by have := hys.out; rw [List.take_length] at this; exact this
      have HLX := Lib.hid (xsR_len l x.dock)
      have HLY := Lib.hid (ysR_len l x.dock)
      obtain ⟨Xs, hXs⟩ : ∃ Xs, xsR l x.dock = Xs := ⟨_, rfl⟩
      obtain ⟨Ys, hYs⟩ : ∃ Ys, ysR l x.dock = Ys := ⟨_, rfl⟩
      rw [hXs] at HXS2 HLX
      rw [hYs] at HYS2 HLY
      have HXS3 := Lib.hid hXs; have HYS3 := Lib.hid hYs
      obtain ⟨xa, xc, e, x1, x2, x3⟩ := HXS2.out
      subst e
      obtain ⟨ya, yc, e, y1, y2, y3⟩ := HYS2.out
      subst e
      have n1 : Xs.length ≤ 1000 := by have := HLX.out; omega
      have n2 : Ys.length ≤ 1000 := by have := HLY.out; omega
      clear hXs hYs hxs hys x3 y3 HLX HLY
      unfold maxLen at x2 y2
      have HP0 : Hid (∃ X Y, P3 w wr x (.slice xa Xs.length xc) (.slice ya Ys.length yc) Xs Ys X Y) := ⟨x.x, x.y, HXS2.out, HYS2.out, HX0.out.keep hb.out, HR0.out.keep hb.out, ext_trans HB0.out hb.out⟩
      clear HXS2 HYS2 hb
      go_wp2_with fail
      go_loopw [11] (fun i wr => ∃ j : Nat, j ≤ Ys.length ∧ i = .int .i64 j ∧ Hid (∃ X Y, P3 w wr x (.slice xa Xs.length xc) (.slice ya Ys.length yc) Xs Ys X Y) ∧ Hid (∀ j', j' < j → rowHit docks l x Xs (gi Ys j') = none)) (fun i _ => Ys.length - (intOf i).toNat)
      case atStart => exact ⟨0, Nat.zero_le _, rfl, HP0, Lib.hid fun j hj => by omega⟩
      case round =>
        obtain ⟨j, hj, rfl, hp, hf⟩ := hrel
        by_cases hlt : j < Ys.length
        · go_wp2_with fail
          go_loopw [12] (fun i wr => ∃ i' : Nat, i' ≤ Xs.length ∧ i = .int .i64 i' ∧ Hid (∃ X Y, P3 w wr x (.slice xa Xs.length xc) (.slice ya Ys.length yc) Xs Ys X Y) ∧ Hid (∀ j', j' < i' → okR docks l x (gi Xs j') (gi Ys j) = false)) (fun i _ => Xs.length - (intOf i).toNat)
          case atStart => exact ⟨0, Nat.zero_le _, rfl, hp, Lib.hid fun j hj => by omega⟩
          case round =>
            obtain ⟨i, hi, rfl, hp2, hf2⟩ := hrel
            by_cases hlt2 : i < Xs.length
            · obtain ⟨X1, Y1, hp3⟩ := hp2.out
              have hx := hp3.sx
              have hy := hp3.sy
              obtain ⟨xb, xo, rfl⟩ : ∃ b o, xa = some ⟨b, o, none⟩ := by
                obtain ⟨a', c', e', q1, q2, q3⟩ := hx
                obtain ⟨b', o', h', _⟩ := q3 i hlt2
                simp only [Value.slice.injEq] at e'
                exact ⟨b', o', by rw [e'.1, h']⟩
              obtain ⟨yb, yo, rfl⟩ : ∃ b o, ya = some ⟨b, o, none⟩ := by
                obtain ⟨a', c', e', q1, q2, q3⟩ := hy
                obtain ⟨b', o', h', _⟩ := q3 j hlt
                simp only [Value.slice.injEq] at e'
                exact ⟨b', o', by rw [e'.1, h']⟩
              have hxc := hx.at' hlt2
              have hyc := hy.at' hlt
              obtain ⟨c0, c1, c2, c3, c4, c5, c6, c7⟩ := syC hp3.ox
              have HP := Lib.hid (hp3.put NX.out NY.out (gi Xs i) (gi Ys j))
              have f2 : wr.frozen? ⟨w.heap.size, 2, none⟩ = false := obj_free hp3.ox 2
              have f3 : wr.frozen? ⟨w.heap.size, 3, none⟩ = false := obj_free hp3.ox 3
              have i1 : (i : Int) < Xs.length := by omega
              have j1 : (j : Int) < Ys.length := by omega
              clear hx hy hp3
              go_upto_region 14 with fail
              go_region
              obtain ⟨W2, HW⟩ : ∃ W2, ((wr.setCell ⟨w.heap.size, 2, none⟩ (.int .i64 (gi Xs i))).setCell ⟨w.heap.size, 3, none⟩ (.int .i64 (gi Ys j))).drew = W2 := ⟨_, rfl⟩
              have HP2 := Lib.hid (HP.out.below (Below.refl _ _).drew)
              rw [HW] at HP2 ⊢
              clear HW HP c0 c1 c2 c3 c4 c5 c6 c7 f2 f3 hxc hyc i1 j1
              have HSX : Hid (StrB (l ++ [x.put (gi Xs i) (gi Ys j)]) 1100000) := ⟨fun u hu => by
                rcases List.mem_append.1 hu with hu | hu
                · exact HSB.out.h u hu
                · rw [List.mem_singleton.1 hu]; exact HX.out⟩
              go_upto_region 15 with fail
              refine wp_region_apc dkT dkT_ok [berO w.heap.size 0 (x.put (gi Xs i) (gi Ys j))] [(5, 0)] [] [] 1 3 5 6 7 8 80 82 84 85 86 87 81 83 79 _ _ [80, 82, 84, 85, 86, 87] (.slice la l.length lc) (.slice da docks.length dc) l (x.put (gi Xs i) (gi Ys j)) 4 (dokE docks (l ++ [x.put (gi Xs i) (gi Ys j)])) (by kernel_rfl) mixed (by kernel_rfl) rfl ⟨by decide, by decide, by decide, by decide, by decide, by decide⟩ (by decide) (by decide) (by decide)
                ⟨⟨_, rfl, rfl, rfl⟩, ⟨_, rfl, rfl, rfl, ⟨1, .data⟩, by simp, rfl, rfl⟩, ⟨_, rfl, rfl, rfl⟩, ⟨_, rfl, rfl, rfl, ⟨⟨3, .data⟩, by simp, rfl, rfl⟩, ⟨5, .data⟩, by simp, rfl, rfl⟩⟩
                ⟨_, _, rfl, rfl, rfl, rfl, rfl, ⟨6, .data⟩, by simp, rfl, rfl⟩ ⟨_, rfl, rfl, rfl, ⟨7, .data⟩, by simp, rfl, rfl⟩ enter_rdC
                (fun u v hu hs => (rdCheck_any _ _ docks (l ++ [x.put (gi Xs i) (gi Ys j)]) u (HD.out.keep (ext_trans HP2.out.bw hu)) hs HSD.out HSX.out (by simp; omega)).mono fun e u' h => h)
                (HL.out.keep HP2.out.bw) HNIL.out (by omega) (obs1 fun v hv => rangeKeep (range_new HP2.out.ox) hv) ⟨rfl, trivial⟩ ?_
              conv => whnf
              refine And.intro (Nat.le_refl 8) ?_
              conv => whnf
              refine And.intro ⟨_, rfl⟩ ?_
              refine And.intro ⟨_, rfl⟩ ?_
              refine And.intro ⟨_, rfl⟩ ?_
              intro f1 v1
              conv => whnf
              intro w3 h3 hv
              subst hv
              have HP3 := Lib.hid (HP2.out.below h3)
              clear h3 HP2
              obtain ⟨sp, hsp⟩ : ∃ sp, okR docks l x (gi Xs i) (gi Ys j) = sp := ⟨_, rfl⟩
              rw [show (dokE docks (l ++ [x.put (gi Xs i) (gi Ys j)]) == 0) = sp from hsp]
              cases sp
              · have HJ := Lib.hid (upto (q := fun j' => okR docks l x (gi Xs j') (gi Ys j) = false) hf2.out hsp)
                have HQ : Hid (∃ X Y, P3 w w3 x (.slice (some ⟨xb, xo, none⟩) Xs.length xc) (.slice (some ⟨yb, yo, none⟩) Ys.length yc) Xs Ys X Y) := ⟨_, _, HP3.out⟩
                clear hsp HP3
                go_wp2_with fail
                go_roundw
                case rel => exact ⟨i + 1, by omega, by go_num, HQ, HJ⟩
                case measure => simp [intOf]; omega
              · have HV : Hid (atV docks l x = .tuple #[.agg (syCs (x.put (gi Xs i) (gi Ys j))), .bool true]) := by
                  show _ = _
                  have := hit_hit (docks := docks) (l := l) (x := x) (xs := Xs) (ys := Ys) (k := j) hlt hf.out (row_hit hlt2 hf2.out hsp)
                  unfold atV atB atF; rw [HXS3.out, HYS3.out, this]; rfl
                have HO := Lib.hid HP3.out.orr
                have HB := Lib.hid HP3.out.bw
                obtain ⟨c0, c1, c2, c3, c4, c5, c6, c7⟩ := syC HP3.out.ox
                clear hsp HP3
                go_wp2_with (refine wpList_store_row (o := ⟨none, .store _ _ _, _, _, _, _⟩) rfl 29 (.tmp 6) (.tmp 88) rfl (w.heap.size + 1) (syCs (x.put (gi Xs i) (gi Ys j))) rfl rfl 29 _ HO.out info_Berth rfl (one_ber _) ?_)
                refine bodyPost_ret (v := .tuple #[.agg (syCs (x.put (gi Xs i) (gi Ys j))), .bool true]) (results_two Tryd.results25 rfl rfl (load_Ber (setRow_heap _ _ _ _ _ _ HO.out))) rfl ⟨by rw [HV.out], below_setRow HB.out (by omega) _⟩
            · obtain rfl : i = Xs.length := by omega
              have HJ := Lib.hid (upto (q := fun j' => rowHit docks l x Xs (gi Ys j') = none) hf.out (row_miss hf2.out))
              go_wp2_with fail
              go_roundw
              case rel => exact ⟨j + 1, by omega, by go_num, hp2, HJ⟩
              case measure => simp [intOf]; omega
        · obtain rfl : j = Ys.length := by omega
          obtain ⟨X, Y, hp1⟩ := hp.out
          have HO := Lib.hid hp1.orr
          have HB := Lib.hid hp1.bw
          have HV : Hid (atV docks l x = .tuple #[.agg (syCs default), .bool false]) := by
            show _ = _
            have := hit_miss hf.out
            unfold atV atB atF; rw [HXS3.out, HYS3.out, this]; rfl
          clear hp1
          go_wp2_with (refine wpList_store_row (o := ⟨none, .store _ _ _, _, _, _, _⟩) rfl 29 (.tmp 6) (.tmp 89) rfl (w.heap.size + 1) (syCs default) rfl rfl 29 _ HO.out info_Berth rfl (one_ber _) ?_)
          refine bodyPost_ret (v := .tuple #[.agg (syCs default), .bool false]) (results_two Tryd.results25 rfl rfl (load_Ber (setRow_heap _ _ _ _ _ _ HO.out))) rfl ⟨by rw [HV.out], below_setRow HB.out (by omega) _⟩
end Go.Proofs.YtgmecjmepbaolaaDoor
