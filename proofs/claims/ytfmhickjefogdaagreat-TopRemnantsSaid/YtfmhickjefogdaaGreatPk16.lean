/- remnant's newPlate (printed by wip/gen_reb.py). -/
import Derived.Test.YtfmhickjefogdaaGreatPk15
set_option linter.unusedSimpArgs false
set_option linter.unusedVariables false

namespace Go.Proofs.YtfmhickjefogdaaGreat
open Go.RowKit

theorem tkE_succ (g : Int) (ts : List Rct) (k : Nat) (h : k < ts.length) : tkE g (ts.take (k + 1)) = if rctOK (enl g (rci ts k)) = true then tkE g (ts.take k) ++ [enl g (rci ts k)] else tkE g (ts.take k) := by
  unfold tkE
  rw [List.take_add_one, List.map_append, List.filter_append]
  have e : ts[k]?.toList = [rci ts k] := by simp [h, rci]
  rw [e]
  by_cases c : rctOK (enl g (rci ts k)) = true
  · rw [if_pos c]; simp [c]
  · rw [if_neg c]; simp [c]
theorem tkE_len (g : Int) (ts : List Rct) : (tkE g ts).length ≤ ts.length := by
  unfold tkE
  exact Nat.le_trans (List.length_filter_le _ _) (by simp)
theorem info_plate : (Tryz.prog.info? 91).map (·.size) = some 3 := by kernel_rfl
theorem load_plate {w : World} {g : Nat} {a b c : Value} {e : TypeId} (h : ObjAt w g #[a, b, c] e) : (loadVar 91 ⟨g, 0, none⟩).run Tryz.prog w = .ok (.agg #[a, b, c]) w := run_loadVar_row (P := Tryz.prog) w g e 91 #[a, b, c] (0, 0) _ h Tryz.underlying91 rfl info_plate
theorem pl_one (L W : Int) (a : Option Addr) (n c : Nat) : (#[.int .i64 L, .int .i64 W, .slice a n c] : Array Value).all (·.oneCell') = true := by simp [Value.oneCell']
theorem boxNP (w : World) (L W : Int) : ∃ W1, Hid (ObjAt W1 w.heap.size #[.int .i64 0, .int .i64 0, .slice none 0 0] 91) ∧ Hid (ObjAt W1 (w.heap.size + 1) #[.int .i64 L, .int .i64 W, .slice none 0 0] 91) ∧ Hid (Below w.heap.size w W1) ∧ Hid ((w.alloc (.cells #[.int .i64 0, .int .i64 0, .slice none 0 0] 91)).alloc (.cells #[.int .i64 L, .int .i64 W, .slice none 0 0] 91) = W1) ∧ Hid (W1.heap.size = w.heap.size + 1 + 1) :=
  ⟨_, (ObjAt.new w #[.int .i64 0, .int .i64 0, .slice none 0 0] 91).alloc _, (by have h := ObjAt.new (w.alloc (.cells #[.int .i64 0, .int .i64 0, .slice none 0 0] 91)) #[.int .i64 L, .int .i64 W, .slice none 0 0] 91; rw [size_alloc] at h; exact h), ((Below.refl _ _).alloc (Nat.le_refl _) _).alloc (by simp) _, rfl, by show _ = _; simp⟩
/-- a plate of one's own -/
def RetPl (L W g : Int) (ts : List Rct) (w : World) (e : Ending) (w' : World) : Prop := ∃ v, e = .returned (.agg #[.int .i64 L, .int .i64 W, v]) ∧ OwnRc w' w.heap.size v (tkE g ts) ∧ Below w.heap.size w w'
set_option maxRecDepth 100000 in
set_option maxHeartbeats 4000000 in
theorem eNewPlate_any (L W gp : Int) (v : Value) (ts : List Rct) (w : World) (h : SRc w v ts) (hp : PlIn L W gp ts) : Calls Tryz.prog 47 #[.int .i64 L, .int .i64 W, v, .int .i64 gp] w (RetPl L W gp ts w) := by
  have HP := Lib.hid hp
  have h32 := hp.n
  have hg0 := hp.g0
  have hg1 := hp.g1
  obtain ⟨pa, pc, rfl, _, _, p3⟩ := h
  have P3 := Lib.hid p3
  clear p3 hp
  obtain ⟨W1, HZ1, HQ1, HB1, HW1, HSZ⟩ := boxNP w L W
  go_enter Tryz.func47, Tryz.ntmps47
  go_upto_region 2 with fail
  rw [HW1.out]
  go_wp2_with fail
  go_loopw [17] (fun i wr => ∃ (k : Nat) (a : Option Addr) (m c : Nat), k ≤ ts.length ∧ i = .int .i64 k ∧ Hid (Below w.heap.size w wr) ∧ Hid (W1.heap.size ≤ wr.heap.size) ∧ Hid (ObjAt wr w.heap.size #[.int .i64 0, .int .i64 0, .slice none 0 0] 91) ∧ Hid (ObjAt wr (w.heap.size + 1) #[.int .i64 L, .int .i64 W, .slice a m c] 91) ∧ Hid (OwnRc wr W1.heap.size (.slice a m c) (tkE gp (ts.take k)))) (fun i _ => ts.length - (intOf i).toNat)
  case atStart => exact ⟨0, none, 0, 0, Nat.zero_le _, rfl, HB1, Nat.le_refl _, HZ1, HQ1, OwnRc_nil _ _⟩
  case round =>
    obtain ⟨k, a, m, c, hk, rfl, hb, hsz, hz, hq, ho⟩ := hrel
    by_cases hlt : k < ts.length
    · have i1 : (k : Int) < ts.length := by omega
      obtain ⟨pb, po, rfl, hc⟩ := P3.out k hlt
      have HC := Lib.hid (hc.keep hb.out)
      have HTS := Lib.hid (tkE_succ gp ts k hlt)
      have HTL : Hid ((tkE gp (ts.take k)).length ≤ 32) := by
        have := tkE_len gp (ts.take k)
        rw [List.length_take] at this
        show _ ≤ _
        omega
      have ht := HP.out.t k hlt
      clear hc
      obtain ⟨⟨tx0, ty0, tx1, ty1⟩, he⟩ : ∃ t, rci ts k = t := ⟨_, rfl⟩
      rw [he] at HC ht HTS
      clear he
      dsimp only at ht
      obtain ⟨t1, t2, t3, t4, t5, t6⟩ := ht
      go_upto_region 4 with fail
      refine wp_region_en 2 gmT gmT_ok [⟨pb, po + k * 4, rcCells ⟨tx0, ty0, tx1, ty1⟩⟩] (fun v => v = wr) [] [(19, .ix k 0)] [(20, .agg (rcA ⟨tx0, ty0, tx1, ty1⟩))] 11 20 39 (#[.int .i64 0, .int .i64 0, .int .i64 0, .int .i64 0]) (rcA ⟨tx0, ty0, tx1, ty1⟩) (by kernel_rfl) rfl ⟨_, _, rfl, ⟨rfl, rfl, rfl⟩, rfl, rfl, rfl⟩ (by decide) alloc_Rect (by kernel_rfl) rfl (rc_one _)
        (obsC (fun u hu => by cases hu; exact (rc_range HC.out)) obsN) trivial ?_
      conv => whnf
      refine And.intro (under_of ⟨rfl, hlt, rfl, rfl⟩) ?_
      conv => whnf
      refine And.intro (Nat.le_of_ble_eq_true rfl) ?_
      conv => whnf
      intro f3
      conv => whnf
      refine And.intro (rfl) ?_
      conv => whnf
      refine And.intro ⟨rfl, rfl⟩ ?_
      intro w2 h2
      conv => whnf
      cases h2
      obtain ⟨W3, HT3, HB3', HW3⟩ := newObj wr (rcA ⟨tx0, ty0, tx1, ty1⟩) 39
      obtain ⟨bq, hbq⟩ : ∃ b, wr.heap.size = b := ⟨_, rfl⟩
      have HBQ : Hid (W1.heap.size ≤ bq) := by show _ ≤ _; rw [← hbq]; exact hsz.out
      rw [hbq] at HT3
      rw [HW3.out, hbq]
      have HB3 := Lib.hid (ext_trans hb.out HB3'.out)
      have HZ3 := Lib.hid (hz.out.keep HB3'.out)
      have HQ3 := Lib.hid (hq.out.keep HB3'.out)
      have HO3 := Lib.hid (ho.out.below HB3'.out)
      have HS3 : Hid (W1.heap.size ≤ W3.heap.size) := Nat.le_trans hsz.out HB3'.out.size
      have HNE : Hid ((Value.slice a m c).ownBlock ≠ some bq) := fun e => by have := (OwnRc.lt ho.out _ e).2; omega
      clear hbq HW3 HB3' hb hz hq ho hsz
      have w0 : IntKind.i64.wrap (tx0 - gp) = tx0 - gp := IntWalk.i64_in _ (by omega)
      have w1 : IntKind.i64.wrap (ty0 - gp) = ty0 - gp := IntWalk.i64_in _ (by omega)
      have w2 : IntKind.i64.wrap (tx1 + gp) = tx1 + gp := IntWalk.i64_in _ (by omega)
      have w3 : IntKind.i64.wrap (ty1 + gp) = ty1 + gp := IntWalk.i64_in _ (by omega)
      have r0 := HT3.out.cell 0
      have r1 := HT3.out.cell 1
      have r2 := HT3.out.cell 2
      have r3 := HT3.out.cell 3
      have f0 := HT3.out.frozen 0
      have f1 := HT3.out.frozen 1
      have f2 := HT3.out.frozen 2
      have f3' := HT3.out.frozen 3
      simp only [rcA] at r0 r1 r2 r3
      dsimp at r0 r1 r2 r3
      obtain ⟨W4, HW4⟩ : ∃ W4, Hid ((((W3.setCell ⟨bq, 0, none⟩ (.int .i64 (tx0 - gp))).setCell ⟨bq, 1, none⟩ (.int .i64 (ty0 - gp))).setCell ⟨bq, 2, none⟩ (.int .i64 (tx1 + gp))).setCell ⟨bq, 3, none⟩ (.int .i64 (ty1 + gp)) = W4) := ⟨_, rfl⟩
      have hbn : w.heap.size + 1 < bq := by have := HBQ.out; have := HSZ.out; omega
      have HT4 : Hid (ObjAt W4 bq (rcA (enl gp ⟨tx0, ty0, tx1, ty1⟩)) 39) := by show ObjAt ..; rw [← HW4.out]; exact (((HT3.out.set 0 _).set 1 _).set 2 _).set 3 _
      have HZ4 : Hid (ObjAt W4 w.heap.size #[.int .i64 0, .int .i64 0, .slice none 0 0] 91) := by show ObjAt ..; rw [← HW4.out]; exact (((HZ3.out.other (by omega) 0 _).other (by omega) 1 _).other (by omega) 2 _).other (by omega) 3 _
      have HQ4 : Hid (ObjAt W4 (w.heap.size + 1) #[.int .i64 L, .int .i64 W, .slice a m c] 91) := by show ObjAt ..; rw [← HW4.out]; exact (((HQ3.out.other (by omega) 0 _).other (by omega) 1 _).other (by omega) 2 _).other (by omega) 3 _
      have HB4 : Hid (Below w.heap.size w W4) := by show Below ..; rw [← HW4.out]; exact (((HB3.out.setCell (p := ⟨bq, 0, none⟩) (by show _ ≤ bq; omega) _).setCell (p := ⟨bq, 1, none⟩) (by show _ ≤ bq; omega) _).setCell (p := ⟨bq, 2, none⟩) (by show _ ≤ bq; omega) _).setCell (p := ⟨bq, 3, none⟩) (by show _ ≤ bq; omega) _
      have HS4 : Hid (W1.heap.size ≤ W4.heap.size) := by show _ ≤ _; rw [← HW4.out, size_setCell, size_setCell, size_setCell, size_setCell]; exact HS3.out
      have HO4 : Hid (OwnRc W4 W1.heap.size (.slice a m c) (tkE gp (ts.take k))) := by
        show OwnRc ..
        rw [← HW4.out]
        have hne : (Value.slice a m c).ownBlock ≠ some bq := HNE.out
        exact ownsRow_setCell_other (ownsRow_setCell_other (ownsRow_setCell_other (ownsRow_setCell_other HO3.out hne _) hne _) hne _) hne _
      clear hbn
      go_upto_region 6 with fail
      rw [HW4.out]
      clear r0 r1 r2 r3 f0 f1 f2 f3' w0 w1 w2 w3 HW4 HT3 HZ3 HQ3 HB3 HS3 HO3
      obtain ⟨E, hE⟩ : ∃ E, enl gp ⟨tx0, ty0, tx1, ty1⟩ = E := ⟨_, rfl⟩
      rw [hE] at HT4 HTS
      clear hE
      refine wp_region_et gmT gmT_ok [⟨bq, 0, (rcA E).toList⟩] (Below W4.heap.size W4) [(11, 0)] [] [(64, .bool (rctOK E))] (by kernel_rfl) (Below.refl _ _)
        (obsC (fun u hu => rangeKeep (range_new HT4.out) hu) obsN) ⟨rfl, trivial⟩ ?_
      conv => whnf
      intro f5
      conv => whnf
      refine And.intro (rfl) ?_
      conv => whnf
      intro w5 h5
      have HB5 := Lib.hid (ext_trans HB4.out h5)
      have HZ5 := Lib.hid (HZ4.out.keep h5)
      have HQ5 := Lib.hid (HQ4.out.keep h5)
      have HT5 := Lib.hid (HT4.out.keep h5)
      have HO5 := Lib.hid (HO4.out.below h5)
      have HS5 : Hid (W1.heap.size ≤ w5.heap.size) := Nat.le_trans HS4.out h5.size
      clear h5 HB4 HZ4 HQ4 HT4 HO4 HS4
      obtain ⟨z, hz⟩ : ∃ z, rctOK E = z := ⟨_, rfl⟩
      rw [hz] at HTS ⊢
      clear hz
      cases z
      · have HTF : Hid (tkE gp (ts.take (k + 1)) = tkE gp (ts.take k)) := by have := HTS.out; rw [if_neg (by decide)] at this; exact this
        have HO6 : Hid (OwnRc w5 W1.heap.size (.slice a m c) (tkE gp (ts.take (k + 1)))) := by show OwnRc ..; rw [HTF.out]; exact HO5.out
        go_wp2_with fail
        go_roundw
        case rel => exact ⟨k + 1, a, m, c, by omega, by go_num, HB5, HS5, HZ5, HQ5, HO6⟩
        case measure => simp [intOf]; omega
      · have HTT : Hid (tkE gp (ts.take (k + 1)) = tkE gp (ts.take k) ++ [E]) := by have := HTS.out; rw [if_pos rfl] at this; exact this
        obtain ⟨ex0, ey0, ex1, ey1⟩ := E
        have q2 := HQ5.out.cell 2
        have r0 := HT5.out.cell 0
        have r1 := HT5.out.cell 1
        have r2 := HT5.out.cell 2
        have r3 := HT5.out.cell 3
        simp only [rcA] at r0 r1 r2 r3
        dsimp at q2 r0 r1 r2 r3
        obtain ⟨W6, HN6, HB6, HW6⟩ := newObj w5 (rcA ⟨ex0, ey0, ex1, ey1⟩) 39
        go_wp2_with (at_builtin; rw [show w5.alloc (.cells #[.int .i64 ex0, .int .i64 ey0, .int .i64 ex1, .int .i64 ey1] 39) = W6 from HW6.out]; refine wpList_app_Rc rfl (.tmp 66) (.tmp 68) rfl W1.heap.size (.slice a m c) (tkE gp (ts.take k)) [⟨ex0, ey0, ex1, ey1⟩] rfl (HO5.out.below HB6.out) ⟨w5.heap.size, 0, none⟩ 1 1 rfl (sRc_one (rcC HN6.out)) (by have := HTL.out; simp; omega) (Nat.le_trans HS5.out HB6.out.size) ?_)
        intro v7 w7 ho7 hg7 _
        have HO7 : Hid (OwnRc w7 W1.heap.size v7 (tkE gp (ts.take (k + 1)))) := by show OwnRc ..; rw [HTT.out]; exact ho7
        have hlt7 : ∀ r, (Value.slice a m c).ownBlock = some r → W1.heap.size ≤ r := fun r hr => (OwnRc.lt HO5.out r hr).1
        have HB7 := Lib.hid ((ext_trans HB5.out HB6.out).grown hg7 (ext_trans HB5.out HB6.out).size (fun r hr => by have := hlt7 r hr; have := HSZ.out; omega))
        have HZ7 := Lib.hid ((HZ5.out.keep HB6.out).grown hg7 (fun e => by have := hlt7 _ e; have := HSZ.out; omega))
        have HQ7 := Lib.hid ((HQ5.out.keep HB6.out).grown hg7 (fun e => by have := hlt7 _ e; have := HSZ.out; omega))
        have HS7 : Hid (W1.heap.size ≤ w7.heap.size) := Nat.le_trans (Nat.le_trans HS5.out HB6.out.size) hg7.size
        obtain ⟨a7, c7, rfl, _⟩ := HO7.out.s
        clear ho7 hg7 hlt7 HW6 HN6 q2 r0 r1 r2 r3
        have q2 := HQ7.out.cell 2
        have fz := HQ7.out.frozen 2
        dsimp at q2
        obtain ⟨W8, HW8⟩ : ∃ W8, Hid (w7.setCell ⟨w.heap.size + 1, 2, none⟩ (.slice a7 (tkE gp (ts.take (k + 1))).length c7) = W8) := ⟨_, rfl⟩
        have HQ8 : Hid (ObjAt W8 (w.heap.size + 1) #[.int .i64 L, .int .i64 W, .slice a7 (tkE gp (ts.take (k + 1))).length c7] 91) := by show ObjAt ..; rw [← HW8.out]; exact HQ7.out.set 2 _
        have HZ8 : Hid (ObjAt W8 w.heap.size #[.int .i64 0, .int .i64 0, .slice none 0 0] 91) := by show ObjAt ..; rw [← HW8.out]; exact HZ7.out.other (by omega) 2 _
        have HB8 : Hid (Below w.heap.size w W8) := by show Below ..; rw [← HW8.out]; exact HB7.out.setCell (p := ⟨w.heap.size + 1, 2, none⟩) (by show _ ≤ w.heap.size + 1; omega) _
        have HS8 : Hid (W1.heap.size ≤ W8.heap.size) := by show _ ≤ _; rw [← HW8.out, size_setCell]; exact HS7.out
        have HO8 : Hid (OwnRc W8 W1.heap.size (.slice a7 (tkE gp (ts.take (k + 1))).length c7) (tkE gp (ts.take (k + 1)))) := by
          show OwnRc ..
          rw [← HW8.out]
          exact ownsRow_setCell_below HO7.out (by show w.heap.size + 1 < W1.heap.size; have := HSZ.out; omega) _
        go_upto_region 8 with fail
        rw [HW8.out]
        clear q2 fz HW8
        go_wp2_with fail
        go_roundw
        case rel => exact ⟨k + 1, a7, _, c7, by omega, by go_num, HB8, HS8, HZ8, HQ8, HO8⟩
        case measure => simp [intOf]; omega
    · have i1 : ¬ (k : Int) < ts.length := by omega
      have e : k = ts.length := by omega
      have HO6 : Hid (OwnRc wr w.heap.size (.slice a m c) (tkE gp ts)) := by show OwnRc ..; have := ho.out.mono (show w.heap.size ≤ W1.heap.size by have := HSZ.out; omega); rw [e, List.take_length] at this; exact this
      clear e
      have q0 := hq.out.cell 0
      have q1 := hq.out.cell 1
      have q2 := hq.out.cell 2
      dsimp at q0 q1 q2
      go_wp2_with (refine wpList_store_row (o := ⟨none, .store _ _ _, _, _, _, _⟩) rfl 91 (.tmp 8) (.tmp 72) rfl w.heap.size #[.int .i64 L, .int .i64 W, .slice a m c] rfl rfl 91 _ hz.out info_plate rfl (pl_one _ _ _ _ _) ?_)
      refine bodyPost_ret (results_cell Tryz.results47 rfl (load_plate (setRow_heap _ _ _ #[.int .i64 L, .int .i64 W, .slice a m c] _ _ hz.out))) rfl ?_
      exact ⟨_, rfl, owns_row HO6.out hz.out (by decide) _, below_setRow hb.out (Nat.le_refl _) _⟩
end Go.Proofs.YtfmhickjefogdaaGreat
