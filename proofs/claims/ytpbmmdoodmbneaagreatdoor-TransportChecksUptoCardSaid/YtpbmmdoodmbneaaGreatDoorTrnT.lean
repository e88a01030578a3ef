/- Contract: trip of transport. -/
import Derived.Test.YtpbmmdoodmbneaaGreatDoorTrnL
import Derived.BigRegion
import Derived.Deep.DeepCutAuto
namespace Go.Proofs.YtpbmmdoodmbneaaGreatDoor
open Go.RowKit

theorem findG_cases {α : Type} [Inhabited α] (p : α → Bool) (xs : List α) : (findG p xs = -1 ∧ xs.find? p = none) ∨ ∃ i : Nat, i < xs.length ∧ findG p xs = i ∧ xs.find? p = some (xs.getD i default) := by
  unfold findG
  cases h : xs.findIdx? p with
  | none =>
    refine .inl ⟨rfl, ?_⟩
    rw [List.findIdx?_eq_none_iff] at h
    rw [List.find?_eq_none]
    intro x hx; simp [h x hx]
  | some i =>
    rw [List.findIdx?_eq_some_iff_getElem] at h
    obtain ⟨h1, h2, h3⟩ := h
    refine .inr ⟨i, h1, rfl, ?_⟩
    rw [List.find?_eq_some_iff_getElem]
    have e : xs.getD i default = xs[i] := by simp [h1]
    rw [e]
    exact ⟨h2, i, h1, rfl, fun j hj => by have := h3 j hj; simpa using this⟩
theorem ne_ints {o : Oper} {a : Act} {w : World} {K : Act → World → Prop} {Q : Exit → Act → World → Prop} (x y : Operand) (ho : o.op = .binOp .neq 3 x y 3) (p q : Int) (hx : a.eval x = .int .i64 p) (hy : a.eval y = .int .i64 q)
    (h : K (a.put o.dst (.bool (p != q))) w) : o.wp Tryz.prog a w K Q := by
  unfold Oper.wp execOp
  simp only [ho]
  generalize a.eval = ev at *
  go_simp
  exact h
def tpd (i : Nat) : Nat := if i = 13 then 53 else i + 54
def tpV (x : Trp) (t : Trk) (m : Mov) (hq : Int) (dv : Value) (X M : Nat) : Nat → Value
  | 0 => .pointer (some ⟨X, 3, none⟩)
  | 1 => .int .i64 x.fin
  | 2 => .pointer (some ⟨X, 2, none⟩)
  | 3 => .int .i64 x.start
  | 4 => .agg #[.string (bs t.name), .int .i64 t.load, .int .i64 t.hours]
  | 5 => dv
  | 6 => .pointer (some ⟨M, 1, none⟩)
  | 7 => .int .i64 m.frm
  | 8 => .pointer (some ⟨M, 2, none⟩)
  | 9 => .int .i64 m.to
  | 10 => .int .i64 hq
  | 11 => .int .i64 (x.start + hq)
  | _ => .bool (x.fin != x.start + hq)

set_option maxHeartbeats 4000000 in
set_option maxRecDepth 100000 in
theorem trip_any (mv v dv bv : Value) (ms : List Mov) (tr : List Trk) (d : List (List Int)) (bef : List Trp) (x : Trp) (w : World) (hm : SM w mv ms) (h : SK w v tr) (hd : SS w dv d) (hbf : SX w bv bef) (hok : inE ms tr d = 0) :
    Calls Tryz.prog 16 #[mv, v, dv, bv, .agg #[.string (bs x.item), .string (bs x.truck), .int .i64 x.start, .int .i64 x.fin]] w (Ret w (.int .i64 (oneE ms tr d bef x))) := by
  obtain ⟨hY, hMO⟩ := inE_ok hok
  have HYD := Lib.hid hY
  have HMO := Lib.hid hMO
  have HM := Lib.hid hm
  have HK := Lib.hid h
  have HD := Lib.hid hd
  have HX := Lib.hid hbf
  obtain ⟨ma, mc, rfl, mn, mm, _⟩ := hm
  obtain ⟨ka, kc, rfl, kn, km, _⟩ := h
  obtain ⟨da, dc, rfl, dn, dm, _⟩ := hd.open
  obtain ⟨xa, xc, rfl, xn, xm, _⟩ := hbf
  clear hd hok hY hMO
  have HOE : Hid (oneE ms tr d bef x = match ms.find? (fun m => m.item == x.item) with
    | none => 8
    | some m => if (bef.any fun b => b.item == x.item) = true then 7 else
      match tr.find? (fun t => t.name == x.truck) with
      | none => 8
      | some t => if t.load < m.mass then 25 else if x.start < m.ready ∨ 1099511627776 < x.start then 15 else if x.fin ≠ x.start + hoursV t d m.frm m.to then 17 else 0) := rfl
  obtain ⟨W, hW⟩ : ∃ W, W = w.alloc (.cells #[.string (bs x.item), .string (bs x.truck), .int .i64 x.start, .int .i64 x.fin] 43) := ⟨_, rfl⟩
  obtain ⟨X, hX⟩ : ∃ X, X = w.heap.size := ⟨_, rfl⟩
  have HBW : Hid (Below w.heap.size w W) := by show Below _ _ _; rw [hW]; exact (Below.refl _ _).alloc (Nat.le_refl _) _
  have hx0 : XAt W X 0 x := by rw [hW, hX]; exact ⟨by simp, by simp, by simp, by simp⟩
  have hXlt : X < W.heap.size := by rw [hW, hX]; simp
  have y0 : W.cell? ⟨X, 0, none⟩ = some (.string (bs x.item)) := hx0.c0
  have y1 : W.cell? ⟨X, 1, none⟩ = some (.string (bs x.truck)) := hx0.c1
  have y2 : W.cell? ⟨X, 2, none⟩ = some (.int .i64 x.start) := hx0.c2
  have y3 : W.cell? ⟨X, 3, none⟩ = some (.int .i64 x.fin) := hx0.c3
  go_enter Tryz.func16, Tryz.ntmps16
  go_wp2_with fail
  rw [← hW, ← hX]
  clear hW hX
  refine (find_M _ x.item ms W (HM.out.keep HBW.out)).mono ?_
  rintro e w1 ⟨rfl, hb1⟩
  have HB1 := Lib.hid hb1
  have z0 := cell_keep hb1 y0
  have z1 := cell_keep hb1 y1
  have z2 := cell_keep hb1 y2
  have z3 := cell_keep hb1 y3
  clear hb1 y0 y1 y2 y3
  rcases findG_cases (fun m : Mov => m.item == x.item) ms with ⟨e1, e2⟩ | ⟨i, hi, e1, e2⟩
  · have HR : Hid (oneE ms tr d bef x = 8) := by show _ = _; rw [HOE.out, e2]
    rw [e1]
    clear e1 e2
    go_wp2_with fail
    go_ret
    exact ⟨ret_int HR.out.symm, ext_trans HBW.out HB1.out⟩
  rw [e1]
  have HF1 := Lib.hid e2
  clear e1 e2
  have i0 : ¬ (i : Int) < 0 := by omega
  go_wp2_with fail
  refine (find_X _ x.item bef w1 (HX.out.keep (ext_trans HBW.out HB1.out))).mono ?_
  rintro e w2 ⟨rfl, hb2⟩
  have HB2 := Lib.hid (ext_trans HB1.out hb2)
  have a0 := cell_keep hb2 z0
  have a1 := cell_keep hb2 z1
  have a2 := cell_keep hb2 z2
  have a3 := cell_keep hb2 z3
  clear hb2 z0 z1 z2 z3
  have hfa := findG_any (fun b : Trp => b.item == x.item) bef
  cases hq : (bef.any fun b => b.item == x.item)
  case true =>
    have HR : Hid (oneE ms tr d bef x = 7) := by show _ = _; rw [HOE.out, HF1.out, hq]; rfl
    rw [hq, decide_eq_true_eq] at hfa
    clear hq
    go_wp2_with fail
    go_ret
    exact ⟨ret_int HR.out.symm, ext_trans HBW.out HB2.out⟩
  have HQ := Lib.hid hq
  rw [hq, decide_eq_false_iff_not] at hfa
  clear hq
  go_wp2_with fail
  refine (find_K _ x.truck tr w2 (HK.out.keep (ext_trans HBW.out HB2.out))).mono ?_
  rintro e w3 ⟨rfl, hb3⟩
  have HB3 := Lib.hid (ext_trans HB2.out hb3)
  have z0 := cell_keep hb3 a0
  have z1 := cell_keep hb3 a1
  have z2 := cell_keep hb3 a2
  have z3 := cell_keep hb3 a3
  clear hb3 a0 a1 a2 a3 hfa
  rcases findG_cases (fun t : Trk => t.name == x.truck) tr with ⟨e1, e2⟩ | ⟨k, hk, e1, e2⟩
  · have HR : Hid (oneE ms tr d bef x = 8) := by show _ = _; rw [HOE.out, HF1.out, HQ.out, e2]; rfl
    rw [e1]
    clear e1 e2
    go_wp2_with fail
    go_ret
    exact ⟨ret_int HR.out.symm, ext_trans HBW.out HB3.out⟩
  rw [e1]
  have HF2 := Lib.hid e2
  clear e1 e2
  have k0 : ¬ (k : Int) < 0 := by omega
  have HB3w := Lib.hid (ext_trans HBW.out HB3.out)
  obtain ⟨b, off, ha, hc⟩ := (HM.out.keep HB3w.out).at hi
  subst ha
  obtain ⟨b', off', ha', hc'⟩ := (HK.out.keep HB3w.out).at hk
  subst ha'
  have hrg := HMO.out.rg _ (mvi_mem hi)
  have hmem := tki_mem hk
  have hhr := hours_range HYD.out hmem (mvi ms i).frm (mvi ms i).to
  have HO2 : Hid (oneE ms tr d bef x = if (tki tr k).load < (mvi ms i).mass then 25 else if x.start < (mvi ms i).ready ∨ 1099511627776 < x.start then 15 else if x.fin ≠ x.start + hoursV (tki tr k) d (mvi ms i).frm (mvi ms i).to then 17 else 0) := by
    show _ = _; rw [HOE.out, HF1.out, HQ.out, HF2.out]; rfl
  clear HOE HF1 HF2 HQ hmem
  generalize mvi ms i = m at *
  generalize tki tr k = t at *
  obtain ⟨hq, hhq⟩ : ∃ hq, hoursV t d m.frm m.to = hq := ⟨_, rfl⟩
  have HHV := Lib.hid hhq
  rw [hhq] at hhr HO2
  clear hhq
  obtain ⟨m0, m1, m2, m3, m4⟩ := hc
  obtain ⟨t0, t1, t2⟩ := hc'
  have i1 : (i : Int) < ms.length := by omega
  have i2 : (i : Int) < mc := by omega
  have k1 : (k : Int) < tr.length := by omega
  have k2 : (k : Int) < kc := by omega
  have hX3 : X < w3.heap.size := Nat.lt_of_lt_of_le hXlt HB3.out.size
  have hbm : b < w3.heap.size := World.block_lt_of_cell? w3 _ m0
  have hbk : b' < w3.heap.size := World.block_lt_of_cell? w3 _ t0
  have HX3 : Hid (XAt w3 X 0 x) := ⟨z0, z1, z2, z3⟩
  clear z0 z1 z2 z3
  go_wp2_with fail
  go_cut [13, 14] (fun s13 s14 wx => ∃ M K : Nat, s13 = .pointer (some ⟨M, 0, none⟩) ∧ s14 = .pointer (some ⟨K, 0, none⟩) ∧ Below w3.heap.size w3 wx ∧ MAt wx M 0 m ∧ KAt wx K 0 t)
  case first =>
    go_region
    all_goals
      go_wp2_with fail
      go_meet
      exact ⟨_, _, rfl, rfl, (((Below.refl _ _).alloc (Nat.le_refl _) _).alloc (by simp) _).drew, ⟨by simp, by simp, by simp, by simp, by simp⟩, ⟨by simp, by simp, by simp⟩⟩
  case rest =>
    obtain ⟨M, K, rfl, rfl, hb, hM, hK⟩ := hcut
    have HBc := Lib.hid (ext_trans HB3w.out hb)
    have hXc := HX3.out.keep hb
    have n0 : wc.cell? ⟨M, 0, none⟩ = some (.string (bs m.item)) := hM.c0
    have n1 : wc.cell? ⟨M, 1, none⟩ = some (.int .i64 m.frm) := hM.c1
    have n2 : wc.cell? ⟨M, 2, none⟩ = some (.int .i64 m.to) := hM.c2
    have n3 : wc.cell? ⟨M, 3, none⟩ = some (.int .i64 m.ready) := hM.c3
    have n4 : wc.cell? ⟨M, 4, none⟩ = some (.int .i64 m.mass) := hM.c4
    have r1 : wc.cell? ⟨K, 1, none⟩ = some (.int .i64 t.load) := hK.c1
    have x2 : wc.cell? ⟨X, 2, none⟩ = some (.int .i64 x.start) := hXc.c2
    clear m0 m1 m2 m3 m4 t0 t1 t2 hb
    by_cases hld : t.load < m.mass
    · have HR : Hid (oneE ms tr d bef x = 25) := by show _ = _; rw [HO2.out, if_pos hld]
      go_wp2_with fail
      go_ret
      exact ⟨ret_int HR.out.symm, HBc.out⟩
    have HO3 : Hid (oneE ms tr d bef x = if x.start < m.ready ∨ 1099511627776 < x.start then 15 else if x.fin ≠ x.start + hq then 17 else 0) := by show _ = _; rw [HO2.out, if_neg hld]
    clear HO2
    cases hbt : btw x.start m.ready 1099511627776
    · have HR : Hid (oneE ms tr d bef x = 15) := by
        rw [btw_no] at hbt; show _ = _; rw [HO3.out, if_pos hbt]
      go_wp2_with fail
      refine (between_any _ _ _ _).mono ?_
      rintro e w5 ⟨rfl, rfl⟩
      go_wp2_with fail
      go_ret
      exact ⟨ret_int HR.out.symm, HBc.out⟩
    have hbt2 := (btw_yes _ _ _).1 hbt
    have HO4 : Hid (oneE ms tr d bef x = if x.fin ≠ x.start + hq then 17 else 0) := by show _ = _; rw [HO3.out, if_neg (by omega)]
    clear HO3
    go_wp2_with fail
    refine (between_any _ _ _ _).mono ?_
    rintro e w5 ⟨rfl, rfl⟩
    go_wp2_with fail
    clear hbt
    refine wp_name fun a0 ha0 => ?_
    have z9 : a0.eval (.tmp 9) = .pointer (some ⟨X, 0, none⟩) := by rw [ha0]; rfl
    have z14 : a0.eval (.tmp 14) = .pointer (some ⟨K, 0, none⟩) := by rw [ha0]; rfl
    have z13 : a0.eval (.tmp 13) = .pointer (some ⟨M, 0, none⟩) := by rw [ha0]; rfl
    have z2 : a0.eval (.tmp 2) = .slice da d.length dc := by rw [ha0]; rfl
    refine wp_region_ip tpd (fun i v _ => v = tpV x t m hq (.slice da d.length dc) X M i) (fun w' => Below w5.heap.size w5 w') mixed (by kernel_rfl) (by rw [ha0]; rfl) (by kernel_rfl) (Below.refl _ _).drew (fun i v w w' h _ => h) ?_ ?_
    · rintro i op a w7 hop hdep hsm hb K' hK'
      have hi : i < 14 := (Array.getElem?_eq_some_iff.1 hop).1
      have q9 := (hsm.eval (m := 9) (by decide)).trans z9
      have q14 := (hsm.eval (m := 14) (by decide)).trans z14
      have q13 := (hsm.eval (m := 13) (by decide)).trans z13
      have q2 := (hsm.eval (m := 2) (by decide)).trans z2
      have kx := hXc.keep hb
      have kt := hK.keep hb
      have km := hM.keep hb
      have hbw : Below w.heap.size w w7 := ext_trans HBc.out hb
      have dv : ∀ e ∈ op.after, Region.binds .any e = true → a.eval (.tmp (tpd e.on)) = tpV x t m hq (.slice da d.length dc) X M e.on := fun e he hbi => hdep e he hbi
      have hn : ∀ v, v = tpV x t m hq (.slice da d.length dc) X M i → K' (a.put op.dst v) w7 := fun v hv => hK' _ _ hb (Below.refl _ _) hv
      have hcase : i = 0 ∨ i = 1 ∨ i = 2 ∨ i = 3 ∨ i = 4 ∨ i = 5 ∨ i = 6 ∨ i = 7 ∨ i = 8 ∨ i = 9 ∨ i = 10 ∨ i = 11 ∨ i = 12 ∨ i = 13 := by omega
      rcases hcase with h | h | h | h | h | h | h | h | h | h | h | h | h | h <;> subst h <;> have ho' := Option.some.inj hop <;> subst ho'
      · exact fa_trip (.tmp 9) 3 (by omega) rfl X 0 q9 (hn _ (by rw [Nat.zero_add]; rfl))
      · exact vl_load 3 agg_int0 (.tmp 54) rfl _ _ (dv ⟨0, .data⟩ (by simp) rfl) kx.c3 (hn _ rfl)
      · exact fa_trip (.tmp 9) 2 (by omega) rfl X 0 q9 (hn _ (by rw [Nat.zero_add]; rfl))
      · exact vl_load 3 agg_int0 (.tmp 56) rfl _ _ (dv ⟨2, .data⟩ (by simp) rfl) kx.c2 (hn _ rfl)
      · exact ld_truck (.tmp 14) t K 0 rfl q14 kt (hn _ rfl)
      · exact vl_move (.tmp 2) rfl _ q2 (hn _ rfl)
      · exact fa_move (.tmp 13) 1 (by omega) rfl M 0 q13 (hn _ (by rw [Nat.zero_add]; rfl))
      · exact vl_load 3 agg_int0 (.tmp 60) rfl _ _ (dv ⟨6, .data⟩ (by simp) rfl) km.c1 (hn _ rfl)
      · exact fa_move (.tmp 13) 2 (by omega) rfl M 0 q13 (hn _ (by rw [Nat.zero_add]; rfl))
      · exact vl_load 3 agg_int0 (.tmp 62) rfl _ _ (dv ⟨8, .data⟩ (by simp) rfl) km.c2 (hn _ rfl)
      · exact vl_call4 14 _ _ _ _ (.tmp 58) (.tmp 59) (.tmp 61) (.tmp 63) rfl enter_Hours _ _ _ _ (dv ⟨4, .data⟩ (by simp) rfl) (dv ⟨5, .data⟩ (by simp) rfl) (dv ⟨7, .data⟩ (by simp) rfl) (dv ⟨9, .data⟩ (by simp) rfl) ((Hours_any t _ d m.frm m.to _ (HD.out.keep hbw)).mono fun e w8 ⟨he, hb8⟩ => ⟨_, he, hK' _ _ (ext_trans hb hb8) hb8 (congrArg (Value.int .i64) HHV.out)⟩)
      · exact wp_add1 (.tmp 57) (.tmp 64) rfl _ _ (dv ⟨3, .data⟩ (by simp) rfl) (dv ⟨10, .data⟩ (by simp) rfl) (by omega) (hn _ rfl)
      · exact ne_ints (.tmp 55) (.tmp 65) rfl _ _ (dv ⟨1, .data⟩ (by simp) rfl) (dv ⟨11, .data⟩ (by simp) rfl) (hn _ rfl)
      · exact vl_assign (.tmp 66) rfl _ (dv ⟨12, .data⟩ (by simp) rfl) (hn _ rfl)
    · rintro a w7 hsm hb hv
      have v53 : a.eval (.tmp 53) = .bool (x.fin != x.start + hq) := hv 13 (by decide)
      have hsm' : Sm [54, 55, 56, 57, 58, 59, 60, 61, 62, 63, 64, 65, 66, 53] a0 a := hsm
      have HA := hsm'.lit
      simp only [List.foldl] at HA
      rw [v53] at HA
      generalize a.eval (.tmp 54) = t54 at HA
      generalize a.eval (.tmp 55) = t55 at HA
      generalize a.eval (.tmp 56) = t56 at HA
      generalize a.eval (.tmp 57) = t57 at HA
      generalize a.eval (.tmp 58) = t58 at HA
      generalize a.eval (.tmp 59) = t59 at HA
      generalize a.eval (.tmp 60) = t60 at HA
      generalize a.eval (.tmp 61) = t61 at HA
      generalize a.eval (.tmp 62) = t62 at HA
      generalize a.eval (.tmp 63) = t63 at HA
      generalize a.eval (.tmp 64) = t64 at HA
      generalize a.eval (.tmp 65) = t65 at HA
      generalize a.eval (.tmp 66) = t66 at HA
      rw [HA, ha0]
      simp only [Act.put, List.setIfInBounds_toArray, List.set_cons_zero, List.set_cons_succ]
      clear HA hsm hsm' hv v53 ha0 z9 z14 z13 z2
      have HB7 := Lib.hid (ext_trans HBc.out hb)
      by_cases hf : x.fin = x.start + hq
      · have HR : Hid (oneE ms tr d bef x = 0) := by show _ = _; rw [HO4.out, if_neg (by simpa using hf)]
        have hfb : (x.fin != x.start + hq) = false := by simpa using hf
        clear hf
        go_wp2_with fail
        go_ret
        exact ⟨ret_int HR.out.symm, HB7.out⟩
      · have HR : Hid (oneE ms tr d bef x = 17) := by show _ = _; rw [HO4.out, if_pos hf]
        have hfb : (x.fin != x.start + hq) = true := by simpa using hf
        clear hf
        go_wp2_with fail
        go_ret
        exact ⟨ret_int HR.out.symm, HB7.out⟩
end Go.Proofs.YtpbmmdoodmbneaaGreatDoor
