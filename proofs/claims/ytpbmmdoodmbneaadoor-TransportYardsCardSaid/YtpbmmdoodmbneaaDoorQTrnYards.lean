/- The law TransportYards. -/
import Derived.Test.YtpbmmdoodmbneaaDoorTrnG
namespace Go.Proofs.YtpbmmdoodmbneaaDoor
open Go.RowKit

def yrd (i : Nat) : Nat := if i = 29 then 6 else i + 21
def yrV (kv dv : Value) (t : Trk) (B : Nat) (E H f u : Int) : Nat → Value
  | 0 => .pointer (some ⟨B, 0, none⟩)
  | 1 => kv
  | 2 => .pointer (some ⟨B, 1, none⟩)
  | 3 => dv
  | 4 => .int .i64 E
  | 5 => .pointer (some ⟨B, 0, none⟩)
  | 6 => kv
  | 7 => .pointer (some ⟨B, 1, none⟩)
  | 8 => dv
  | 9 => .int .i64 E
  | 10 => .bool true
  | 11 => .bool true
  | 12 => .agg #[.string (bs t.name), .int .i64 t.load, .int .i64 t.hours]
  | 13 => .pointer (some ⟨B, 1, none⟩)
  | 14 => dv
  | 15 => .int .i64 f
  | 16 => .int .i64 u
  | 17 => .int .i64 H
  | 18 => .agg #[.string (bs t.name), .int .i64 t.load, .int .i64 t.hours]
  | 19 => .pointer (some ⟨B, 1, none⟩)
  | 20 => dv
  | 21 => .int .i64 f
  | 22 => .int .i64 u
  | 23 => .int .i64 H
  | 24 => .bool true
  | 25 => .bool true
  | 26 => .bool true
  | 27 => .bool true
  | 28 => .bool true
  | 29 => .bool true
  | _ => undef
theorem enter_CheckYard : ∀ args w, (callFunc 11 args).run Tryd.prog w = .ok (.enter 11 args) w := enters_of Tryd.func11 (by kernel_rfl) rfl
theorem enter_rCheckYard : ∀ args w, (callFunc 12 args).run Tryd.prog w = .ok (.enter 12 args) w := enters_of Tryd.func12 (by kernel_rfl) rfl
theorem enter_rHours : ∀ args w, (callFunc 14 args).run Tryd.prog w = .ok (.enter 14 args) w := enters_of Tryd.func14 (by kernel_rfl) rfl
theorem enter_awake : ∀ args w, (callFunc 10 args).run Tryd.prog w = .ok (.enter 10 args) w := enters_of Tryd.func10 (by kernel_rfl) rfl
set_option maxHeartbeats 4000000 in
set_option maxRecDepth 100000 in
theorem Yards_any (v dv mv : Value) (ms : List Mov) (tr : List Trk) (d : List (List Int)) (f u : Int) (w : World) (hm : SM w mv ms) (hk : SK w v tr) (hd : SS w dv d) (hz : ∀ t ∈ tr, t.name.length ≤ maxLen) (hzm : ∀ m ∈ ms, m.item.length ≤ maxLen) (hM : MLen w) :
    Calls Tryd.prog 3 #[.agg #[v, dv, mv], .int .i64 f, .int .i64 u] w (Ret w (.bool true)) := by
  have HL := Lib.hid (LT.of hm hk hd hz hzm hM)
  have HRC : Hid (∀ W, Below w.heap.size w W → Calls Tryd.prog 12 #[v, dv] W (Ret W (.int .i64 (yardE tr d)))) := Lib.hid fun W hW => rCheckYard_any v dv tr d W (hk.keep hW) (hd.keep hW) hz
  have HRH : Hid (∀ (t : Trk) W, Below w.heap.size w W → Calls Tryd.prog 14 #[.agg #[.string (bs t.name), .int .i64 t.load, .int .i64 t.hours], dv, .int .i64 f, .int .i64 u] W (Ret W (.int .i64 (hoursV t d f u)))) := Lib.hid fun t W hW => rHours_any t dv d f u W (hd.keep hW)
  obtain ⟨ma, mc, rfl, mn, mm, _⟩ := hm
  obtain ⟨ka, kc, rfl, kn, km, k3⟩ := hk
  obtain ⟨da, dc, rfl, _⟩ := hd.open
  have K3 := Lib.hid k3
  unfold maxLen at km
  clear hd hz hzm hM mn mm k3
  have HB0 := Lib.hid (Yb.start w (.slice ka tr.length kc) (.slice da d.length dc) (.slice ma ms.length mc) 26)
  have q0 := HB0.out.q0
  have q1 := HB0.out.q1
  have q2 := HB0.out.q2
  go_enter Tryd.func3, Tryd.ntmps3
  go_wp2_with fail
  refine (HL.out.lt 300 (by omega) _ HB0.out.hb).mono ?_
  rintro e w1 ⟨rfl, hb⟩
  have HB1 := Lib.hid (HB0.out.keep hb)
  clear hb q0 q1 q2
  cases hE : lightB tr d && decide (ms.length ≤ 300)
  · go_wp2_with fail
    refine (HL.out.aw _ HB1.out.hb).mono ?_
    rintro e w2 ⟨rfl, hb⟩
    have HB2 := Lib.hid (HB1.out.keep hb)
    clear hb
    go_wp2_with fail
    go_ret
    exact ⟨rfl, HB2.out.hb⟩
  have q0 := HB1.out.q0
  have q1 := HB1.out.q1
  have q2 := HB1.out.q2
  have qs := HB1.out.qs
  by_cases h0 : tr.length = 0
  · have i1 : decide ((0 : Int) < tr.length) = false := by rw [decide_eq_false_iff_not]; omega
    go_wp2_with fail
    obtain ⟨W2, hW2⟩ : ∃ W2, W2 = w1.alloc (.cells #[.string (bs (⟨[], 0, 0⟩ : Trk).name), .int .i64 (⟨[], 0, 0⟩ : Trk).load, .int .i64 (⟨[], 0, 0⟩ : Trk).hours] 30) := ⟨_, rfl⟩
    have hT : KAt W2 w1.heap.size 0 (⟨[], 0, 0⟩ : Trk) := by rw [hW2]; exact ⟨cell_new rfl rfl, cell_new rfl rfl, cell_new rfl rfl⟩
    have HB2 : Hid (Yb w (.slice ka tr.length kc) (.slice da d.length dc) (.slice ma ms.length mc) W2) := by show Yb _ _ _ _ _; rw [hW2]; exact HB1.out.alloc _
    refine wp_name fun a0 ha0 => ?_
    have z3 : a0.eval (.tmp 3) = .pointer (some ⟨w.heap.size, 0, none⟩) := by rw [ha0]; rfl
    have z7 : a0.eval (.tmp 7) = .pointer (some ⟨w1.heap.size, 0, none⟩) := by rw [ha0]; rfl
    have z1 : a0.eval (.tmp 1) = .int .i64 f := by rw [ha0]; rfl
    have z2 : a0.eval (.tmp 2) = .int .i64 u := by rw [ha0]; rfl
    refine wp_region_ipg yrd (fun i v _ => v = yrV (.slice ka tr.length kc) (.slice da d.length dc) (⟨[], 0, 0⟩ : Trk) w.heap.size (yardE tr d) (hoursV (⟨[], 0, 0⟩ : Trk) d f u) f u i) (fun w' => Below W2.heap.size W2 w') mixed (by kernel_rfl) (by rw [ha0]; rfl) (by kernel_rfl) (by rw [hW2]; exact (Below.refl _ _).drew) (fun i v w w' h _ => h) ?_ ?_ ?_
    · rintro i op j b v w hop hg rfl
      have hi : i < 30 := (Array.getElem?_eq_some_iff.1 hop).1
      have hcase : i = 0 ∨ i = 1 ∨ i = 2 ∨ i = 3 ∨ i = 4 ∨ i = 5 ∨ i = 6 ∨ i = 7 ∨ i = 8 ∨ i = 9 ∨ i = 10 ∨ i = 11 ∨ i = 12 ∨ i = 13 ∨ i = 14 ∨ i = 15 ∨ i = 16 ∨ i = 17 ∨ i = 18 ∨ i = 19 ∨ i = 20 ∨ i = 21 ∨ i = 22 ∨ i = 23 ∨ i = 24 ∨ i = 25 ∨ i = 26 ∨ i = 27 ∨ i = 28 ∨ i = 29 := by omega
      rcases hcase with h | h | h | h | h | h | h | h | h | h | h | h | h | h | h | h | h | h | h | h | h | h | h | h | h | h | h | h | h | h <;> subst h <;> have ho' := Option.some.inj hop <;> subst ho' <;> first | (cases hg; done) | (cases hg; rfl)
    · rintro i op a w7 hop hdep hsm hb K' hK'
      have hi : i < 30 := (Array.getElem?_eq_some_iff.1 hop).1
      have q3 := (hsm.eval (m := 3) (by decide)).trans z3
      have q7 := (hsm.eval (m := 7) (by decide)).trans z7
      have q1 := (hsm.eval (m := 1) (by decide)).trans z1
      have q2 := (hsm.eval (m := 2) (by decide)).trans z2
      have kT := hT.keep hb
      have kB := HB2.out.keep hb
      have dv : ∀ e ∈ op.after, Region.binds .any e = true → a.eval (.tmp (yrd e.on)) = yrV (.slice ka tr.length kc) (.slice da d.length dc) (⟨[], 0, 0⟩ : Trk) w.heap.size (yardE tr d) (hoursV (⟨[], 0, 0⟩ : Trk) d f u) f u e.on := fun e he hbi => hdep e he hbi
      have hn : ∀ v, v = yrV (.slice ka tr.length kc) (.slice da d.length dc) (⟨[], 0, 0⟩ : Trk) w.heap.size (yardE tr d) (hoursV (⟨[], 0, 0⟩ : Trk) d f u) f u i → K' (a.put op.dst v) w7 := fun v hv => hK' _ _ hb (Below.refl _ _) hv
      have hcase : i = 0 ∨ i = 1 ∨ i = 2 ∨ i = 3 ∨ i = 4 ∨ i = 5 ∨ i = 6 ∨ i = 7 ∨ i = 8 ∨ i = 9 ∨ i = 10 ∨ i = 11 ∨ i = 12 ∨ i = 13 ∨ i = 14 ∨ i = 15 ∨ i = 16 ∨ i = 17 ∨ i = 18 ∨ i = 19 ∨ i = 20 ∨ i = 21 ∨ i = 22 ∨ i = 23 ∨ i = 24 ∨ i = 25 ∨ i = 26 ∨ i = 27 ∨ i = 28 ∨ i = 29 := by omega
      rcases hcase with h | h | h | h | h | h | h | h | h | h | h | h | h | h | h | h | h | h | h | h | h | h | h | h | h | h | h | h | h | h <;> subst h <;> have ho' := Option.some.inj hop <;> subst ho'
      · exact fa_yard (.tmp 3) 0 (by omega) rfl w.heap.size 0 q3 (hn _ (by rw [Nat.zero_add]; rfl))
      · exact vl_load 22 agg_Trucks (.tmp 21) rfl _ _ (dv ⟨0, .data⟩ (by simp) rfl) kB.q0 (hn _ rfl)
      · exact fa_yard (.tmp 3) 1 (by omega) rfl w.heap.size 0 q3 (hn _ (by rw [Nat.zero_add]; rfl))
      · exact vl_load 23 agg_rows (.tmp 23) rfl _ _ (dv ⟨2, .data⟩ (by simp) rfl) kB.q1 (hn _ rfl)
      · exact vl_call2 11 _ _ (.tmp 22) (.tmp 24) rfl enter_CheckYard _ _ (dv ⟨1, .data⟩ (by simp) rfl) (dv ⟨3, .data⟩ (by simp) rfl) ((HL.out.cy _ kB.hb).mono fun e w8 ⟨he, hb8⟩ => ⟨_, he, hK' _ _ (ext_trans hb hb8) hb8 rfl⟩)
      · exact fa_yard (.tmp 3) 0 (by omega) rfl w.heap.size 0 q3 (hn _ (by rw [Nat.zero_add]; rfl))
      · exact vl_load 22 agg_Trucks (.tmp 26) rfl _ _ (dv ⟨5, .data⟩ (by simp) rfl) kB.q0 (hn _ rfl)
      · exact fa_yard (.tmp 3) 1 (by omega) rfl w.heap.size 0 q3 (hn _ (by rw [Nat.zero_add]; rfl))
      · exact vl_load 23 agg_rows (.tmp 28) rfl _ _ (dv ⟨7, .data⟩ (by simp) rfl) kB.q1 (hn _ rfl)
      · exact vl_call2 12 _ _ (.tmp 27) (.tmp 29) rfl enter_rCheckYard _ _ (dv ⟨6, .data⟩ (by simp) rfl) (dv ⟨8, .data⟩ (by simp) rfl) ((HRC.out _ kB.hb).mono fun e w8 ⟨he, hb8⟩ => ⟨_, he, hK' _ _ (ext_trans hb hb8) hb8 rfl⟩)
      · exact eq_ints _ _ Tryd.underlying31 (.tmp 25) (.tmp 30) rfl _ _ (dv ⟨4, .data⟩ (by simp) rfl) (dv ⟨9, .data⟩ (by simp) rfl) (hn _ (by simp; rfl))
      · exact vl_move (.tmp 31) rfl _ (dv ⟨10, .data⟩ (by simp) rfl) (hn _ rfl)
      · exact ld_truck (.tmp 7) (⟨[], 0, 0⟩ : Trk) w1.heap.size 0 rfl q7 kT (hn _ rfl)
      · exact fa_yard (.tmp 3) 1 (by omega) rfl w.heap.size 0 q3 (hn _ (by rw [Nat.zero_add]; rfl))
      · exact vl_load 23 agg_rows (.tmp 34) rfl _ _ (dv ⟨13, .data⟩ (by simp) rfl) kB.q1 (hn _ rfl)
      · exact vl_move (.tmp 1) rfl _ q1 (hn _ rfl)
      · exact vl_move (.tmp 2) rfl _ q2 (hn _ rfl)
      · exact vl_call4 13 _ _ _ _ (.tmp 33) (.tmp 35) (.tmp 36) (.tmp 37) rfl enter_Hours _ _ _ _ (dv ⟨12, .data⟩ (by simp) rfl) (dv ⟨14, .data⟩ (by simp) rfl) (dv ⟨15, .data⟩ (by simp) rfl) (dv ⟨16, .data⟩ (by simp) rfl) ((HL.out.ho (⟨[], 0, 0⟩ : Trk) f u _ kB.hb).mono fun e w8 ⟨he, hb8⟩ => ⟨_, he, hK' _ _ (ext_trans hb hb8) hb8 rfl⟩)
      · exact ld_truck (.tmp 7) (⟨[], 0, 0⟩ : Trk) w1.heap.size 0 rfl q7 kT (hn _ rfl)
      · exact fa_yard (.tmp 3) 1 (by omega) rfl w.heap.size 0 q3 (hn _ (by rw [Nat.zero_add]; rfl))
      · exact vl_load 23 agg_rows (.tmp 40) rfl _ _ (dv ⟨19, .data⟩ (by simp) rfl) kB.q1 (hn _ rfl)
      · exact vl_move (.tmp 1) rfl _ q1 (hn _ rfl)
      · exact vl_move (.tmp 2) rfl _ q2 (hn _ rfl)
      · exact vl_call4 14 _ _ _ _ (.tmp 39) (.tmp 41) (.tmp 42) (.tmp 43) rfl enter_rHours _ _ _ _ (dv ⟨18, .data⟩ (by simp) rfl) (dv ⟨20, .data⟩ (by simp) rfl) (dv ⟨21, .data⟩ (by simp) rfl) (dv ⟨22, .data⟩ (by simp) rfl) ((HRH.out (⟨[], 0, 0⟩ : Trk) _ kB.hb).mono fun e w8 ⟨he, hb8⟩ => ⟨_, he, hK' _ _ (ext_trans hb hb8) hb8 rfl⟩)
      · exact eq_ints _ _ Tryd.underlying3 (.tmp 38) (.tmp 44) rfl _ _ (dv ⟨17, .data⟩ (by simp) rfl) (dv ⟨23, .data⟩ (by simp) rfl) (hn _ (by simp; rfl))
      · exact vl_pick (.tmp 32) (.tmp 45) (.const (.bool false)) rfl true _ _ (dv ⟨11, .data⟩ (by simp) rfl) (dv ⟨24, .data⟩ (by simp) rfl) rfl (hn _ rfl)
      · exact vl_move (.tmp 46) rfl _ (dv ⟨25, .data⟩ (by simp) rfl) (hn _ rfl)
      · exact vl_call0 10 rfl enter_awake ((HL.out.aw _ kB.hb).mono fun e w8 ⟨he, hb8⟩ => ⟨_, he, hK' _ _ (ext_trans hb hb8) hb8 rfl⟩)
      · exact vl_pick (.tmp 47) (.tmp 48) (.const (.bool false)) rfl true _ _ (dv ⟨26, .data⟩ (by simp) rfl) (dv ⟨27, .data⟩ (by simp) rfl) rfl (hn _ rfl)
      · exact vl_assign (.tmp 49) rfl _ (dv ⟨28, .data⟩ (by simp) rfl) (hn _ rfl)
    · rintro a w7 hsm hb hv
      have v6 : a.eval (.tmp 6) = .bool true := hv 29 (by decide)
      have hsm' : Sm [21, 22, 23, 24, 25, 26, 27, 28, 29, 30, 31, 32, 33, 34, 35, 36, 37, 38, 39, 40, 41, 42, 43, 44, 45, 46, 47, 48, 49, 6] a0 a := hsm
      have HA := hsm'.lit
      simp only [List.foldl] at HA
      rw [v6] at HA
      generalize a.eval (.tmp 21) = t21 at HA
      generalize a.eval (.tmp 22) = t22 at HA
      generalize a.eval (.tmp 23) = t23 at HA
      generalize a.eval (.tmp 24) = t24 at HA
      generalize a.eval (.tmp 25) = t25 at HA
      generalize a.eval (.tmp 26) = t26 at HA
      generalize a.eval (.tmp 27) = t27 at HA
      generalize a.eval (.tmp 28) = t28 at HA
      generalize a.eval (.tmp 29) = t29 at HA
      generalize a.eval (.tmp 30) = t30 at HA
      generalize a.eval (.tmp 31) = t31 at HA
      generalize a.eval (.tmp 32) = t32 at HA
      generalize a.eval (.tmp 33) = t33 at HA
      generalize a.eval (.tmp 34) = t34 at HA
      generalize a.eval (.tmp 35) = t35 at HA
      generalize a.eval (.tmp 36) = t36 at HA
      generalize a.eval (.tmp 37) = t37 at HA
      generalize a.eval (.tmp 38) = t38 at HA
      generalize a.eval (.tmp 39) = t39 at HA
      generalize a.eval (.tmp 40) = t40 at HA
      generalize a.eval (.tmp 41) = t41 at HA
      generalize a.eval (.tmp 42) = t42 at HA
      generalize a.eval (.tmp 43) = t43 at HA
      generalize a.eval (.tmp 44) = t44 at HA
      generalize a.eval (.tmp 45) = t45 at HA
      generalize a.eval (.tmp 46) = t46 at HA
      generalize a.eval (.tmp 47) = t47 at HA
      generalize a.eval (.tmp 48) = t48 at HA
      generalize a.eval (.tmp 49) = t49 at HA
      rw [HA, ha0]
      simp only [Act.put, List.setIfInBounds_toArray, List.set_cons_zero, List.set_cons_succ]
      clear HA hsm hsm' hv v6 ha0 z1 z2 z3 z7
      have HB7 := Lib.hid (HB2.out.keep hb)
      go_wp2_with fail
      go_ret
      exact ⟨rfl, HB7.out.hb⟩
  · have i1 : decide ((0 : Int) < tr.length) = true := by rw [decide_eq_true_eq]; omega
    obtain ⟨b, off, rfl, hc⟩ := K3.out 0 (by omega)
    have hc1 : KAt w1 b off (tki tr 0) := by have := hc.keep HB1.out.hb; rwa [Nat.zero_mul, Nat.add_zero] at this
    generalize tki tr 0 = t at *
    have c0 : (w1.alloc (.cells #[.string ⟨#[]⟩, .int .i64 0, .int .i64 0] 30)).cell? ⟨b, off, none⟩ = some (.string (bs t.name)) := cell_old hc1.c0
    have c1 : (w1.alloc (.cells #[.string ⟨#[]⟩, .int .i64 0, .int .i64 0] 30)).cell? ⟨b, off + 1, none⟩ = some (.int .i64 t.load) := cell_old hc1.c1
    have c2 : (w1.alloc (.cells #[.string ⟨#[]⟩, .int .i64 0, .int .i64 0] 30)).cell? ⟨b, off + 2, none⟩ = some (.int .i64 t.hours) := cell_old hc1.c2
    clear hc1 hc
    go_wp2_with fail
    obtain ⟨W2, hW2⟩ : ∃ W2, W2 = w1.alloc (.cells #[.string (bs (t).name), .int .i64 (t).load, .int .i64 (t).hours] 30) := ⟨_, rfl⟩
    have hT : KAt W2 w1.heap.size 0 (t) := by rw [hW2]; exact ⟨cell_new rfl rfl, cell_new rfl rfl, cell_new rfl rfl⟩
    have HB2 : Hid (Yb w (.slice (some ⟨b, off, none⟩) tr.length kc) (.slice da d.length dc) (.slice ma ms.length mc) W2) := by show Yb _ _ _ _ _; rw [hW2]; exact HB1.out.alloc _
    refine wp_name fun a0 ha0 => ?_
    have z3 : a0.eval (.tmp 3) = .pointer (some ⟨w.heap.size, 0, none⟩) := by rw [ha0]; rfl
    have z7 : a0.eval (.tmp 7) = .pointer (some ⟨w1.heap.size, 0, none⟩) := by rw [ha0]; rfl
    have z1 : a0.eval (.tmp 1) = .int .i64 f := by rw [ha0]; rfl
    have z2 : a0.eval (.tmp 2) = .int .i64 u := by rw [ha0]; rfl
    refine wp_region_ipg yrd (fun i v _ => v = yrV (.slice (some ⟨b, off, none⟩) tr.length kc) (.slice da d.length dc) (t) w.heap.size (yardE tr d) (hoursV (t) d f u) f u i) (fun w' => Below W2.heap.size W2 w') mixed (by kernel_rfl) (by rw [ha0]; rfl) (by kernel_rfl) (by rw [hW2]; exact (Below.refl _ _).drew) (fun i v w w' h _ => h) ?_ ?_ ?_
    · rintro i op j b v w hop hg rfl
      have hi : i < 30 := (Array.getElem?_eq_some_iff.1 hop).1
      have hcase : i = 0 ∨ i = 1 ∨ i = 2 ∨ i = 3 ∨ i = 4 ∨ i = 5 ∨ i = 6 ∨ i = 7 ∨ i = 8 ∨ i = 9 ∨ i = 10 ∨ i = 11 ∨ i = 12 ∨ i = 13 ∨ i = 14 ∨ i = 15 ∨ i = 16 ∨ i = 17 ∨ i = 18 ∨ i = 19 ∨ i = 20 ∨ i = 21 ∨ i = 22 ∨ i = 23 ∨ i = 24 ∨ i = 25 ∨ i = 26 ∨ i = 27 ∨ i = 28 ∨ i = 29 := by omega
      rcases hcase with h | h | h | h | h | h | h | h | h | h | h | h | h | h | h | h | h | h | h | h | h | h | h | h | h | h | h | h | h | h <;> subst h <;> have ho' := Option.some.inj hop <;> subst ho' <;> first | (cases hg; done) | (cases hg; rfl)
    · rintro i op a w7 hop hdep hsm hb K' hK'
      have hi : i < 30 := (Array.getElem?_eq_some_iff.1 hop).1
      have q3 := (hsm.eval (m := 3) (by decide)).trans z3
      have q7 := (hsm.eval (m := 7) (by decide)).trans z7
      have q1 := (hsm.eval (m := 1) (by decide)).trans z1
      have q2 := (hsm.eval (m := 2) (by decide)).trans z2
      have kT := hT.keep hb
      have kB := HB2.out.keep hb
      have dv : ∀ e ∈ op.after, Region.binds .any e = true → a.eval (.tmp (yrd e.on)) = yrV (.slice (some ⟨b, off, none⟩) tr.length kc) (.slice da d.length dc) (t) w.heap.size (yardE tr d) (hoursV (t) d f u) f u e.on := fun e he hbi => hdep e he hbi
      have hn : ∀ v, v = yrV (.slice (some ⟨b, off, none⟩) tr.length kc) (.slice da d.length dc) (t) w.heap.size (yardE tr d) (hoursV (t) d f u) f u i → K' (a.put op.dst v) w7 := fun v hv => hK' _ _ hb (Below.refl _ _) hv
      have hcase : i = 0 ∨ i = 1 ∨ i = 2 ∨ i = 3 ∨ i = 4 ∨ i = 5 ∨ i = 6 ∨ i = 7 ∨ i = 8 ∨ i = 9 ∨ i = 10 ∨ i = 11 ∨ i = 12 ∨ i = 13 ∨ i = 14 ∨ i = 15 ∨ i = 16 ∨ i = 17 ∨ i = 18 ∨ i = 19 ∨ i = 20 ∨ i = 21 ∨ i = 22 ∨ i = 23 ∨ i = 24 ∨ i = 25 ∨ i = 26 ∨ i = 27 ∨ i = 28 ∨ i = 29 := by omega
      rcases hcase with h | h | h | h | h | h | h | h | h | h | h | h | h | h | h | h | h | h | h | h | h | h | h | h | h | h | h | h | h | h <;> subst h <;> have ho' := Option.some.inj hop <;> subst ho'
      · exact fa_yard (.tmp 3) 0 (by omega) rfl w.heap.size 0 q3 (hn _ (by rw [Nat.zero_add]; rfl))
      · exact vl_load 22 agg_Trucks (.tmp 21) rfl _ _ (dv ⟨0, .data⟩ (by simp) rfl) kB.q0 (hn _ rfl)
      · exact fa_yard (.tmp 3) 1 (by omega) rfl w.heap.size 0 q3 (hn _ (by rw [Nat.zero_add]; rfl))
      · exact vl_load 23 agg_rows (.tmp 23) rfl _ _ (dv ⟨2, .data⟩ (by simp) rfl) kB.q1 (hn _ rfl)
      · exact vl_call2 11 _ _ (.tmp 22) (.tmp 24) rfl enter_CheckYard _ _ (dv ⟨1, .data⟩ (by simp) rfl) (dv ⟨3, .data⟩ (by simp) rfl) ((HL.out.cy _ kB.hb).mono fun e w8 ⟨he, hb8⟩ => ⟨_, he, hK' _ _ (ext_trans hb hb8) hb8 rfl⟩)
      · exact fa_yard (.tmp 3) 0 (by omega) rfl w.heap.size 0 q3 (hn _ (by rw [Nat.zero_add]; rfl))
      · exact vl_load 22 agg_Trucks (.tmp 26) rfl _ _ (dv ⟨5, .data⟩ (by simp) rfl) kB.q0 (hn _ rfl)
      · exact fa_yard (.tmp 3) 1 (by omega) rfl w.heap.size 0 q3 (hn _ (by rw [Nat.zero_add]; rfl))
      · exact vl_load 23 agg_rows (.tmp 28) rfl _ _ (dv ⟨7, .data⟩ (by simp) rfl) kB.q1 (hn _ rfl)
      · exact vl_call2 12 _ _ (.tmp 27) (.tmp 29) rfl enter_rCheckYard _ _ (dv ⟨6, .data⟩ (by simp) rfl) (dv ⟨8, .data⟩ (by simp) rfl) ((HRC.out _ kB.hb).mono fun e w8 ⟨he, hb8⟩ => ⟨_, he, hK' _ _ (ext_trans hb hb8) hb8 rfl⟩)
      · exact eq_ints _ _ Tryd.underlying31 (.tmp 25) (.tmp 30) rfl _ _ (dv ⟨4, .data⟩ (by simp) rfl) (dv ⟨9, .data⟩ (by simp) rfl) (hn _ (by simp; rfl))
      · exact vl_move (.tmp 31) rfl _ (dv ⟨10, .data⟩ (by simp) rfl) (hn _ rfl)
      · exact ld_truck (.tmp 7) (t) w1.heap.size 0 rfl q7 kT (hn _ rfl)
      · exact fa_yard (.tmp 3) 1 (by omega) rfl w.heap.size 0 q3 (hn _ (by rw [Nat.zero_add]; rfl))
      · exact vl_load 23 agg_rows (.tmp 34) rfl _ _ (dv ⟨13, .data⟩ (by simp) rfl) kB.q1 (hn _ rfl)
      · exact vl_move (.tmp 1) rfl _ q1 (hn _ rfl)
      · exact vl_move (.tmp 2) rfl _ q2 (hn _ rfl)
      · exact vl_call4 13 _ _ _ _ (.tmp 33) (.tmp 35) (.tmp 36) (.tmp 37) rfl enter_Hours _ _ _ _ (dv ⟨12, .data⟩ (by simp) rfl) (dv ⟨14, .data⟩ (by simp) rfl) (dv ⟨15, .data⟩ (by simp) rfl) (dv ⟨16, .data⟩ (by simp) rfl) ((HL.out.ho (t) f u _ kB.hb).mono fun e w8 ⟨he, hb8⟩ => ⟨_, he, hK' _ _ (ext_trans hb hb8) hb8 rfl⟩)
      · exact ld_truck (.tmp 7) (t) w1.heap.size 0 rfl q7 kT (hn _ rfl)
      · exact fa_yard (.tmp 3) 1 (by omega) rfl w.heap.size 0 q3 (hn _ (by rw [Nat.zero_add]; rfl))
      · exact vl_load 23 agg_rows (.tmp 40) rfl _ _ (dv ⟨19, .data⟩ (by simp) rfl) kB.q1 (hn _ rfl)
      · exact vl_move (.tmp 1) rfl _ q1 (hn _ rfl)
      · exact vl_move (.tmp 2) rfl _ q2 (hn _ rfl)
      · exact vl_call4 14 _ _ _ _ (.tmp 39) (.tmp 41) (.tmp 42) (.tmp 43) rfl enter_rHours _ _ _ _ (dv ⟨18, .data⟩ (by simp) rfl) (dv ⟨20, .data⟩ (by simp) rfl) (dv ⟨21, .data⟩ (by simp) rfl) (dv ⟨22, .data⟩ (by simp) rfl) ((HRH.out (t) _ kB.hb).mono fun e w8 ⟨he, hb8⟩ => ⟨_, he, hK' _ _ (ext_trans hb hb8) hb8 rfl⟩)
      · exact eq_ints _ _ Tryd.underlying3 (.tmp 38) (.tmp 44) rfl _ _ (dv ⟨17, .data⟩ (by simp) rfl) (dv ⟨23, .data⟩ (by simp) rfl) (hn _ (by simp; rfl))
      · exact vl_pick (.tmp 32) (.tmp 45) (.const (.bool false)) rfl true _ _ (dv ⟨11, .data⟩ (by simp) rfl) (dv ⟨24, .data⟩ (by simp) rfl) rfl (hn _ rfl)
      · exact vl_move (.tmp 46) rfl _ (dv ⟨25, .data⟩ (by simp) rfl) (hn _ rfl)
      · exact vl_call0 10 rfl enter_awake ((HL.out.aw _ kB.hb).mono fun e w8 ⟨he, hb8⟩ => ⟨_, he, hK' _ _ (ext_trans hb hb8) hb8 rfl⟩)
      · exact vl_pick (.tmp 47) (.tmp 48) (.const (.bool false)) rfl true _ _ (dv ⟨26, .data⟩ (by simp) rfl) (dv ⟨27, .data⟩ (by simp) rfl) rfl (hn _ rfl)
      · exact vl_assign (.tmp 49) rfl _ (dv ⟨28, .data⟩ (by simp) rfl) (hn _ rfl)
    · rintro a w7 hsm hb hv
      have v6 : a.eval (.tmp 6) = .bool true := hv 29 (by decide)
      have hsm' : Sm [21, 22, 23, 24, 25, 26, 27, 28, 29, 30, 31, 32, 33, 34, 35, 36, 37, 38, 39, 40, 41, 42, 43, 44, 45, 46, 47, 48, 49, 6] a0 a := hsm
      have HA := hsm'.lit
      simp only [List.foldl] at HA
      rw [v6] at HA
      generalize a.eval (.tmp 21) = t21 at HA
      generalize a.eval (.tmp 22) = t22 at HA
      generalize a.eval (.tmp 23) = t23 at HA
      generalize a.eval (.tmp 24) = t24 at HA
      generalize a.eval (.tmp 25) = t25 at HA
      generalize a.eval (.tmp 26) = t26 at HA
      generalize a.eval (.tmp 27) = t27 at HA
      generalize a.eval (.tmp 28) = t28 at HA
      generalize a.eval (.tmp 29) = t29 at HA
      generalize a.eval (.tmp 30) = t30 at HA
      generalize a.eval (.tmp 31) = t31 at HA
      generalize a.eval (.tmp 32) = t32 at HA
      generalize a.eval (.tmp 33) = t33 at HA
      generalize a.eval (.tmp 34) = t34 at HA
      generalize a.eval (.tmp 35) = t35 at HA
      generalize a.eval (.tmp 36) = t36 at HA
      generalize a.eval (.tmp 37) = t37 at HA
      generalize a.eval (.tmp 38) = t38 at HA
      generalize a.eval (.tmp 39) = t39 at HA
      generalize a.eval (.tmp 40) = t40 at HA
      generalize a.eval (.tmp 41) = t41 at HA
      generalize a.eval (.tmp 42) = t42 at HA
      generalize a.eval (.tmp 43) = t43 at HA
      generalize a.eval (.tmp 44) = t44 at HA
      generalize a.eval (.tmp 45) = t45 at HA
      generalize a.eval (.tmp 46) = t46 at HA
      generalize a.eval (.tmp 47) = t47 at HA
      generalize a.eval (.tmp 48) = t48 at HA
      generalize a.eval (.tmp 49) = t49 at HA
      rw [HA, ha0]
      simp only [Act.put, List.setIfInBounds_toArray, List.set_cons_zero, List.set_cons_succ]
      clear HA hsm hsm' hv v6 ha0 z1 z2 z3 z7
      have HB7 := Lib.hid (HB2.out.keep hb)
      go_wp2_with fail
      go_ret
      exact ⟨rfl, HB7.out.hb⟩
end Go.Proofs.YtpbmmdoodmbneaaDoor
