/- Contracts: cmp.Compare of numbers and of strings, cmp.Or; the comparison of moves in transport's Plan. -/
import Derived.Test.YtpbmmdoodmbneaaGreatDoorTrnMem
import Derived.Test.YtpbmmdoodmbneaaGreatDoorValP
import Derived.Laws.Cover1
namespace Go.Proofs.YtpbmmdoodmbneaaGreatDoor
open Go.RowKit Go.Sort

/-- w' is w after draws, with new blocks behind it -/
def GR (w w' : World) : Prop := ∃ q os, w' = grow (w.drewN q) os
theorem GR.refl (w : World) : GR w w := ⟨0, #[], by rw [grow_empty]; rfl⟩
theorem GR.drewN {w w' : World} (h : GR w w') (m : Nat) : GR w (w'.drewN m) := by
  obtain ⟨q, os, rfl⟩ := h; exact ⟨q + m, os, by show grow ((w.drewN q).drewN m) os = _; rw [World.drewN_drewN]⟩
theorem GR.drew {w w' : World} (h : GR w w') : GR w w'.drew := h.drewN 1
theorem GR.alloc {w w' : World} (h : GR w w') (o : Obj) : GR w (w'.alloc o) := by
  obtain ⟨q, os, rfl⟩ := h; exact ⟨q, os ++ #[o], by rw [alloc_eq_grow, grow_grow]⟩
theorem GR.trans {a b c : World} (h : GR a b) (k : GR b c) : GR a c := by
  obtain ⟨q, os, rfl⟩ := h; obtain ⟨q', os', rfl⟩ := k
  exact ⟨q + q', os ++ os', by show grow (grow ((a.drewN q).drewN q') os) os' = _; rw [grow_grow, World.drewN_drewN]⟩
theorem GR.below {w w' : World} (h : GR w w') : Below w.heap.size w w' := by obtain ⟨q, os, rfl⟩ := h; exact below_grow _ _ _

theorem less_is (a b : List UInt8) : Op.bytesLess a b = decide (bytesC a b = -1) := by
  unfold bytesC
  induction a generalizing b with
  | nil => cases b <;> rfl
  | cons x a ih =>
    cases b with
    | nil => rfl
    | cons y b =>
      rw [lexI_cons]
      show (decide (x < y) || (x == y && Op.bytesLess a b)) = _
      rw [ih b]
      unfold cB cN
      have e1 : x < y ↔ x.toNat < y.toNat := UInt8.lt_iff_toNat_lt
      have e3 : x = y ↔ x.toNat = y.toNat := UInt8.toNat_inj.symm
      by_cases h1 : x.toNat < y.toNat
      · rw [if_pos h1, if_neg (by decide), decide_eq_true (e1.2 h1)]; rfl
      · have h1' : ¬ x < y := fun h => h1 (e1.1 h)
        by_cases h2 : y.toNat < x.toNat
        · have hne : (x == y) = false := by rw [beq_eq_false_iff_ne]; intro h; have := e3.1 h; omega
          rw [if_neg h1, if_pos h2, if_neg (by decide), decide_eq_false h1', hne]; rfl
        · have he : (x == y) = true := by rw [beq_iff_eq]; exact e3.2 (by omega)
          rw [if_neg h1, if_neg h2, if_pos rfl, decide_eq_false h1', he]; simp
theorem less_lt (a b : List UInt8) : Op.bytesLess a b = decide (bytesC a b < 0) := by
  rw [less_is]
  have := bytesC_ok.rng a b
  rw [Bool.eq_iff_iff, decide_eq_true_eq, decide_eq_true_eq]; omega

theorem isNaN_int (x : Int) (w : World) : Calls Tryz.prog 52 #[.int .i64 x] w fun e w' => e = .returned (.bool false) ∧ w' = w := by
  have hx : (x != x) = false := by simp
  go_enter Tryz.func52, Tryz.ntmps52
  go_wp2_with fail
  go_ret
  exact ⟨rfl, rfl⟩
theorem compare_int (a b : Int) (w : World) : Calls Tryz.prog 31 #[.int .i64 a, .int .i64 b] w fun e w' => e = .returned (.int .i64 (cI a b)) ∧ w' = w := by
  go_enter Tryz.func31, Tryz.ntmps31
  go_wp2_with fail
  refine (isNaN_int a w).mono ?_
  rintro e w1 ⟨rfl, rfl⟩
  go_wp2_with fail
  refine (isNaN_int b _).mono ?_
  rintro e w1 ⟨rfl, rfl⟩
  by_cases h1 : a < b
  · have C : Hid (cI a b = -1) := by show cI a b = -1; unfold cI; rw [if_pos h1]
    go_wp2_with fail
    go_ret
    exact ⟨ret_int C.out.symm, rfl⟩
  · by_cases h2 : b < a
    · have C : Hid (cI a b = 1) := by show cI a b = 1; unfold cI; rw [if_neg h1, if_pos h2]
      go_wp2_with fail
      go_ret
      exact ⟨ret_int C.out.symm, rfl⟩
    · have C : Hid (cI a b = 0) := by show cI a b = 0; unfold cI; rw [if_neg h1, if_neg h2]
      go_wp2_with fail
      go_ret
      exact ⟨ret_int C.out.symm, rfl⟩
theorem isNaN_str (x : ByteArray) (w : World) : Calls Tryz.prog 55 #[.string x] w fun e w' => e = .returned (.bool false) ∧ w' = w := by
  have hx : (!(x.toList == x.toList)) = false := by simp
  go_enter Tryz.func55, Tryz.ntmps55
  go_wp2_with fail
  go_ret
  exact ⟨rfl, rfl⟩
theorem compare_str (a b : List UInt8) (w : World) : Calls Tryz.prog 36 #[.string (bs a), .string (bs b)] w fun e w' => e = .returned (.int .i64 (bytesC a b)) ∧ w' = w := by
  have hr := bytesC_ok.rng a b
  have ha := bytesC_ok.anti a b
  have l1 : Op.bytesLess (bs a).toList (bs b).toList = decide (bytesC a b < 0) := by rw [bs_toList, bs_toList, less_lt]
  have l2 : Op.bytesLess (bs b).toList (bs a).toList = decide (bytesC b a < 0) := by rw [bs_toList, bs_toList, less_lt]
  have HZ : Hid (bytesC a b = 0 → (bs a).toList == (bs b).toList) := fun h => by rw [bs_toList, bs_toList, bytesC_zero h]; simp
  have HN : Hid (bytesC a b ≠ 0 → ((bs a).toList == (bs b).toList) = false) := fun h => by
    rw [bs_toList, bs_toList, beq_eq_false_iff_ne]; intro e; subst e; exact h (bytesC_ok.refl _)
  generalize bytesC a b = c at *
  generalize bytesC b a = c' at *
  subst ha
  go_enter Tryz.func36, Tryz.ntmps36
  go_wp2_with fail
  refine (isNaN_str (bs a) w).mono ?_
  rintro e w1 ⟨rfl, rfl⟩
  go_wp2_with fail
  refine (isNaN_str (bs b) _).mono ?_
  rintro e w1 ⟨rfl, rfl⟩
  rcases hr with rfl | rfl | rfl
  · have d1 : Op.bytesLess (bs a).toList (bs b).toList = true := l1
    clear l1 l2 HZ HN
    go_wp2_with fail
    go_ret
    exact ⟨rfl, rfl⟩
  · have d1 : Op.bytesLess (bs a).toList (bs b).toList = false := l1
    have d2 := HZ.out rfl
    clear l1 l2 HZ HN
    go_wp2_with fail
    go_ret
    exact ⟨rfl, rfl⟩
  · have d1 : Op.bytesLess (bs a).toList (bs b).toList = false := l1
    have d2 := HN.out (by decide)
    clear l1 l2 HZ HN
    go_wp2_with fail
    go_ret
    exact ⟨rfl, rfl⟩
/-- the first of two that is not zero -/
def orV (x y : Int) : Int := if x = 0 then y else x
theorem or_two (x y : Int) (b : Nat) (w : World) (h0 : w.cell? ⟨b, 0, none⟩ = some (.int .i64 x)) (h1 : w.cell? ⟨b, 1, none⟩ = some (.int .i64 y)) :
    Calls Tryz.prog 35 #[.slice (some ⟨b, 0, none⟩) 2 2] w fun e w' => e = .returned (.int .i64 (orV x y)) ∧ w' = w := by
  by_cases hx : x = 0
  · have C : Hid (orV x y = y) := if_pos hx
    subst hx
    go_enter Tryz.func35, Tryz.ntmps35
    go_wp2_with fail
    refine wp_loop_rounds 3 ?_
    rw [rounds_succ]
    go_wp2_with fail
    rw [rounds_succ]
    by_cases hy : y = 0
    · subst hy
      go_wp2_with fail
      rw [rounds_succ]
      go_wp2_with fail
      go_ret
      exact ⟨ret_int C.out.symm, rfl⟩
    · have hb : (y != 0) = true := by simpa using hy
      go_wp2_with fail
      go_ret
      exact ⟨ret_int C.out.symm, rfl⟩
  · have C : Hid (orV x y = x) := if_neg hx
    have hb : (x != 0) = true := by simpa using hx
    go_enter Tryz.func35, Tryz.ntmps35
    go_wp2_with fail
    refine wp_loop_rounds 3 ?_
    rw [rounds_succ]
    go_wp2_with fail
    go_ret
    exact ⟨ret_int C.out.symm, rfl⟩
/-! the comparison of moves -/
theorem enter_Plan1 : ∀ args w, (callFunc 34 args).run Tryz.prog w = .ok (.enter 34 args) w := enters_of Tryz.func34 (by kernel_rfl) rfl
def p1d (i : Nat) : Nat := if i = 12 then 4 else i + 5
def p1V (X Y : Nat) (x y : Mov) : Nat → Value
  | 0 => .pointer (some ⟨X, 3, none⟩)
  | 1 => .int .i64 x.ready
  | 2 => .pointer (some ⟨Y, 3, none⟩)
  | 3 => .int .i64 y.ready
  | 4 => .int .i64 (cI x.ready y.ready)
  | 5 => .pointer (some ⟨X, 0, none⟩)
  | 6 => .string (bs x.item)
  | 7 => .pointer (some ⟨Y, 0, none⟩)
  | 8 => .string (bs y.item)
  | 9 => .int .i64 (bytesC x.item y.item)
  | _ => .int .i64 (mC x y)
def p1P (X Y : Nat) (x y : Mov) (i : Nat) (v : Value) (w : World) : Prop :=
  if i = 10 then ∃ b, v = .slice (some ⟨b, 0, none⟩) 2 2 ∧ w.cell? ⟨b, 0, none⟩ = some (.int .i64 (cI x.ready y.ready)) ∧ w.cell? ⟨b, 1, none⟩ = some (.int .i64 (bytesC x.item y.item)) else v = p1V X Y x y i
theorem p1P_mono {X Y : Nat} {x y : Mov} (i : Nat) (v : Value) (w w' : World) (h : p1P X Y x y i v w) (hb : Below w.heap.size w w') : p1P X Y x y i v w' := by
  unfold p1P at *
  by_cases e : i = 10
  · rw [if_pos e] at h ⊢
    obtain ⟨b, e, h0, h1⟩ := h
    exact ⟨b, e, cell_keep hb h0, cell_keep hb h1⟩
  · rw [if_neg e] at h ⊢
    exact h
theorem p1P_is {X Y : Nat} {x y : Mov} {i : Nat} {v : Value} {w : World} (hi : i ≠ 10) : p1P X Y x y i v w ↔ v = p1V X Y x y i := by unfold p1P; rw [if_neg hi]
theorem fa_move {o : Oper} {a : Act} {w : World} {K : Act → World → Prop} {Q : Exit → Act → World → Prop} (x : Operand) (k : Nat) (hk : k < 5) (ho : o.op = .fieldAddr 39 x k) (b off : Nat) (hx : a.eval x = .pointer (some ⟨b, off, none⟩)) (h : K (a.put o.dst (.pointer (some ⟨b, off + k, none⟩))) w) : o.wp Tryz.prog a w K Q := by
  have hc : k = 0 ∨ k = 1 ∨ k = 2 ∨ k = 3 ∨ k = 4 := by omega
  unfold Oper.wp execOp
  rcases hc with rfl | rfl | rfl | rfl | rfl
  all_goals
    simp only [ho, hx]
    go_simp
    exact h
theorem vl_two {o : Oper} {a : Act} {w : World} {K : Act → World → Prop} {Q : Exit → Act → World → Prop} (x y : Operand) (ho : o.op = .buildSlice 37 2 #[(0, x), (1, y)]) (p q : Int) (hx : a.eval x = .int .i64 p) (hy : a.eval y = .int .i64 q)
    (h : K (a.put o.dst (.slice (some ⟨w.heap.size, 0, none⟩) 2 2)) (w.alloc (.cells #[.int .i64 p, .int .i64 q] 3))) : o.wp Tryz.prog a w K Q := by
  unfold Oper.wp execOp
  simp only [ho]
  generalize a.eval = e at *
  go_simp
  exact h
theorem enter_cmpI : ∀ args w, (callFunc 31 args).run Tryz.prog w = .ok (.enter 31 args) w := enters_of Tryz.func31 (by kernel_rfl) rfl
theorem enter_cmpS : ∀ args w, (callFunc 36 args).run Tryz.prog w = .ok (.enter 36 args) w := enters_of Tryz.func36 (by kernel_rfl) rfl
theorem enter_orI : ∀ args w, (callFunc 35 args).run Tryz.prog w = .ok (.enter 35 args) w := enters_of Tryz.func35 (by kernel_rfl) rfl
set_option maxRecDepth 100000 in
set_option maxHeartbeats 2000000 in
theorem Plan1_any (x y : Mov) (w : World) : Calls Tryz.prog 34 #[.agg #[.string (bs x.item), .int .i64 x.frm, .int .i64 x.to, .int .i64 x.ready, .int .i64 x.mass], .agg #[.string (bs y.item), .int .i64 y.frm, .int .i64 y.to, .int .i64 y.ready, .int .i64 y.mass]] w
    fun e w' => e = .returned (.int .i64 (mC x y)) ∧ GR w w' := by
  obtain ⟨X, hX⟩ : ∃ X, X = w.heap.size := ⟨_, rfl⟩
  obtain ⟨W, hW⟩ : ∃ W, W = (w.alloc (.cells #[.string (bs x.item), .int .i64 x.frm, .int .i64 x.to, .int .i64 x.ready, .int .i64 x.mass] 39)).alloc (.cells #[.string (bs y.item), .int .i64 y.frm, .int .i64 y.to, .int .i64 y.ready, .int .i64 y.mass] 39) := ⟨_, rfl⟩
  have GW : GR w W := by rw [hW]; exact ((GR.refl w).alloc _).alloc _
  have c0 : W.cell? ⟨X, 0, none⟩ = some (.string (bs x.item)) := by rw [hW, hX]; go_simp
  have c3 : W.cell? ⟨X, 3, none⟩ = some (.int .i64 x.ready) := by rw [hW, hX]; go_simp
  have d0 : W.cell? ⟨X + 1, 0, none⟩ = some (.string (bs y.item)) := by rw [hW, hX]; go_simp
  have d3 : W.cell? ⟨X + 1, 3, none⟩ = some (.int .i64 y.ready) := by rw [hW, hX]; go_simp
  go_enter Tryz.func34, Tryz.ntmps34
  go_wp2_with fail
  rw [← hW, ← hX]
  clear hW hX
  refine wp_name fun a0 ha0 => ?_
  have q2 : a0.eval (.tmp 2) = .pointer (some ⟨X, 0, none⟩) := by rw [ha0]; rfl
  have q3 : a0.eval (.tmp 3) = .pointer (some ⟨X + 1, 0, none⟩) := by rw [ha0]; rfl
  have HMM : orV (cI x.ready y.ready) (bytesC x.item y.item) = mC x y := rfl
  have BW : Below W.heap.size W W.drew := (Below.refl _ _).drew
  refine wp_region_ip p1d (p1P X (X + 1) x y) (fun w' => GR w w' ∧ Below W.heap.size W w') mixed (by kernel_rfl) (by rw [ha0]; rfl) (by kernel_rfl) ⟨GW.drew, BW⟩ p1P_mono ?_ ?_
  · rintro i op a w1 hop hdep hsm ⟨hg, hb⟩ K hK
    have hi : i < 13 := (Array.getElem?_eq_some_iff.1 hop).1
    have r2 : a.eval (.tmp 2) = .pointer (some ⟨X, 0, none⟩) := (hsm.eval (by decide)).trans q2
    have r3 : a.eval (.tmp 3) = .pointer (some ⟨X + 1, 0, none⟩) := (hsm.eval (by decide)).trans q3
    have k0 := cell_keep hb c0
    have k3 := cell_keep hb c3
    have l0 := cell_keep hb d0
    have l3 := cell_keep hb d3
    have dv : ∀ e ∈ op.after, Region.binds .any e = true → e.on ≠ 10 → a.eval (.tmp (p1d e.on)) = p1V X (X + 1) x y e.on := fun e he hbi hne => (p1P_is hne).1 (hdep e he hbi)
    have hn : i ≠ 10 → ∀ v, v = p1V X (X + 1) x y i → K (a.put op.dst v) w1 := fun hne v hv => hK _ _ ⟨hg, hb⟩ (Below.refl _ _) ((p1P_is hne).2 hv)
    have hcase : i = 0 ∨ i = 1 ∨ i = 2 ∨ i = 3 ∨ i = 4 ∨ i = 5 ∨ i = 6 ∨ i = 7 ∨ i = 8 ∨ i = 9 ∨ i = 10 ∨ i = 11 ∨ i = 12 := by omega
    rcases hcase with h | h | h | h | h | h | h | h | h | h | h | h | h <;> subst h <;> have ho' := Option.some.inj hop <;> subst ho'
    · exact fa_move (.tmp 2) 3 (by omega) rfl X 0 r2 (hn (by decide) _ rfl)
    · exact vl_load 3 agg_int0 (.tmp 5) rfl _ _ (dv ⟨0, .data⟩ (by simp) rfl (by decide)) k3 (hn (by decide) _ rfl)
    · exact fa_move (.tmp 3) 3 (by omega) rfl (X + 1) 0 r3 (hn (by decide) _ rfl)
    · exact vl_load 3 agg_int0 (.tmp 7) rfl _ _ (dv ⟨2, .data⟩ (by simp) rfl (by decide)) l3 (hn (by decide) _ rfl)
    · exact vl_call2 31 _ _ (.tmp 6) (.tmp 8) rfl enter_cmpI _ _ (dv ⟨1, .data⟩ (by simp) rfl (by decide)) (dv ⟨3, .data⟩ (by simp) rfl (by decide)) ((compare_int _ _ _).mono fun e w2 ⟨he, hw⟩ => ⟨_, he, by subst hw; exact hn (by decide) _ rfl⟩)
    · exact fa_move (.tmp 2) 0 (by omega) rfl X 0 r2 (hn (by decide) _ rfl)
    · exact vl_load 9 agg_string (.tmp 10) rfl _ _ (dv ⟨5, .data⟩ (by simp) rfl (by decide)) k0 (hn (by decide) _ rfl)
    · exact fa_move (.tmp 3) 0 (by omega) rfl (X + 1) 0 r3 (hn (by decide) _ rfl)
    · exact vl_load 9 agg_string (.tmp 12) rfl _ _ (dv ⟨7, .data⟩ (by simp) rfl (by decide)) l0 (hn (by decide) _ rfl)
    · exact vl_call2 36 _ _ (.tmp 11) (.tmp 13) rfl enter_cmpS _ _ (dv ⟨6, .data⟩ (by simp) rfl (by decide)) (dv ⟨8, .data⟩ (by simp) rfl (by decide)) ((compare_str _ _ _).mono fun e w2 ⟨he, hw⟩ => ⟨_, he, by subst hw; exact hn (by decide) _ rfl⟩)
    · exact vl_two (.tmp 9) (.tmp 14) rfl _ _ (dv ⟨4, .data⟩ (by simp) rfl (by decide)) (dv ⟨9, .data⟩ (by simp) rfl (by decide)) (hK _ _ ⟨hg.alloc _, below_alloc hb _⟩ ((Below.refl _ _).alloc (Nat.le_refl _) _) ⟨_, rfl, by simp, by simp⟩)
    · obtain ⟨b, e15, f0, f1⟩ : ∃ b, a.eval (.tmp 15) = .slice (some ⟨b, 0, none⟩) 2 2 ∧ w1.cell? ⟨b, 0, none⟩ = some (.int .i64 (cI x.ready y.ready)) ∧ w1.cell? ⟨b, 1, none⟩ = some (.int .i64 (bytesC x.item y.item)) := hdep ⟨10, .data⟩ (by simp) rfl
      exact vl_call1 35 _ (.tmp 15) rfl enter_orI _ e15 ((or_two _ _ b _ f0 f1).mono fun e w2 ⟨he, hw⟩ => ⟨_, he, by subst hw; exact hn (by decide) _ (congrArg (Value.int .i64) HMM)⟩)
    · exact vl_assign (.tmp 16) rfl _ (dv ⟨11, .data⟩ (by simp) rfl (by decide)) (hn (by decide) _ rfl)
  · rintro a w1 hsm ⟨hg, hb⟩ hv
    have v4 : a.eval (.tmp 4) = .int .i64 (mC x y) := (p1P_is (by decide)).1 (hv 12 (by decide))
    have hsm' : Sm [5, 6, 7, 8, 9, 10, 11, 12, 13, 14, 15, 16, 4] a0 a := hsm
    have HA := hsm'.lit
    simp only [List.foldl] at HA
    rw [v4] at HA
    generalize a.eval (.tmp 5) = t5 at HA
    generalize a.eval (.tmp 6) = t6 at HA
    generalize a.eval (.tmp 7) = t7 at HA
    generalize a.eval (.tmp 8) = t8 at HA
    generalize a.eval (.tmp 9) = t9 at HA
    generalize a.eval (.tmp 10) = t10 at HA
    generalize a.eval (.tmp 11) = t11 at HA
    generalize a.eval (.tmp 12) = t12 at HA
    generalize a.eval (.tmp 13) = t13 at HA
    generalize a.eval (.tmp 14) = t14 at HA
    generalize a.eval (.tmp 15) = t15 at HA
    generalize a.eval (.tmp 16) = t16 at HA
    rw [HA, ha0]
    simp only [Act.put, List.setIfInBounds_toArray, List.set_cons_zero, List.set_cons_succ]
    clear HA hsm hsm' hv v4 ha0
    have HG := Lib.hid hg
    clear hg hb
    go_wp2_with fail
    go_ret
    exact ⟨rfl, HG.out⟩
end Go.Proofs.YtpbmmdoodmbneaaGreatDoor
