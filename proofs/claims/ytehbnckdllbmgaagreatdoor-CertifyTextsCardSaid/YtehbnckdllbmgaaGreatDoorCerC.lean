/- Contract: covered of certify. -/
import Derived.Test.YtehbnckdllbmgaaGreatDoorCerB
import Derived.Test.YtehbnckdllbmgaaGreatDoorRgq
import Derived.RangeFuncFrom
set_option linter.unusedSimpArgs false
set_option linter.unusedVariables false
namespace Go.Proofs.YtehbnckdllbmgaaGreatDoor
open Go.RowKit Go.Shelf
attribute [local go_sem] Oper.semAt_some

/-- the contract of covered, f jobs being left -/
def CovC (N f : Nat) : Prop := ∀ (u : List Int) (L : List (List Int)) (vu vl : Value) (w : World), u.length + f = N → rightB N u = true → AllBeg N u L → Asc L → L.length ≤ 1000000 → SI w vu u →
  (vu = .slice none 0 0 ∨ ∃ a n c, vu = .slice (some a) n c) → SS w vl L → Calls Tryz.prog 42 #[.int .i64 N, vu, vl] w (Ret w (.bool (covV N f u L)))

def cv3d (i : Nat) : Nat := i + 12
def cv3V (vl vr vu : Value) (p : Addr) (r n : Nat) (b : Bool) : Nat → Value
  | 0 => vl
  | 1 => .pointer (some p)
  | 2 => vr
  | 3 => .int .i64 r
  | 4 => vu
  | 5 => .int .i64 n
  | 6 => .bool b
  | _ => undef

theorem bx_own {W W' : World} {row : Option Nat} {B : Nat} {t : TypeId} {v : Value} (h : Boxed W B t v) (hg : W.grownBy W' row) (hr : ∀ r, row = some r → ∃ o : Obj, W.heap[r]? = some o ∧ o.isCells = false) : Boxed W' B t v :=
  h.kept hg (fun e' => by obtain ⟨o, ho, hc⟩ := hr B e'.symm; rw [show W.heap[B]? = _ from h] at ho; cases ho; cases hc)
theorem bx_below {W W' : World} {n B : Nat} {t : TypeId} {v : Value} (h : Boxed W B t v) (hb : Below n W W') (hn : B < n) : Boxed W' B t v := (hb.block B hn).trans h
theorem keeps_below {W W' : World} (h : Below W.heap.size W W') : KeepsOthers W W' := ⟨h.size, fun k o hk _ => (h.block k (Array.getElem?_eq_some_iff.1 hk).1).trans hk⟩
theorem bx_other {W : World} {B B' : Nat} {t : TypeId} {v : Value} (h : Boxed W B t v) (hne : B ≠ B') (u : Value) : Boxed (W.setCell ⟨B', 0, none⟩ u) B t v := h.other hne u
/-- between two rounds of covered's loop -/
def CvI (N f : Nat) (u : List Int) (L : List (List Int)) (w : World) (vu : Value) (pre : List (JobOf N u)) (W : World) : Prop :=
  ∃ m vl', m ≤ L.length ∧ Boxed W (w.heap.size + 1 + 1) 22 vl' ∧ SS w vl' (L.drop m) ∧ (∀ j, j ≤ N → uptoJ N u j = pre → CovAt N f u L j m) ∧
    Boxed W w.heap.size 3 (.int .i64 N) ∧ Boxed W (w.heap.size + 1) 24 vu ∧ Boxed W (w.heap.size + 1 + 1 + 1) 4 (.bool false) ∧ w.heap.size + 6 ≤ W.heap.size
theorem cvI_own {N f : Nat} {u : List Int} {L : List (List Int)} {w : World} {vu : Value} : Own (CvI N f u L w vu) := by
  rintro s A B row ⟨m, vl', h1, h2, h3, h4, h5, h6, h7, h8⟩ hg hr
  exact ⟨m, vl', h1, bx_own h2 hg hr, h3, h4, bx_own h5 hg hr, bx_own h6 hg hr, bx_own h7 hg hr, Nat.le_trans h8 hg.size⟩
def cv8d (i : Nat) : Nat := i + 26
def cv8V (c : Bool) (e : Int) (vl : Value) (n : Nat) (p : Addr) (vr vu : Value) (un : Nat) (q : Addr) (x j : Int) : Nat → Value
  | 0 => .int .i64 e
  | 1 => vl
  | 2 => .int .i64 n
  | 3 => .bool c
  | 4 => .bool c
  | 5 => cond (c == true) vl undef
  | 6 => cond (c == true) (.int .i64 e) undef
  | 7 => cond (c == true) (.pointer (some p)) undef
  | 8 => cond (c == true) vr undef
  | 9 => cond (c == true) vu undef
  | 10 => cond (c == true) (.int .i64 un) undef
  | 11 => cond (c == true) (.pointer (some q)) undef
  | 12 => cond (c == true) (.int .i64 x) undef
  | 13 => cond (c == true) (.int .i64 j) undef
  | 14 => cond (c == true) (.bool (x == j)) undef
  | 15 => .bool (cond c (x == j) false)
  | _ => undef

theorem CovAt.skips {n f : Nat} {u : List Int} {L : List (List Int)} {i m : Nat} (hL : AllBeg n u L) (hl : ∀ i, i < L.length → u.length < (ri L i).length) (h : CovAt n f u L i m) : ∀ d, (∀ k, i ≤ k → k < i + d → u.any (fun y => (k : Int) == y) = true) → CovAt n f u L (i + d) m
  | 0, _ => h
  | d + 1, ha => (CovAt.skips hL hl h d fun k h1 h2 => ha k h1 (by omega)).skip hL hl (ha (i + d) (by omega) (by omega))
def cv10d (i : Nat) : Nat := i + 44
def cv10P (N : Nat) (vu : Value) (u : List Int) (j : Int) (B : Nat) (va : Option Addr) (n vc e : Nat) (b : Bool) : Nat → Value → World → Prop
  | 0, v, _ => v = .int .i64 N
  | 1, v, _ => v = vu
  | 2, v, w => OwnI w B v u
  | 3, v, _ => v = .int .i64 j
  | 4, v, w => SI w v [j]
  | 5, v, w => OwnI w B v (u ++ [j])
  | 6, v, _ => v = .slice va n vc
  | 7, v, _ => v = .int .i64 e
  | 8, v, _ => v = .slice va e vc
  | 9, v, _ => v = .bool b
  | 10, v, _ => v = .bool (!b)
  | _, _, _ => True
theorem cv10_mono {N : Nat} {vu : Value} {u : List Int} {j : Int} {B : Nat} {va : Option Addr} {n vc e : Nat} {b : Bool} {w w' : World} (hb : Below w.heap.size w w') : ∀ i v, cv10P N vu u j B va n vc e b i v w → cv10P N vu u j B va n vc e b i v w'
  | 0, _, h => h | 1, _, h => h | 2, _, h => OwnI.below h hb | 3, _, h => h | 4, _, h => SI.keep h hb | 5, _, h => OwnI.below h hb | 6, _, h => h | 7, _, h => h | 8, _, h => h | 9, _, h => h | 10, _, h => h | _ + 11, _, _ => trivial
def cv10C (i j : Nat) : Bool := i == 5 && (j == 2 || j == 4)
theorem cv10_app {N : Nat} {vu : Value} {u : List Int} {j : Int} {B : Nat} {va : Option Addr} {n vc e : Nat} {b : Bool} {w w' : World} : ∀ i v, i ≠ 5 → cv10C 5 i = false → cv10P N vu u j B va n vc e b i v w → cv10P N vu u j B va n vc e b i v w'
  | 0, _, _, _, h => h | 1, _, _, _, h => h | 2, _, _, hc, _ => (by cases hc) | 3, _, _, _, h => h | 4, _, _, hc, _ => (by cases hc) | 5, _, h5, _, _ => absurd rfl h5 | 6, _, _, _, h => h | 7, _, _, _, h => h | 8, _, _, _, h => h | 9, _, _, _, h => h | 10, _, _, _, h => h | _ + 11, _, _, _, _ => trivial
theorem enter_clI : ∀ args w, (callFunc 66 args).run Tryz.prog w = .ok (.enter 66 args) w := enters_of Tryz.func66 (by kernel_rfl) rfl
theorem enter_covered : ∀ args w, (callFunc 42 args).run Tryz.prog w = .ok (.enter 42 args) w := enters_of Tryz.func42 (by kernel_rfl) rfl
theorem SS_zero (w : World) (a : Option Addr) (c : Nat) (h : c ≤ maxLen) : SS w (.slice a 0 c) [] := ⟨fun _ => undef, ⟨a, c, rfl, Nat.zero_le _, h, fun i hi => by simp at hi⟩, fun i hi => by simp at hi⟩
theorem SS_from {w : World} {a : Option Addr} {n c : Nat} {rs : List (List Int)} (h : SS w (.slice a n c) rs) {e : Nat} (he : e ≤ n) : SS w (.slice (Option.map (fun x => x.add e) a) (n - e) (c - e)) (rs.drop e) := by
  have hn := h.n
  have hc : c ≤ maxLen := by obtain ⟨_, ⟨a', c', hv, _, h2, _⟩, _⟩ := h; simp at hv; omega
  by_cases h0 : e = n
  · subst h0
    rw [Nat.sub_self, hn, List.drop_length]
    exact SS_zero _ _ _ (by omega)
  · obtain ⟨b, off, cap, hv, _⟩ := h.form (by omega)
    simp only [Value.slice.injEq] at hv
    obtain ⟨rfl, _, rfl⟩ := hv
    have := h.drop e (by omega)
    have e1 : (⟨b, off, none⟩ : Addr).add e = ⟨b, off + e, none⟩ := by unfold Addr.add; split <;> simp_all
    rw [Option.map_some, e1]
    exact this
theorem SS_from0 {w : World} {a : Option Addr} {n c : Nat} {rs : List (List Int)} (h : SS w (.slice a n c) rs) {e : Nat} (he : e ≤ n) (hc : c = e) : SS w (.slice a (n - e) 0) (rs.drop e) := by
  have hn := h.n
  have hc' : n ≤ c := by obtain ⟨_, ⟨a', c', hv, h1, _, _⟩, _⟩ := h; simp at hv; omega
  obtain rfl : e = n := by omega
  rw [Nat.sub_self, hn, List.drop_length]
  exact SS_zero _ _ _ (Nat.zero_le _)
theorem vl_slice_to {o : Oper} {a : Act} {w : World} {K : Act → World → Prop} {Q : Exit → Act → World → Prop} (x y : Operand) (ho : o.op = .slice 22 x none (some y) none) (b : Option Addr) (n c : Nat) (e : Nat) (hx : a.eval x = .slice b n c) (hy : a.eval y = .int .i64 e) (he : e ≤ c)
    (h : K (a.put o.dst (.slice b e c)) w) : o.wp Tryz.prog a w K Q := by
  have i1 : (e : Int) ≤ c := by omega
  unfold Oper.wp execOp
  simp only [ho]
  generalize a.eval = ev at *
  go_simp
  exact h
theorem wpIn_name {F : Fence} {n : Nat} {P : Program} {c : Code} {Q : Exit → Act → World → Prop} {a : Act} {w : World} (h : ∀ a0 : Act, a0 = a → Code.wpIn F n P c Q a0 w) : Code.wpIn F n P c Q a w := h a rfl
theorem run_all {N : Nat} {u : List Int} {L : List (List Int)} {j m e : Nat} (hL : AllBeg N u L) (hl : ∀ i, i < L.length → u.length < (ri L i).length) (hr : RunAt u L j m e) : AllBeg N (u ++ [(j : Int)]) ((L.drop m).take e) := by
  intro l hm
  rw [List.mem_take_iff_getElem] at hm
  obtain ⟨i, hi, rfl⟩ := hm
  rw [List.length_drop] at hi
  have h1 : m + i < L.length := by omega
  have e1 : (L.drop m)[i]'(by rw [List.length_drop]; omega) = ri L (m + i) := by rw [ri_lt h1, List.getElem_drop]
  rw [e1]
  have h2 := hL _ (ri_mem h1)
  refine ⟨h2.1, ?_⟩
  rw [← hr.2.1 (m + i) (by omega) (by omega)]
  exact begB_snoc h2.2 (hl _ h1)

set_option maxRecDepth 100000 in
set_option maxHeartbeats 2000000 in
theorem covered_step (N f : Nat) (hN : N ≤ 32) (ih : ∀ f', f = f' + 1 → CovC N f') : CovC N f := by
  intro u L vu vl w hf hu hL hA hl su fu sl
  have HL := Lib.hid hL; have HA := Lib.hid hA; have HU := Lib.hid hu; have SU := Lib.hid su; have SL := Lib.hid sl; have HF := Lib.hid hf; have FU := Lib.hid fu; have IH := Lib.hid ih
  clear hL hA hu hf ih fu
  obtain ⟨ua, uc, rfl, u1, u2⟩ := su.sl
  obtain ⟨vs, ⟨la, lc, rfl, l1, l2, l3⟩, l4⟩ := sl
  clear su
  have hum : u.length ≤ 9223372036854775807 := by unfold maxLen at u2; omega
  have hB : Below w.heap.size w ((((w.alloc (.cells #[.int .i64 N] 3)).alloc (.cells #[.slice ua u.length uc] 24)).alloc (.cells #[.slice la L.length lc] 22)).alloc (.cells #[.bool false] 4)) := ((((Below.refl _ _).alloc (Nat.le_refl _) _).alloc (by simp) _).alloc (by simp; omega) _).alloc (by simp; omega) _
  have HB := Lib.hid hB; clear hB
  refine (callsIn_wide (n := 9)).1 ?_
  refine callsIn_of_wp_marks Tryz.func42 rfl trivial ?_ rfl
  simp only [Tryz.ntmps42, List.size_toArray, List.length_cons, List.length_nil, Nat.reduceAdd, Nat.reduceSub, Array.replicate_succ, Array.replicate_zero, List.push_toArray, List.append_toArray, List.nil_append, List.cons_append]
  refine wpIn_wide.2 ?_
  by_cases h0 : L.length = 0
  · have HV := Lib.hid (show covV N f u L = false by rw [List.eq_nil_of_length_eq_zero h0]; exact cov_empty _ _ _)
    rw [h0] at HB
    clear SU SL HL HA l3 l4
    go_wp2_with fail
    refine ⟨.bool false, by simp [results, Tryz.f42, go_sem], ?_⟩
    rw [HV.out]
    exact ⟨rfl, HB.out⟩
  obtain ⟨lb, lo, rfl, hc0⟩ := l3 0 (by omega)
  have r0 := l4 0 (by omega)
  obtain ⟨ra, rc, hrv, r1, r2⟩ := r0.sl
  rw [hrv] at hc0 r0
  have R0 := Lib.hid r0; clear r0 hrv l3 l4
  have hlb := World.block_lt_of_cell? w _ hc0
  have hc4 := (HB.out.cell (p := ⟨lb, lo + 0, none⟩) hlb).trans hc0
  have hlm : L.length ≤ 9223372036854775807 := by omega
  have i1 : (0 : Int) < L.length := by omega
  have i2 : (0 : Int) < lc := by omega
  have HAny := Lib.hid (asc_first HA.out HL.out (by omega))
  obtain ⟨W4, hW4⟩ : ∃ W4, W4 = ((((w.alloc (.cells #[.int .i64 N] 3)).alloc (.cells #[.slice ua u.length uc] 24)).alloc (.cells #[.slice (some ⟨lb, lo, none⟩) L.length lc] 22)).alloc (.cells #[.bool false] 4)) := ⟨_, rfl⟩
  have x0 : Boxed W4 w.heap.size 3 (.int .i64 N) := by rw [hW4]; exact (((Boxed.new _ _ _).alloc _).alloc _).alloc _
  have x1 : Boxed W4 (w.heap.size + 1) 24 (.slice ua u.length uc) := by rw [hW4]; have := Boxed.new (w.alloc (.cells #[.int .i64 N] 3)) 24 (.slice ua u.length uc); rw [World.size_alloc] at this; exact (this.alloc _).alloc _
  have x2 : Boxed W4 (w.heap.size + 1 + 1) 22 (.slice (some ⟨lb, lo, none⟩) L.length lc) := by rw [hW4]; have := Boxed.new ((w.alloc (.cells #[.int .i64 N] 3)).alloc (.cells #[.slice ua u.length uc] 24)) 22 (.slice (some ⟨lb, lo, none⟩) L.length lc); rw [World.size_alloc, World.size_alloc] at this; exact this.alloc _
  have x3 : Boxed W4 (w.heap.size + 1 + 1 + 1) 4 (.bool false) := by rw [hW4]; have := Boxed.new (((w.alloc (.cells #[.int .i64 N] 3)).alloc (.cells #[.slice ua u.length uc] 24)).alloc (.cells #[.slice (some ⟨lb, lo, none⟩) L.length lc] 22)) 4 (.bool false); rw [World.size_alloc, World.size_alloc, World.size_alloc] at this; exact this
  have hsz : W4.heap.size = w.heap.size + 4 := by rw [hW4]; simp
  have HSZ := Lib.hid hsz; clear hsz
  rw [← hW4] at HB hc4
  have X0 := Lib.hid x0; have X1 := Lib.hid x1; have X2 := Lib.hid x2; have X3 := Lib.hid x3
  have y0 := x0.cell; have y1 := x1.cell; have y2 := x2.cell; have y3 := x3.cell; have z3 := x3.frozen; have z2 := x2.frozen
  clear x0 x1 x2 x3
  have HW4 := Lib.hid hW4; clear hW4
  by_cases c1 : (ri L 0).length = u.length
  · have hb1 : (((ri L 0).length : Int) == (u.length : Int)) = true := by rw [beq_iff_eq]; omega
    have HV := Lib.hid (show covV N f u L = ((L.length : Int) == 1) by
      rw [cov_one (by rw [HAny.out, c1]; simp), Bool.eq_iff_iff, beq_iff_eq, beq_iff_eq]; omega)
    clear SU SL HL HA
    go_wp2_with fail
    rw [← HW4.out]
    refine wp_name fun a0 ha0 => ?_
    have z4 : a0.eval (.tmp 4) = .pointer (some ⟨w.heap.size + 1, 0, none⟩) := by rw [ha0]; rfl
    have z5 : a0.eval (.tmp 5) = .pointer (some ⟨w.heap.size + 1 + 1, 0, none⟩) := by rw [ha0]; rfl
    refine wp_region_gd cv3d (cv3V (.slice (some ⟨lb, lo, none⟩) L.length lc) (.slice ra (ri L 0).length rc) (.slice ua u.length uc) ⟨lb, lo + 0, none⟩ (ri L 0).length u.length true) (fun w' => ∃ m, w' = W4.drewN m) mixed (by kernel_rfl) (by rw [show a0.tmps.size = 61 by rw [ha0]; rfl]; kernel_rfl) (by kernel_rfl) ⟨1, rfl⟩ ?_ ?_
    · rintro i op a w7 hop hdep hsm ⟨m7, rfl⟩ K hK
      have hi : i < 7 := (Array.getElem?_eq_some_iff.1 hop).1
      have q4 := (hsm.eval (m := 4) (by decide)).trans z4
      have q5 := (hsm.eval (m := 5) (by decide)).trans z5
      have dv : ∀ e ∈ op.after, Region.binds .any e = true → a.eval (.tmp (cv3d e.on)) = cv3V (.slice (some ⟨lb, lo, none⟩) L.length lc) (.slice ra (ri L 0).length rc) (.slice ua u.length uc) ⟨lb, lo + 0, none⟩ (ri L 0).length u.length true e.on := fun e he hbi => hdep e he hbi
      have hn : ∀ v, v = cv3V (.slice (some ⟨lb, lo, none⟩) L.length lc) (.slice ra (ri L 0).length rc) (.slice ua u.length uc) ⟨lb, lo + 0, none⟩ (ri L 0).length u.length true i → K (a.put op.dst v) (W4.drewN m7) := fun v hv => hK _ _ ⟨m7, rfl⟩ hv
      have hcase : i = 0 ∨ i = 1 ∨ i = 2 ∨ i = 3 ∨ i = 4 ∨ i = 5 ∨ i = 6 := by omega
      rcases hcase with h | h | h | h | h | h | h <;> subst h <;> have ho' := Option.some.inj hop <;> subst ho'
      · exact gd_on rfl (vl_load 22 agg_rows (.tmp 5) rfl _ _ q5 y2 (hn _ rfl))
      · exact gd_on rfl (ix_rows (.tmp 12) (.const (.int .i64 0)) lb lo L.length lc 0 rfl (dv ⟨0, .data⟩ (by simp) rfl) rfl (by omega) l1 (hn _ rfl))
      · exact gd_on rfl (vl_load 24 agg_ints (.tmp 13) rfl _ _ (dv ⟨1, .data⟩ (by simp) rfl) hc4 (hn _ rfl))
      · exact gd_on rfl (len_ints (.tmp 14) rfl _ _ _ (dv ⟨2, .data⟩ (by simp) rfl) (hn _ rfl))
      · exact gd_on rfl (vl_load 24 agg_ints (.tmp 4) rfl _ _ q4 y1 (hn _ rfl))
      · exact gd_on rfl (len_ints (.tmp 16) rfl _ _ _ (dv ⟨4, .data⟩ (by simp) rfl) (hn _ rfl))
      · exact gd_on rfl (eq_ints (.tmp 15) (.tmp 17) rfl _ _ (dv ⟨3, .data⟩ (by simp) rfl) (dv ⟨5, .data⟩ (by simp) rfl) (hn _ (by rw [hb1]; rfl)))
    rintro a5 w5 hs5 ⟨m5, rfl⟩ hv5
    have hs18 : a5.eval (.tmp 18) = .bool true := hv5 6 (by decide)
    have hsm' : Sm [12, 13, 14, 15, 16, 17, 18] a0 a5 := hs5
    have HA := hsm'.lit
    simp only [List.foldl] at HA
    rw [hs18] at HA
    generalize a5.eval (.tmp 12) = t12 at HA
    generalize a5.eval (.tmp 13) = t13 at HA
    generalize a5.eval (.tmp 14) = t14 at HA
    generalize a5.eval (.tmp 15) = t15 at HA
    generalize a5.eval (.tmp 16) = t16 at HA
    generalize a5.eval (.tmp 17) = t17 at HA
    rw [HA, ha0]
    simp only [Act.put, List.setIfInBounds_toArray, List.set_cons_zero, List.set_cons_succ]
    clear HA
    clear hv5 hs5 hsm' hs18 ha0 z4 z5
    go_wp2_with fail
    have hb9 : Below w.heap.size w ((W4.drewN m5).setCell ⟨w.heap.size + 1 + 1 + 1, 0, none⟩ (.bool ((L.length : Int) == 1))) := (below_drewN' HB.out m5).setCell (p := ⟨w.heap.size + 1 + 1 + 1, 0, none⟩) (by dsimp only; omega) _
    refine ⟨.bool ((L.length : Int) == 1), by simp [results, Tryz.f42, go_sem, y3, z3], ?_⟩
    rw [HV.out]
    exact ⟨rfl, hb9⟩
  · have hb1 : (((ri L 0).length : Int) == (u.length : Int)) = false := by rw [beq_eq_false_iff_ne]; omega
    go_wp2_with fail
    rw [← HW4.out]
    refine wp_name fun a0 ha0 => ?_
    have z4 : a0.eval (.tmp 4) = .pointer (some ⟨w.heap.size + 1, 0, none⟩) := by rw [ha0]; rfl
    have z5 : a0.eval (.tmp 5) = .pointer (some ⟨w.heap.size + 1 + 1, 0, none⟩) := by rw [ha0]; rfl
    refine wp_region_gd cv3d (cv3V (.slice (some ⟨lb, lo, none⟩) L.length lc) (.slice ra (ri L 0).length rc) (.slice ua u.length uc) ⟨lb, lo + 0, none⟩ (ri L 0).length u.length false) (fun w' => ∃ m, w' = W4.drewN m) mixed (by kernel_rfl) (by rw [show a0.tmps.size = 61 by rw [ha0]; rfl]; kernel_rfl) (by kernel_rfl) ⟨1, rfl⟩ ?_ ?_
    · rintro i op a w7 hop hdep hsm ⟨m7, rfl⟩ K hK
      have hi : i < 7 := (Array.getElem?_eq_some_iff.1 hop).1
      have q4 := (hsm.eval (m := 4) (by decide)).trans z4
      have q5 := (hsm.eval (m := 5) (by decide)).trans z5
      have dv : ∀ e ∈ op.after, Region.binds .any e = true → a.eval (.tmp (cv3d e.on)) = cv3V (.slice (some ⟨lb, lo, none⟩) L.length lc) (.slice ra (ri L 0).length rc) (.slice ua u.length uc) ⟨lb, lo + 0, none⟩ (ri L 0).length u.length false e.on := fun e he hbi => hdep e he hbi
      have hn : ∀ v, v = cv3V (.slice (some ⟨lb, lo, none⟩) L.length lc) (.slice ra (ri L 0).length rc) (.slice ua u.length uc) ⟨lb, lo + 0, none⟩ (ri L 0).length u.length false i → K (a.put op.dst v) (W4.drewN m7) := fun v hv => hK _ _ ⟨m7, rfl⟩ hv
      have hcase : i = 0 ∨ i = 1 ∨ i = 2 ∨ i = 3 ∨ i = 4 ∨ i = 5 ∨ i = 6 := by omega
      rcases hcase with h | h | h | h | h | h | h <;> subst h <;> have ho' := Option.some.inj hop <;> subst ho'
      · exact gd_on rfl (vl_load 22 agg_rows (.tmp 5) rfl _ _ q5 y2 (hn _ rfl))
      · exact gd_on rfl (ix_rows (.tmp 12) (.const (.int .i64 0)) lb lo L.length lc 0 rfl (dv ⟨0, .data⟩ (by simp) rfl) rfl (by omega) l1 (hn _ rfl))
      · exact gd_on rfl (vl_load 24 agg_ints (.tmp 13) rfl _ _ (dv ⟨1, .data⟩ (by simp) rfl) hc4 (hn _ rfl))
      · exact gd_on rfl (len_ints (.tmp 14) rfl _ _ _ (dv ⟨2, .data⟩ (by simp) rfl) (hn _ rfl))
      · exact gd_on rfl (vl_load 24 agg_ints (.tmp 4) rfl _ _ q4 y1 (hn _ rfl))
      · exact gd_on rfl (len_ints (.tmp 16) rfl _ _ _ (dv ⟨4, .data⟩ (by simp) rfl) (hn _ rfl))
      · exact gd_on rfl (eq_ints (.tmp 15) (.tmp 17) rfl _ _ (dv ⟨3, .data⟩ (by simp) rfl) (dv ⟨5, .data⟩ (by simp) rfl) (hn _ (by rw [hb1]; rfl)))
    rintro a5 w5 hs5 ⟨m5, rfl⟩ hv5
    have hs18 : a5.eval (.tmp 18) = .bool false := hv5 6 (by decide)
    have hsm' : Sm [12, 13, 14, 15, 16, 17, 18] a0 a5 := hs5
    have HA := hsm'.lit
    simp only [List.foldl] at HA
    rw [hs18] at HA
    generalize a5.eval (.tmp 12) = t12 at HA
    generalize a5.eval (.tmp 13) = t13 at HA
    generalize a5.eval (.tmp 14) = t14 at HA
    generalize a5.eval (.tmp 15) = t15 at HA
    generalize a5.eval (.tmp 16) = t16 at HA
    generalize a5.eval (.tmp 17) = t17 at HA
    rw [HA, ha0]
    simp only [Act.put, List.setIfInBounds_toArray, List.set_cons_zero, List.set_cons_succ]
    clear HA
    clear hv5 hs5 hsm' hs18 ha0 z4 z5
    obtain ⟨W6, hW6⟩ : ∃ W6, W6 = ((W4.drewN m5).alloc (.cells #[.int .i64 N] 3)).alloc (.cells #[.slice ua u.length uc] 24) := ⟨_, rfl⟩
    have HW6 := Lib.hid hW6
    have hs6 : W6.heap.size = w.heap.size + 6 := by rw [hW6]; simp [HSZ.out]
    have HS6 := Lib.hid hs6; clear hs6
    have hb46 : Below W4.heap.size W4 W6 := by rw [hW6]; exact ((below_drewN' (Below.refl _ _) m5).alloc (Nat.le_refl _) _).alloc (by simp) _
    have HB6 := Lib.hid (HB.out.trans (hb46.mono (by rw [HSZ.out]; omega)))
    have X06 := Lib.hid (bx_below X0.out hb46 X0.out.lt); have X16 := Lib.hid (bx_below X1.out hb46 X1.out.lt); have X26 := Lib.hid (bx_below X2.out hb46 X2.out.lt); have X36 := Lib.hid (bx_below X3.out hb46 X3.out.lt)
    have hx4 : Boxed W6 (w.heap.size + 4) 3 (.int .i64 N) := by rw [hW6]; have := Boxed.new (W4.drewN m5) 3 (.int .i64 N); rw [show (W4.drewN m5).heap.size = w.heap.size + 4 from HSZ.out] at this; exact this.alloc _
    have hx5 : Boxed W6 (w.heap.size + 5) 24 (.slice ua u.length uc) := by rw [hW6]; have := Boxed.new ((W4.drewN m5).alloc (.cells #[.int .i64 N] 3)) 24 (.slice ua u.length uc); rw [World.size_alloc, show (W4.drewN m5).heap.size = w.heap.size + 4 from HSZ.out] at this; exact this
    have HX4 := Lib.hid hx4; have HX5 := Lib.hid hx5
    clear hx4 hx5 hb46 X0 X1 X2 X3
    obtain ⟨f', hf'⟩ : ∃ f', f = f' + 1 := by
      cases f with
      | zero => exact absurd (cov_zero (by have := HF.out; omega) HL.out (by omega)) c1
      | succ f' => exact ⟨f', rfl⟩
    subst hf'
    have CI := Lib.hid (IH.out f' rfl); clear IH
    have hany : L.any (fun l => l.length == u.length) = false := by rw [HAny.out, beq_eq_false_iff_ne]; exact c1
    have HAF := Lib.hid hany; clear hany HAny
    have hlen : ∀ i, i < L.length → u.length < (ri L i).length := fun i hi => by
      have h1 := HAF.out
      rw [List.any_eq_false] at h1
      have h2 := h1 _ (ri_mem hi)
      have h3 := begB_len (HL.out _ (ri_mem hi)).2
      simp only [beq_iff_eq] at h2
      omega
    have HLEN := Lib.hid hlen; clear hlen
    go_wp2_with fail
    refine (others_any _ _ _ ⟨_, _, _, rfl⟩).mono ?_
    rintro e w6 ⟨rfl, hw6⟩
    rw [← hW6] at hw6
    obtain rfl := hw6.symm
    clear hW6
    go_wp2_with fail
    rw [HSZ.out]
    clear y0 y1 y2 y3 z2 z3 hc4 HW4 HW6
    refine (wpIn_wide (n := 9)).1 ?_
    refine wpIn_rangeFunc_ownF rfl (by omega) (gf := 110) (lb := #[.pointer (some ⟨w.heap.size + 4, 0, none⟩), .pointer (some ⟨w.heap.size + 4 + 1, 0, none⟩)]) rfl trivial (enters_of Tryz.func110 (by kernel_rfl) rfl)
      (others_stops (9 - 1) (by omega) (w.heap.size + 4) (w.heap.size + 4 + 1) (fun k => k < w.heap.size ∨ k = w.heap.size + 4 ∨ k = w.heap.size + 5) N (by omega) (.slice ua u.length uc) u (.inr (.inl rfl)) (.inr (.inr rfl))
        (InS_of SU.out fun k hk => .inl hk) W6 (fun k hk => by rw [HS6.out]; omega) HX4.out.cell HX5.out.cell (SU.out.keep HB6.out)) KeepS.t (KeepS.b (fun k hk => by rw [HS6.out]; omega)) (Below.refl _ _) (fun _ => rfl)
      (fun pre W => CvI N f' u L w (.slice ua u.length uc) pre W ∧ Below w.heap.size w W)
      (fun c pre W => (c = .ret ∧ (∀ j, j ≤ N → uptoJ N u j = pre → covV N (f' + 1) u L = false) ∧ W.cell? ⟨w.heap.size + 1 + 1 + 1, 0, none⟩ = some (.bool false)) ∧ Below w.heap.size w W)
      (OwnFrom.and (Own.from cvI_own _) (ownFrom_below (Nat.le_refl _) (by rw [HS6.out]; omega)))
      (fun c => OwnFrom.and (Own.from (fun s A B row hs hg hr => ⟨hs.1, hs.2.1, cell_kept hs.2.2 hg hr⟩) _) (ownFrom_below (Nat.le_refl _) (by rw [HS6.out]; omega)))
      ⟨⟨0, _, Nat.zero_le _, X26.out, by rw [List.drop_zero]; exact SL.out, fun j hj hp => ?first, X06.out, X16.out, X36.out, by rw [HS6.out]; exact Nat.le_refl _⟩, HB6.out⟩
      (fun x => { tmps := #[.int .i64 N, .slice ua u.length uc, .slice (some ⟨lb, lo, none⟩) L.length lc, .pointer (some ⟨w.heap.size, 0, none⟩), .pointer (some ⟨w.heap.size + 1, 0, none⟩), .pointer (some ⟨w.heap.size + 1 + 1, 0, none⟩), .pointer (some ⟨w.heap.size + 1 + 1 + 1, 0, none⟩), .int .i64 (x.1 : Int), undef, .slice (some ⟨lb, lo, none⟩) L.length lc, .int .i64 L.length, .bool false, t12, t13, t14, t15, t16, t17, .bool false, undef, undef, undef, .int .i64 N, .slice ua u.length uc, .func (.func 110) #[] #[.pointer (some ⟨w.heap.size + 4, 0, none⟩), .pointer (some ⟨w.heap.size + 4 + 1, 0, none⟩)], .int .i64 (x.1 : Int), undef, undef, undef, undef, undef, undef, undef, undef, undef, undef, undef, undef, undef, undef, undef, undef, undef, undef, undef, undef, undef, undef, undef, undef, undef, undef, undef, undef, undef, undef, undef, undef, undef, undef, undef], defers := [] }) ?assign ?body ?done ?stop
    case first =>
      have h0 := CovAt.start (f := f') HL.out HLEN.out
      have := CovAt.skips HL.out HLEN.out h0 j fun k _ h2 => uptoJ_nil j hj hp k (by omega)
      rwa [Nat.zero_add] at this
    case assign =>
      intro l x W K hK
      gi_wp2
      exact hK
    case body =>
      rintro l pre ⟨xj, hxN, hxu⟩ W ⟨⟨m, vl', hm, b2, sl', hcv, b0, b1, b3, hwz⟩, hB⟩ _
      have HWZ := Lib.hid hwz; clear hwz
      have HBW := Lib.hid hB; have HCV := Lib.hid hcv
      have B0 := Lib.hid b0; have B1 := Lib.hid b1; have B2 := Lib.hid b2; have B3 := Lib.hid b3
      clear hB hcv b0 b1 b2 b3
      have SV := Lib.hid sl'
      obtain ⟨vs', ⟨va, vc, rfl, v1, v2, _⟩, _⟩ := sl'
      obtain ⟨n, hn⟩ : ∃ n, n = (L.drop m).length := ⟨_, rfl⟩
      rw [← hn] at v1 SV B2
      have hnm : n = L.length - m := by rw [hn, List.length_drop]
      have HN := Lib.hid hn; have HNM := Lib.hid hnm
      clear hn hnm
      have y0 := B0.out.cell; have y1 := B1.out.cell; have y2 := B2.out.cell; have y3 := B3.out.cell; have z2 := B2.out.frozen; have z3 := B3.out.frozen
      have hnl : n ≤ 9223372036854775807 := by unfold maxLen at v2; omega
      gi_wp2_with fail
      gi_loopw [8] (fun i wr => ∃ e : Nat, e ≤ n ∧ i = .int .i64 e ∧ (∃ q, wr = W.drewN q) ∧ Hid (∀ k, m ≤ k → k < m + e → gi (ri L k) u.length = xj)) (fun i _ => n - (intOf i).toNat)
      case atStart => exact ⟨0, Nat.zero_le _, rfl, ⟨0, rfl⟩, fun k h1 h2 => by omega⟩
      case round =>
        obtain ⟨e, he, rfl, ⟨q, rfl⟩, hall⟩ := hrel
        obtain ⟨vb, vo, rb, ro, rl, rc, xx, hpp⟩ : ∃ vb vo rb ro rl rc xx, (decide (e < n) == true) = true → va = some ⟨vb, vo, none⟩ ∧ e < n ∧ W.cell? ⟨vb, vo + e, none⟩ = some (.slice (some ⟨rb, ro, none⟩) rl rc) ∧ u.length < rl ∧ rl ≤ rc ∧
            W.cell? ⟨rb, ro + u.length, none⟩ = some (.int .i64 xx) ∧ xx = gi (ri L (m + e)) u.length := by
          by_cases c : e < n
          · have hl1 : e < (L.drop m).length := by rw [← HN.out]; exact c
            obtain ⟨vb, vo, cap, hv, _⟩ := SV.out.form (by omega)
            simp only [Value.slice.injEq] at hv
            obtain ⟨rfl, _, rfl⟩ := hv
            obtain ⟨rv, hrv, hrs⟩ := SV.out.row hl1
            rw [ri_drop] at hrs
            have hlt := HLEN.out (m + e) (by have := HNM.out; omega)
            obtain ⟨rb, ro, rc, rfl, hr1, _, _, hrc⟩ := hrs.form (by omega)
            exact ⟨vb, vo, rb, ro, _, rc, _, fun _ => ⟨rfl, c, cell_keep HBW.out hrv, hlt, hr1, cell_keep HBW.out (hrc _ hlt), rfl⟩⟩
          · exact ⟨0, 0, 0, 0, 0, 0, 0, fun h => by simp [c] at h⟩
        have HPP := Lib.hid hpp; clear hpp
        gi_wp2_with fail
        refine wpIn_name fun a0 ha0 => ?_
        have z4 : a0.eval (.tmp 4) = .pointer (some ⟨w.heap.size + 1, 0, none⟩) := by rw [ha0]; rfl
        have z5 : a0.eval (.tmp 5) = .pointer (some ⟨w.heap.size + 1 + 1, 0, none⟩) := by rw [ha0]; rfl
        have z7 : a0.eval (.tmp 7) = .int .i64 xj := by rw [ha0]; rfl
        have z8 : a0.eval (.tmp 8) = .int .i64 e := by rw [ha0]; rfl
        refine wpIn_region_gd (l := l) cv8d (cv8V (decide (e < n)) e (.slice va n vc) n ⟨vb, vo + e, none⟩ (.slice (some ⟨rb, ro, none⟩) rl rc) (.slice ua u.length uc) u.length ⟨rb, ro + u.length, none⟩ xx xj) (fun w' => ∃ q', w' = W.drewN q') mixed (by kernel_rfl) (by rw [show a0.tmps.size = 61 by rw [ha0]; rfl]; kernel_rfl) (by kernel_rfl) (by kernel_rfl) (dn2 W q 1) ?_ ?_
        · rintro i op a w7 hop hdep hsm ⟨q7, rfl⟩ K hK
          have hi : i < 16 := (Array.getElem?_eq_some_iff.1 hop).1
          have q4 := (hsm.eval (m := 4) (by decide)).trans z4
          have q5 := (hsm.eval (m := 5) (by decide)).trans z5
          have q7' := (hsm.eval (m := 7) (by decide)).trans z7
          have q8 := (hsm.eval (m := 8) (by decide)).trans z8
          have dv : ∀ e' ∈ op.after, Region.binds .any e' = true → a.eval (.tmp (cv8d e'.on)) = (cv8V (decide (e < n)) e (.slice va n vc) n ⟨vb, vo + e, none⟩ (.slice (some ⟨rb, ro, none⟩) rl rc) (.slice ua u.length uc) u.length ⟨rb, ro + u.length, none⟩ xx xj) e'.on := fun e he hbi => hdep e he hbi
          have hn : ∀ v, v = (cv8V (decide (e < n)) e (.slice va n vc) n ⟨vb, vo + e, none⟩ (.slice (some ⟨rb, ro, none⟩) rl rc) (.slice ua u.length uc) u.length ⟨rb, ro + u.length, none⟩ xx xj) i → K (a.put op.dst v) (W.drewN q7) := fun v hv => hK _ _ ⟨q7, rfl⟩ hv
          have hcase : i = 0 ∨ i = 1 ∨ i = 2 ∨ i = 3 ∨ i = 4 ∨ i = 5 ∨ i = 6 ∨ i = 7 ∨ i = 8 ∨ i = 9 ∨ i = 10 ∨ i = 11 ∨ i = 12 ∨ i = 13 ∨ i = 14 ∨ i = 15 := by omega
          rcases hcase with h | h | h | h | h | h | h | h | h | h | h | h | h | h | h | h <;> subst h <;> have ho' := Option.some.inj hop <;> subst ho'
          · exact gd_on rfl (vl_move (.tmp 8) rfl _ q8 (hn _ rfl))
          · exact gd_on rfl (vl_load 22 agg_rows (.tmp 5) rfl _ _ q5 y2 (hn _ rfl))
          · exact gd_on rfl (len_rows (.tmp 27) rfl _ _ _ (dv ⟨1, .data⟩ (by simp) rfl) (hn _ rfl))
          · exact gd_on rfl (lt_ints (.tmp 26) (.tmp 28) rfl _ _ (dv ⟨0, .data⟩ (by simp) rfl) (dv ⟨2, .data⟩ (by simp) rfl) (hn _ (by simp [cv8V])))
          · exact gd_on rfl (vl_move (.tmp 29) rfl _ (dv ⟨3, .data⟩ (by simp) rfl) (hn _ rfl))
          · refine gd_if (gOn_at0 rfl rfl rfl) rfl fun hc => ?_; exact vl_load 22 agg_rows (.tmp 5) rfl _ _ q5 y2 (hn _ (cd hc).symm)
          · refine gd_if (gOn_at0 rfl rfl rfl) rfl fun hc => ?_; exact vl_move (.tmp 8) rfl _ q8 (hn _ (cd hc).symm)
          · refine gd_if (gOn_at0 rfl rfl rfl) rfl fun hc => ?_; exact ix_rows (.tmp 31) (.tmp 32) vb vo n vc e rfl (((dv ⟨5, .data⟩ (by simp) rfl).trans (cd hc)).trans (by rw [(HPP.out hc).1])) ((dv ⟨6, .data⟩ (by simp) rfl).trans (cd hc)) (HPP.out hc).2.1 v1 (hn _ (cd hc).symm)
          · refine gd_if (gOn_at0 rfl rfl rfl) rfl fun hc => ?_; exact vl_load 24 agg_ints (.tmp 33) rfl _ _ ((dv ⟨7, .data⟩ (by simp) rfl).trans (cd hc)) (HPP.out hc).2.2.1 (hn _ (cd hc).symm)
          · refine gd_if (gOn_at0 rfl rfl rfl) rfl fun hc => ?_; exact vl_load 24 agg_ints (.tmp 4) rfl _ _ q4 y1 (hn _ (cd hc).symm)
          · refine gd_if (gOn_at0 rfl rfl rfl) rfl fun hc => ?_; exact len_ints (.tmp 35) rfl _ _ _ ((dv ⟨9, .data⟩ (by simp) rfl).trans (cd hc)) (hn _ (cd hc).symm)
          · refine gd_if (gOn_at0 rfl rfl rfl) rfl fun hc => ?_; exact ix_ints (.tmp 34) (.tmp 36) rb ro rl rc u.length rfl ((dv ⟨8, .data⟩ (by simp) rfl).trans (cd hc)) ((dv ⟨10, .data⟩ (by simp) rfl).trans (cd hc)) (HPP.out hc).2.2.2.1 (HPP.out hc).2.2.2.2.1 (hn _ (cd hc).symm)
          · refine gd_if (gOn_at0 rfl rfl rfl) rfl fun hc => ?_; exact vl_load 3 agg_int0 (.tmp 37) rfl _ _ ((dv ⟨11, .data⟩ (by simp) rfl).trans (cd hc)) (HPP.out hc).2.2.2.2.2.1 (hn _ (cd hc).symm)
          · refine gd_if (gOn_at0 rfl rfl rfl) rfl fun hc => ?_; exact vl_move (.tmp 7) rfl _ q7' (hn _ (cd hc).symm)
          · refine gd_if (gOn_at0 rfl rfl rfl) rfl fun hc => ?_; exact eq_ints (.tmp 38) (.tmp 39) rfl _ _ ((dv ⟨12, .data⟩ (by simp) rfl).trans (cd hc)) ((dv ⟨13, .data⟩ (by simp) rfl).trans (cd hc)) (hn _ (cd hc).symm)
          · exact gd_on rfl (vl_pick (.tmp 30) (.tmp 40) (.const (.bool false)) rfl (decide (e < n)) _ _ (dv ⟨4, .data⟩ (by simp) rfl) (dv ⟨14, .data⟩ (by simp) rfl) rfl (hn _ (pk4 _ _)))
        rintro a5 w5 hs5 ⟨q5, rfl⟩ hv5
        have hs41 : a5.eval (.tmp 41) = .bool (cond (decide (e < n)) (xx == xj) false) := hv5 15 (by decide)
        have hsm' : Sm [26, 27, 28, 29, 30, 31, 32, 33, 34, 35, 36, 37, 38, 39, 40, 41] a0 a5 := hs5
        have HA := hsm'.lit
        simp only [List.foldl] at HA
        rw [hs41] at HA
        generalize a5.eval (.tmp 26) = t26 at HA
        generalize a5.eval (.tmp 27) = t27 at HA
        generalize a5.eval (.tmp 28) = t28 at HA
        generalize a5.eval (.tmp 29) = t29 at HA
        generalize a5.eval (.tmp 30) = t30 at HA
        generalize a5.eval (.tmp 31) = t31 at HA
        generalize a5.eval (.tmp 32) = t32 at HA
        generalize a5.eval (.tmp 33) = t33 at HA
        generalize a5.eval (.tmp 34) = t34 at HA
        generalize a5.eval (.tmp 35) = t35 at HA
        generalize a5.eval (.tmp 36) = t36 at HA
        generalize a5.eval (.tmp 37) = t37 at HA
        generalize a5.eval (.tmp 38) = t38 at HA
        generalize a5.eval (.tmp 39) = t39 at HA
        generalize a5.eval (.tmp 40) = t40 at HA
        rw [HA, ha0]
        simp only [Act.put, List.setIfInBounds_toArray, List.set_cons_zero, List.set_cons_succ]
        clear HA
        clear hv5 hs5 hsm' hs41 ha0 z4 z5 z7 z8
        cases h41 : cond (decide (e < n)) (xx == (xj : Int)) false
        · have hrun : RunAt u L xj m e := by
            refine ⟨by have := HNM.out; omega, hall.out, fun h => ?_⟩
            have hc : e < n := by have := HNM.out; omega
            rw [decide_eq_true hc] at h41
            have h42 := HPP.out (by rw [decide_eq_true hc]; rfl)
            rw [← h42.2.2.2.2.2.2]
            simpa using h41
          have HR := Lib.hid hrun; clear hrun h41 HPP
          gi_wp2_with fail
          have hwh : (W.drewN q5).heap.size = W.heap.size := rfl
          refine wpIn_name fun a0 ha0 => ?_
          have z3' : a0.eval (.tmp 3) = .pointer (some ⟨w.heap.size, 0, none⟩) := by rw [ha0]; rfl
          have z4 : a0.eval (.tmp 4) = .pointer (some ⟨w.heap.size + 1, 0, none⟩) := by rw [ha0]; rfl
          have z5 : a0.eval (.tmp 5) = .pointer (some ⟨w.heap.size + 1 + 1, 0, none⟩) := by rw [ha0]; rfl
          have z7 : a0.eval (.tmp 7) = .int .i64 xj := by rw [ha0]; rfl
          have z8 : a0.eval (.tmp 8) = .int .i64 e := by rw [ha0]; rfl
          refine wpIn_region_iq (l := l) cv10d (cv10P N (.slice ua u.length uc) u (xj : Int) W.heap.size va n vc e (covV N f' (u ++ [(xj : Int)]) ((L.drop m).take e))) cv10C (fun w' => Below W.heap.size W w') mixed (by kernel_rfl) (by rw [show a0.tmps.size = 61 by rw [ha0]; rfl]; kernel_rfl) (by kernel_rfl) (by kernel_rfl) (below_drewN' (Below.refl _ _) q5).drew ?_ ?_
          · rintro i op a w7 hop hdep hsm hb K hK
            have hi : i < 11 := (Array.getElem?_eq_some_iff.1 hop).1
            have q3 := (hsm.eval (m := 3) (by decide)).trans z3'
            have q4 := (hsm.eval (m := 4) (by decide)).trans z4
            have q5 := (hsm.eval (m := 5) (by decide)).trans z5
            have q7' := (hsm.eval (m := 7) (by decide)).trans z7
            have q8 := (hsm.eval (m := 8) (by decide)).trans z8
            have hbw := HBW.out.trans (hb.mono HBW.out.size)
            have dv : ∀ e' ∈ op.after, Region.binds .any e' = true → (∀ k, k ≠ i → cv10C k e'.on = false) → (cv10P N (.slice ua u.length uc) u (xj : Int) W.heap.size va n vc e (covV N f' (u ++ [(xj : Int)]) ((L.drop m).take e))) e'.on (a.eval (.tmp (cv10d e'.on))) w7 := fun e he hbi hc => hdep e he hbi hc
            have hn : ∀ v, (cv10P N (.slice ua u.length uc) u (xj : Int) W.heap.size va n vc e (covV N f' (u ++ [(xj : Int)]) ((L.drop m).take e))) i v w7 → K (a.put op.dst v) w7 := fun v hv => hK v w7 hb (fun _ _ _ _ h => h) hv
            have hcase : i = 0 ∨ i = 1 ∨ i = 2 ∨ i = 3 ∨ i = 4 ∨ i = 5 ∨ i = 6 ∨ i = 7 ∨ i = 8 ∨ i = 9 ∨ i = 10 := by omega
            rcases hcase with h | h | h | h | h | h | h | h | h | h | h <;> subst h <;> have ho' := Option.some.inj hop <;> subst ho'
            · exact vl_load 3 agg_int0 (.tmp 3) rfl _ _ q3 (cell_keep hb y0) (hn _ rfl)
            · exact vl_load 24 agg_ints (.tmp 4) rfl _ _ q4 (cell_keep hb y1) (hn _ rfl)
            · exact vl_call1 66 _ (.tmp 45) rfl enter_clI _ (dv ⟨1, .data⟩ (by simp) rfl (fun k hk => by unfold cv10C; simp; try omega)) ((clone_int _ u w7 (SU.out.keep hbw) FU.out (by have := rightB_len HU.out; omega)).mono fun e' w8 ⟨v, he', ho, hb8⟩ =>
                ⟨v, he', hK v w8 (hb.trans (hb8.mono hb.size)) (fun j' u' _ _ h => cv10_mono hb8 j' u' h) (ho.mono hb.size)⟩)
            · exact vl_move (.tmp 7) rfl _ q7' (hn _ rfl)
            · exact wp_slice1 (.tmp 47) rfl xj (dv ⟨3, .data⟩ (by simp) rfl (fun k hk => by unfold cv10C; simp; try omega)) (hK _ _ (hb.alloc hb.size _) (fun j' u' _ _ h => cv10_mono ((Below.refl _ _).alloc (Nat.le_refl _) _) j' u' h) (SI_one w7 xj 3))
            · have h2 : OwnI w7 W.heap.size (a.eval (.tmp 46)) u := (dv ⟨2, .data⟩ (by simp) rfl (fun k hk => by unfold cv10C; simp; try omega))
              have h4 : SI w7 (a.eval (.tmp 48)) [(xj : Int)] := (dv ⟨4, .data⟩ (by simp) rfl (fun k hk => by unfold cv10C; simp; try omega))
              exact wp_app_int (.tmp 46) (.tmp 48) rfl W.heap.size _ _ u [(xj : Int)] rfl rfl h2 h4 (by have := rightB_len HU.out; simp; omega) hb.size fun v' w8 ho hg hat =>
                hK v' w8 (hb.grown hg hb.size (fun k hk => (World.ownsRow.lt h2 k hk).1)) (fun j' u' h5 hc h => cv10_app j' u' h5 hc h) ho
            · exact vl_load 22 agg_rows (.tmp 5) rfl _ _ q5 (cell_keep hb y2) (hn _ rfl)
            · exact vl_move (.tmp 8) rfl _ q8 (hn _ rfl)
            · exact vl_slice_to (.tmp 50) (.tmp 51) rfl va n vc e (dv ⟨6, .data⟩ (by simp) rfl (fun k hk => by unfold cv10C; simp; try omega)) (dv ⟨7, .data⟩ (by simp) rfl (fun k hk => by unfold cv10C; simp; try omega)) (by omega) (hn _ rfl)
            · have h5 : OwnI w7 W.heap.size (a.eval (.tmp 49)) (u ++ [(xj : Int)]) := (dv ⟨5, .data⟩ (by simp) rfl (fun k hk => by unfold cv10C; simp; try omega))
              obtain ⟨g5, c5, hv5, _⟩ := owns_form h5 (by simp)
              have ht := (SV.out.take e (by rw [← HN.out]; exact he)).keep hbw
              refine vl_call3 42 _ _ _ (.tmp 44) (.tmp 49) (.tmp 52) rfl enter_covered _ _ _ (dv ⟨0, .data⟩ (by simp) rfl (fun k hk => by unfold cv10C; simp; try omega)) rfl (dv ⟨8, .data⟩ (by simp) rfl (fun k hk => by unfold cv10C; simp; try omega)) ?_
              refine (CI.out (u ++ [(xj : Int)]) ((L.drop m).take e) _ _ w7 (by have := HF.out; simp; omega) (rightB_snoc' HU.out (by omega) (by omega) hxu) (run_all HL.out HLEN.out HR.out) ((HA.out.drop m).take e) (by have := List.length_take_le e (L.drop m); have := HNM.out; have := HN.out; omega) h5.si (.inr ⟨_, _, _, hv5⟩) ht).mono ?_
              rintro e' w8 ⟨rfl, hb8⟩
              exact ⟨_, rfl, hK _ w8 (hb.trans (hb8.mono hb.size)) (fun j' u' _ _ h => cv10_mono hb8 j' u' h) rfl⟩
            · exact vl_not (.tmp 53) _ rfl _ (dv ⟨9, .data⟩ (by simp) rfl (fun k hk => by unfold cv10C; simp; try omega)) (hn _ rfl)
          rintro a6 w9 hs6 hb9 hv6
          have hs54 : a6.eval (.tmp 54) = .bool (!(covV N f' (u ++ [(xj : Int)]) ((L.drop m).take e))) := hv6 10 (by decide) (fun k => by unfold cv10C; simp)
          have hsm' : Sm [44, 45, 46, 47, 48, 49, 50, 51, 52, 53, 54] a0 a6 := hs6
          have HA := hsm'.lit
          simp only [List.foldl] at HA
          rw [hs54] at HA
          generalize a6.eval (.tmp 44) = t44 at HA
          generalize a6.eval (.tmp 45) = t45 at HA
          generalize a6.eval (.tmp 46) = t46 at HA
          generalize a6.eval (.tmp 47) = t47 at HA
          generalize a6.eval (.tmp 48) = t48 at HA
          generalize a6.eval (.tmp 49) = t49 at HA
          generalize a6.eval (.tmp 50) = t50 at HA
          generalize a6.eval (.tmp 51) = t51 at HA
          generalize a6.eval (.tmp 52) = t52 at HA
          generalize a6.eval (.tmp 53) = t53 at HA
          rw [HA, ha0]
          simp only [Act.put, List.setIfInBounds_toArray, List.set_cons_zero, List.set_cons_succ]
          clear HA
          clear hv6 hs6 hsm' hs54 ha0 z3' z4 z5 z7 z8
          have y0' := cell_keep hb9 y0; have y1' := cell_keep hb9 y1; have y2' := cell_keep hb9 y2; have y3' := cell_keep hb9 y3
          have x0' := bx_below B0.out hb9 B0.out.lt; have x1' := bx_below B1.out hb9 B1.out.lt; have x2' := bx_below B2.out hb9 B2.out.lt; have x3' := bx_below B3.out hb9 B3.out.lt
          have HX0 := Lib.hid x0'; have HX1 := Lib.hid x1'; have HX2 := Lib.hid x2'; have HX3 := Lib.hid x3'
          have z2' := x2'.frozen; have z3' := x3'.frozen
          clear x0' x1' x2' x3' y0 y1 y2 y3 z2 z3 y0' y1'
          have HB9 := Lib.hid (HBW.out.trans (hb9.mono HBW.out.size))
          have HK9 := Lib.hid hb9; clear hb9
          have HAT : Hid (∀ j, j ≤ N → uptoJ N u j = pre ++ [⟨xj, hxN, hxu⟩] → CovAt N f' u L xj m ∧ xj < j ∧ ∀ i, xj < i → i < j → u.any (fun y => (i : Int) == y) = true) := fun j hj hp => by
            obtain ⟨h1, h2, h3⟩ := uptoJ_last j hj hp
            exact ⟨HCV.out xj (by omega) h2, h1, h3⟩
          cases hc : covV N f' (u ++ [(xj : Int)]) ((L.drop m).take e)
          · have HC := Lib.hid hc; clear hc
            gi_wp2_with fail
            refine ⟨(keeps_below HK9.out).trans (KeepsOthers.setCell _ _ _), ⟨rfl, fun j hj hp => ?_, World.cell?_setCell_same' _ _ _ (by rw [y3']; rfl)⟩, HB9.out.setCell (p := ⟨w.heap.size + 1 + 1 + 1, 0, none⟩) (by dsimp only; omega) _⟩
            exact CovAt.fail (HAT.out j hj hp).1 hxN hxu HR.out HA.out (by omega) HAF.out HL.out HLEN.out HC.out
          · have HC := Lib.hid hc; clear hc
            have key : ∀ (v' : Value) (aa : Act), SS w v' (L.drop (m + e)) → ownPostK (KeepS fun k => k < w.heap.size ∨ k = w.heap.size + 4 ∨ k = w.heap.size + 5) (fun pre W => CvI N f' u L w (.slice ua u.length uc) pre W ∧ Below w.heap.size w W)
                (fun c pre W => (c = .ret ∧ (∀ j, j ≤ N → uptoJ N u j = pre → covV N (f' + 1) u L = false) ∧ W.cell? ⟨w.heap.size + 1 + 1 + 1, 0, none⟩ = some (.bool false)) ∧ Below w.heap.size w W)
                (pre ++ [⟨xj, hxN, hxu⟩]) W .normal aa (w9.setCell ⟨w.heap.size + 1 + 1, 0, none⟩ v') := fun v' aa hv' => by
              refine ⟨(keeps_below HK9.out).trans (KeepsOthers.setCell _ _ _), KeepS.t (KeepS.of_below HK9.out fun k hk => by have := HWZ.out; omega) (fun k hk => Below.heap_setCell _ _ _ _ (by dsimp only; omega)), ⟨m + e, v', by have := HR.out.1; omega, HX2.out.set v', hv', fun j hj hp => ?_, bx_other HX0.out (by omega) _, bx_other HX1.out (by omega) _, bx_other HX3.out (by omega) _, ?_⟩, HB9.out.setCell (p := ⟨w.heap.size + 1 + 1, 0, none⟩) (by dsimp only; omega) _⟩
              · obtain ⟨h1, h2, h3⟩ := HAT.out j hj hp
                have h4 := h1.next HR.out HA.out HL.out HLEN.out HC.out
                have h5 := CovAt.skips HL.out HLEN.out h4 (j - (xj + 1)) fun k h6 h7 => h3 k (by omega) (by omega)
                rwa [show xj + 1 + (j - (xj + 1)) = j by omega] at h5
              · have := HWZ.out; have := HK9.out.size; simp [World.setCell]; omega
            have KEY := Lib.hid key; clear key
            have hs1 : SS w (.slice (Option.map (fun x => x.add e) va) (n - e) (vc - e)) (L.drop (m + e)) := by rw [← List.drop_drop]; exact SS_from SV.out he
            have hs2 : vc = e → SS w (.slice va (n - e) 0) (L.drop (m + e)) := fun h => by rw [← List.drop_drop]; exact SS_from0 SV.out he h
            have HS1 := Lib.hid hs1; have HS2 := Lib.hid hs2; clear hs1 hs2
            gi_wp2_with fail
            · exact KEY.out _ _ (HS2.out (by assumption))
            · exact KEY.out _ _ HS1.out
        · have hlt : e < n := by
            cases hd : decide (e < n)
            · rw [hd] at h41; cases h41
            · simpa using hd
          have hx : gi (ri L (m + e)) u.length = xj := by
            rw [decide_eq_true hlt] at h41
            have h42 := HPP.out (by rw [decide_eq_true hlt]; rfl)
            rw [← h42.2.2.2.2.2.2]
            simpa using h41
          have HX := Lib.hid hx; clear hx h41 HPP
          gi_wp2_with fail
          go_roundw
          case rel =>
            refine ⟨e + 1, by omega, by go_num, ⟨_, rfl⟩, fun k h1 h2 => ?_⟩
            by_cases hk : k = m + e
            · subst hk; exact HX.out
            · exact hall.out k h1 (by omega)
          case measure => simp [intOf]; omega
    case done =>
      rintro D ys W hD rfl ⟨⟨m, vl', hm, b2, sl', hcv, b0, b1, b3, hwz⟩, hB⟩ hK
      obtain ⟨hml, hcov⟩ := (hcv N (Nat.le_refl _) rfl).done (by omega) HAF.out HL.out HLEN.out
      have HC := Lib.hid hcov
      have hnil : L.drop m = [] := by rw [hml, List.drop_length]
      rw [hnil] at sl'
      obtain ⟨_, ⟨va, vc, rfl, _, _, _⟩, _⟩ := sl'
      have HBW := Lib.hid hB
      have HK := Lib.hid hK
      have y2 := b2.cell; have y3 := b3.cell; have z3 := b3.frozen
      clear hcv b0 b1 hwz hB hcov hnil hK
      go_wp2_with fail
      have hK' := (KeepsOthers.setCell W ⟨w.heap.size + 1 + 1 + 1, 0, none⟩ (.bool true)).same D _ HK.out rfl
      refine ⟨by simp, .inl ⟨_, _, rfl, run_takeDeferred hK', ?_⟩⟩
      have hc5 := cell_kept (World.cell?_setCell_same' W ⟨w.heap.size + 1 + 1 + 1, 0, none⟩ (.bool true) (by rw [y3]; rfl)) (grownBy_putObj' _ D (.deferred none)) (fun r e => by cases e; exact ⟨_, hK', rfl⟩)
      refine ⟨.bool true, ?_, by rw [HC.out], (HBW.out.setCell (p := ⟨w.heap.size + 1 + 1 + 1, 0, none⟩) (by dsimp only; omega) _).trans (belowK_b (w := w) (Nat.le_refl _) _ D _ _ (by rw [HS6.out] at hD; omega) hK' rfl rfl)⟩
      simp [results, Tryz.f42, go_sem, hc5]
    case stop =>
      rintro D c pre W hD ⟨k, hk, rfl⟩ ⟨⟨rfl, hcv, hcr⟩, hB⟩ hK
      have HC := Lib.hid (hcv k hk rfl)
      gi_wp2
      refine ⟨by simp, .inl ⟨_, _, rfl, run_takeDeferred hK, ?_⟩⟩
      have hc5 := cell_kept hcr (grownBy_putObj' _ D (.deferred none)) (fun r e => by cases e; exact ⟨_, hK, rfl⟩)
      refine ⟨.bool false, ?_, by rw [HC.out], hB.trans (belowK_b (w := w) (Nat.le_refl _) W D _ _ (by rw [HS6.out] at hD; omega) hK rfl rfl)⟩
      simp [results, Tryz.f42, go_sem, hc5]
/-- THE CONTRACT of covered -/
theorem covered_any (N : Nat) (hN : N ≤ 32) : ∀ f, CovC N f
  | 0 => covered_step N 0 hN fun f' h => by cases h
  | f + 1 => covered_step N (f + 1) hN fun f' h => by cases h; exact covered_any N hN f
end Go.Proofs.YtehbnckdllbmgaaGreatDoor
