/- Keys that are pairs; maps that a loop ranges over. -/
import Derived.Test.YtfpnjbomlmhlpaaGreatPk07
import Derived.Test.YtfpnjbomlmhlpaaGreatPk08
import Derived.Test.YtfpnjbomlmhlpaaGreatShelfS
import Derived.Test.YtfpnjbomlmhlpaaGreatShelf
import Derived.Laws.Cover1
import Derived.Shelf.SlSortCmp.QuietGrown
import Derived.WideKeyPair
import Derived.Maps.RangeWalk
set_option linter.unusedSimpArgs false
set_option linter.unusedVariables false

/- Comparisons of edges; slices.SortFunc of edges. -/
namespace Go.Proofs.YtfpnjbomlmhlpaaGreat
open Go.RowKit Go.Sort


theorem below_grow (w : World) (n : Nat) (os : Array Obj) : Below w.heap.size w (grow (w.drewN n) os) :=
  ⟨rfl, rfl, rfl, by rw [size_grow]; exact Nat.le_add_right _ _, fun k hk => by simp [grow]; rw [Array.getElem?_append_left (by exact hk)]⟩

/-- w' is w after draws, with new blocks behind it -/
def GR (w w' : World) : Prop := ∃ q os, w' = grow (w.drewN q) os

theorem GR.refl (w : World) : GR w w := ⟨0, #[], by rw [grow_empty]; rfl⟩

theorem GR.drewN {w w' : World} (h : GR w w') (m : Nat) : GR w (w'.drewN m) := by
  obtain ⟨q, os, rfl⟩ := h; exact ⟨q + m, os, by show grow ((w.drewN q).drewN m) os = _; rw [World.drewN_drewN]⟩

theorem GR.drew {w w' : World} (h : GR w w') : GR w w'.drew := h.drewN 1

theorem GR.alloc {w w' : World} (h : GR w w') (o : Obj) : GR w (w'.alloc o) := by
  obtain ⟨q, os, rfl⟩ := h; exact ⟨q, os ++ #[o], by rw [alloc_eq_grow, grow_grow]⟩

theorem GR.trans {a b c : World} (h : GR a b) (k : GR b c) : GR a c := by
  obtain ⟨q, os, rfl⟩ := h; obtain ⟨q', os', rfl⟩ := k
  exact ⟨q + q', os ++ os', by show grow (grow ((a.drewN q).drewN q') os) os' = _; rw [grow_grow, World.drewN_drewN]⟩

theorem GR.below {w w' : World} (h : GR w w') : Below w.heap.size w w' := by obtain ⟨q, os, rfl⟩ := h; exact below_grow _ _ _

def cI (x y : Int) : Int := if x < y then -1 else if y < x then 1 else 0

theorem isNaN_int (x : Int) (w : World) : Calls Tryz.prog 105 #[.int .i64 x] w fun e w' => e = .returned (.bool false) ∧ w' = w := by
  have hx : (x != x) = false := by simp
  go_enter Tryz.func105, Tryz.ntmps105
  go_wp2_with fail
  go_ret
  exact ⟨rfl, rfl⟩

theorem compare_int (a b : Int) (w : World) : Calls Tryz.prog 74 #[.int .i64 a, .int .i64 b] w fun e w' => e = .returned (.int .i64 (cI a b)) ∧ w' = w := by
  go_enter Tryz.func74, Tryz.ntmps74
  go_wp2_with fail
  refine (isNaN_int a w).mono ?_
  rintro e w1 ⟨rfl, rfl⟩
  go_wp2_with fail
  refine (isNaN_int b _).mono ?_
  rintro e w1 ⟨rfl, rfl⟩
  by_cases h1 : a < b
  · have C : Hid (cI a b = -1) := by show cI a b = -1; unfold cI; rw [if_pos h1]
    go_wp2_with fail
    go_ret
    exact ⟨ret_int C.out.symm, rfl⟩
  · by_cases h2 : b < a
    · have C : Hid (cI a b = 1) := by show cI a b = 1; unfold cI; rw [if_neg h1, if_pos h2]
      go_wp2_with fail
      go_ret
      exact ⟨ret_int C.out.symm, rfl⟩
    · have C : Hid (cI a b = 0) := by show cI a b = 0; unfold cI; rw [if_neg h1, if_neg h2]
      go_wp2_with fail
      go_ret
      exact ⟨ret_int C.out.symm, rfl⟩

def orV (x y : Int) : Int := if x = 0 then y else x

theorem or_two (x y : Int) (b : Nat) (w : World) (h0 : w.cell? ⟨b, 0, none⟩ = some (.int .i64 x)) (h1 : w.cell? ⟨b, 1, none⟩ = some (.int .i64 y)) :
    Calls Tryz.prog 73 #[.slice (some ⟨b, 0, none⟩) 2 2] w fun e w' => e = .returned (.int .i64 (orV x y)) ∧ w' = w := by
  by_cases hx : x = 0
  · have C : Hid (orV x y = y) := if_pos hx
    subst hx
    go_enter Tryz.func73, Tryz.ntmps73
    go_wp2_with fail
    refine wp_loop_rounds 3 ?_
    rw [rounds_succ]
    go_wp2_with fail
    rw [rounds_succ]
    by_cases hy : y = 0
    · subst hy
      go_wp2_with fail
      rw [rounds_succ]
      go_wp2_with fail
      go_ret
      exact ⟨ret_int C.out.symm, rfl⟩
    · have hb : (y != 0) = true := by simpa using hy
      go_wp2_with fail
      go_ret
      exact ⟨ret_int C.out.symm, rfl⟩
  · have C : Hid (orV x y = x) := if_neg hx
    have hb : (x != 0) = true := by simpa using hx
    go_enter Tryz.func73, Tryz.ntmps73
    go_wp2_with fail
    refine wp_loop_rounds 3 ?_
    rw [rounds_succ]
    go_wp2_with fail
    go_ret
    exact ⟨ret_int C.out.symm, rfl⟩

theorem vl_two {o : Oper} {a : Act} {w : World} {K : Act → World → Prop} {Q : Exit → Act → World → Prop} (x y : Operand) (ho : o.op = .buildSlice 65 2 #[(0, x), (1, y)]) (p q : Int) (hx : a.eval x = .int .i64 p) (hy : a.eval y = .int .i64 q)
    (h : K (a.put o.dst (.slice (some ⟨w.heap.size, 0, none⟩) 2 2)) (w.alloc (.cells #[.int .i64 p, .int .i64 q] 3))) : o.wp Tryz.prog a w K Q := by
  unfold Oper.wp execOp
  simp only [ho]
  generalize a.eval = e at *
  go_simp
  exact h

theorem enter_cmpI : ∀ args w, (callFunc 74 args).run Tryz.prog w = .ok (.enter 74 args) w := enters_of Tryz.func74 (by kernel_rfl) rfl

theorem enter_orI : ∀ args w, (callFunc 73 args).run Tryz.prog w = .ok (.enter 73 args) w := enters_of Tryz.func73 (by kernel_rfl) rfl

theorem holdsK_of {α : Type} [Inhabited α] {enc : α → List Value} {k : Nat} (hk : ∀ x, (enc x).length = k) (h0 : 0 < k) {w : World} {B g n cap : Nat} {e : TypeId} {l : List α} (h : w.ownsRow B e k (.slice (some ⟨g, 0, none⟩) n cap) l.length (l.flatMap enc)) : HoldsK enc k w g 0 l.toArray := by
  have hn : l.length = n := by
    rcases h.2 with ⟨e, _⟩ | ⟨g', cap', cur, e, _⟩
    · cases e
    · simp at e; exact e.2.1.symm
  subst hn
  intro t ht
  rw [size_flatK] at ht
  simp only [List.size_toArray] at ht
  rw [get_flatK enc k l.toArray t (by simpa using ht), Nat.zero_add]
  have hi : t / k < l.length := Nat.div_lt_of_lt_mul (by rw [Nat.mul_comm]; exact ht)
  have hj : t % k < k := Nat.mod_lt _ h0
  refine ⟨?_, h.frozenAt t⟩
  have e1 : t = t / k * k + t % k := by rw [Nat.mul_comm]; exact (Nat.div_add_mod t k).symm
  have key := h.cellAt t ht
  rw [key]
  conv => lhs; rw [e1]
  rw [flat_get enc hk l (t / k) (t % k) hi hj]
  have hel : (l.toArray)[t / k]! = l[t / k] := by simp [hi]
  rw [hel, List.getElem?_eq_getElem (by rw [hk]; exact hj)]
  simp [List.getElem!_eq_getElem?_getD, List.getElem?_eq_getElem (show t % k < (enc l[t / k]).length by rw [hk]; exact hj)]

theorem below_worldK {α : Type} [Inhabited α] (enc : α → List Value) (k : Nat) (w : World) (g n : Nat) (d : Array α) (os : Array Obj) : w.grownBy (sortWorldK enc k w g 0 n d os) (some g) := by
  unfold sortWorldK
  refine ⟨rfl, rfl, rfl, by rw [size_grow, size_putRowK]; exact Nat.le_add_right _ _, fun b hb hne => ?_⟩
  have hs : b < (putRowK enc k (Sort.ahead w n) g 0 d).heap.size := by rw [size_putRowK]; exact hb
  have hb' : b ≠ g := fun e => hne (by rw [e])
  have e1 : (grow (putRowK enc k (Sort.ahead w n) g 0 d) os).heap[b]? = (putRowK enc k (Sort.ahead w n) g 0 d).heap[b]? := by
    simp only [grow]; rw [Array.getElem?_append_left hs]
  rw [e1]
  unfold putRowK putRow mapBlock
  simp only [Array.getElem?_modify]
  rw [if_neg (fun e => hb' e.symm)]
  rfl

theorem at_worldK {α : Type} [Inhabited α] {enc : α → List Value} {k : Nat} {w : World} {g n : Nat} {d d' : Array α} {os : Array Obj} (h : HoldsK enc k w g 0 d) (hg : g < w.heap.size) (hs : d'.size = d.size) {i j : Nat} (hi : i < d'.size) (hj : j < k) :
    (sortWorldK enc k w g 0 n d' os).cell? ⟨g, i * k + j, none⟩ = some (enc d'[i]!)[j]! := by
  have := (HoldsK.cell (holdsK_sortWorldK enc k w g 0 n d d' os hg h hs) hi hj).1
  rwa [Nat.zero_add] at this

theorem perm_in {d d' : Array (Nat × Nat)} (h : PermIn 0 d.size d d') : d'.toList.Perm d.toList := by
  obtain ⟨h1, _, h3⟩ := h
  have e1 : d.extract 0 d.size = d := by simp
  have e2 : d'.extract 0 d.size = d' := by rw [← h1]; simp
  rwa [e1, e2] at h3

/-- edges, by both ends -/
def eC (x y : Nat × Nat) : Int := orV (cI x.1 y.1) (cI x.2 y.2)
def p1d (i : Nat) : Nat := if i = 12 then 4 else i + 5
def p1V (X Y : Nat) (x y : Nat × Nat) : Nat → Value
  | 0 => .pointer (some ⟨X, 0, none⟩)
  | 1 => .int .i64 x.1
  | 2 => .pointer (some ⟨Y, 0, none⟩)
  | 3 => .int .i64 y.1
  | 4 => .int .i64 (cI x.1 y.1)
  | 5 => .pointer (some ⟨X, 1, none⟩)
  | 6 => .int .i64 x.2
  | 7 => .pointer (some ⟨Y, 1, none⟩)
  | 8 => .int .i64 y.2
  | 9 => .int .i64 (cI x.2 y.2)
  | _ => .int .i64 (eC x y)
def p1P (X Y : Nat) (x y : Nat × Nat) (i : Nat) (v : Value) (w : World) : Prop :=
  if i = 10 then ∃ b, v = .slice (some ⟨b, 0, none⟩) 2 2 ∧ w.cell? ⟨b, 0, none⟩ = some (.int .i64 (cI x.1 y.1)) ∧ w.cell? ⟨b, 1, none⟩ = some (.int .i64 (cI x.2 y.2)) else v = p1V X Y x y i
theorem p1P_mono {X Y : Nat} {x y : Nat × Nat} (i : Nat) (v : Value) (w w' : World) (h : p1P X Y x y i v w) (hb : Below w.heap.size w w') : p1P X Y x y i v w' := by
  unfold p1P at *
  by_cases e : i = 10
  · rw [if_pos e] at h ⊢
    obtain ⟨b, e, h0, h1⟩ := h
    exact ⟨b, e, cell_keep hb h0, cell_keep hb h1⟩
  · rw [if_neg e] at h ⊢
    exact h
theorem p1P_is {X Y : Nat} {x y : Nat × Nat} {i : Nat} {v : Value} {w : World} (hi : i ≠ 10) : p1P X Y x y i v w ↔ v = p1V X Y x y i := by unfold p1P; rw [if_neg hi]

theorem ix_arr {o : Oper} {a : Act} {w : World} {K : Act → World → Prop} {Q : Exit → Act → World → Prop} (x : Operand) (k : Nat) (hk : k < 2) (ho : o.op = .indexAddr 86 x (.const (.int .i64 k))) (b : Nat) (hx : a.eval x = .pointer (some ⟨b, 0, none⟩)) (h : K (a.put o.dst (.pointer (some ⟨b, k, none⟩))) w) : o.wp Tryz.prog a w K Q := by
  have hc : k = 0 ∨ k = 1 := by omega
  unfold Oper.wp execOp
  rcases hc with rfl | rfl
  all_goals
    simp only [ho, hx]
    go_simp
    exact h
theorem enter_Edges1 : ∀ args w, (callFunc 72 args).run Tryz.prog w = .ok (.enter 72 args) w := enters_of Tryz.func72 (by kernel_rfl) rfl

set_option maxRecDepth 100000 in
set_option maxHeartbeats 2000000 in
theorem Edges1_any (x y : Nat × Nat) (w : World) : Calls Tryz.prog 72 #[.agg #[.int .i64 x.1, .int .i64 x.2], .agg #[.int .i64 y.1, .int .i64 y.2]] w
    fun e w' => e = .returned (.int .i64 (eC x y)) ∧ GR w w' := by
  obtain ⟨X, hX⟩ : ∃ X, X = w.heap.size := ⟨_, rfl⟩
  obtain ⟨W, hW⟩ : ∃ W, W = (w.alloc (.cells #[.int .i64 x.1, .int .i64 x.2] 86)).alloc (.cells #[.int .i64 y.1, .int .i64 y.2] 86) := ⟨_, rfl⟩
  have GW : GR w W := by rw [hW]; exact ((GR.refl w).alloc _).alloc _
  have c0 : W.cell? ⟨X, 1, none⟩ = some (.int .i64 x.2) := by rw [hW, hX]; go_simp
  have c3 : W.cell? ⟨X, 0, none⟩ = some (.int .i64 x.1) := by rw [hW, hX]; go_simp
  have d0 : W.cell? ⟨X + 1, 1, none⟩ = some (.int .i64 y.2) := by rw [hW, hX]; go_simp
  have d3 : W.cell? ⟨X + 1, 0, none⟩ = some (.int .i64 y.1) := by rw [hW, hX]; go_simp
  go_enter Tryz.func72, Tryz.ntmps72
  go_wp2_with fail
  rw [← hW, ← hX]
  clear hW hX
  refine wp_name fun a0 ha0 => ?_
  have q2 : a0.eval (.tmp 2) = .pointer (some ⟨X, 0, none⟩) := by rw [ha0]; rfl
  have q3 : a0.eval (.tmp 3) = .pointer (some ⟨X + 1, 0, none⟩) := by rw [ha0]; rfl
  have HMM : orV (cI x.1 y.1) (cI x.2 y.2) = eC x y := rfl
  have BW : Below W.heap.size W W.drew := (Below.refl _ _).drew
  refine wp_region_ip p1d (p1P X (X + 1) x y) (fun w' => GR w w' ∧ Below W.heap.size W w') mixed (by kernel_rfl) (by rw [ha0]; rfl) (by kernel_rfl) ⟨GW.drew, BW⟩ p1P_mono ?_ ?_
  · rintro i op a w1 hop hdep hsm ⟨hg, hb⟩ K hK
    have hi : i < 13 := (Array.getElem?_eq_some_iff.1 hop).1
    have r2 : a.eval (.tmp 2) = .pointer (some ⟨X, 0, none⟩) := (hsm.eval (by decide)).trans q2
    have r3 : a.eval (.tmp 3) = .pointer (some ⟨X + 1, 0, none⟩) := (hsm.eval (by decide)).trans q3
    have k0 := cell_keep hb c0
    have k3 := cell_keep hb c3
    have l0 := cell_keep hb d0
    have l3 := cell_keep hb d3
    have dv : ∀ e ∈ op.after, Region.binds .any e = true → e.on ≠ 10 → a.eval (.tmp (p1d e.on)) = p1V X (X + 1) x y e.on := fun e he hbi hne => (p1P_is hne).1 (hdep e he hbi)
    have hn : i ≠ 10 → ∀ v, v = p1V X (X + 1) x y i → K (a.put op.dst v) w1 := fun hne v hv => hK _ _ ⟨hg, hb⟩ (Below.refl _ _) ((p1P_is hne).2 hv)
    have hcase : i = 0 ∨ i = 1 ∨ i = 2 ∨ i = 3 ∨ i = 4 ∨ i = 5 ∨ i = 6 ∨ i = 7 ∨ i = 8 ∨ i = 9 ∨ i = 10 ∨ i = 11 ∨ i = 12 := by omega
    rcases hcase with h | h | h | h | h | h | h | h | h | h | h | h | h <;> subst h <;> have ho' := Option.some.inj hop <;> subst ho'
    · exact ix_arr (.tmp 2) 0 (by omega) rfl X r2 (hn (by decide) _ rfl)
    · exact vl_load 3 agg_int0 (.tmp 5) rfl _ _ (dv ⟨0, .data⟩ (by simp) rfl (by decide)) k3 (hn (by decide) _ rfl)
    · exact ix_arr (.tmp 3) 0 (by omega) rfl (X + 1) r3 (hn (by decide) _ rfl)
    · exact vl_load 3 agg_int0 (.tmp 7) rfl _ _ (dv ⟨2, .data⟩ (by simp) rfl (by decide)) l3 (hn (by decide) _ rfl)
    · exact vl_call2 74 _ _ (.tmp 6) (.tmp 8) rfl enter_cmpI _ _ (dv ⟨1, .data⟩ (by simp) rfl (by decide)) (dv ⟨3, .data⟩ (by simp) rfl (by decide)) ((compare_int _ _ _).mono fun e w2 ⟨he, hw⟩ => ⟨_, he, by subst hw; exact hn (by decide) _ rfl⟩)
    · exact ix_arr (.tmp 2) 1 (by omega) rfl X r2 (hn (by decide) _ rfl)
    · exact vl_load 3 agg_int0 (.tmp 10) rfl _ _ (dv ⟨5, .data⟩ (by simp) rfl (by decide)) k0 (hn (by decide) _ rfl)
    · exact ix_arr (.tmp 3) 1 (by omega) rfl (X + 1) r3 (hn (by decide) _ rfl)
    · exact vl_load 3 agg_int0 (.tmp 12) rfl _ _ (dv ⟨7, .data⟩ (by simp) rfl (by decide)) l0 (hn (by decide) _ rfl)
    · exact vl_call2 74 _ _ (.tmp 11) (.tmp 13) rfl enter_cmpI _ _ (dv ⟨6, .data⟩ (by simp) rfl (by decide)) (dv ⟨8, .data⟩ (by simp) rfl (by decide)) ((compare_int _ _ _).mono fun e w2 ⟨he, hw⟩ => ⟨_, he, by subst hw; exact hn (by decide) _ rfl⟩)
    · exact vl_two (.tmp 9) (.tmp 14) rfl _ _ (dv ⟨4, .data⟩ (by simp) rfl (by decide)) (dv ⟨9, .data⟩ (by simp) rfl (by decide)) (hK _ _ ⟨hg.alloc _, below_alloc hb _⟩ ((Below.refl _ _).alloc (Nat.le_refl _) _) ⟨_, rfl, by simp, by simp⟩)
    · obtain ⟨b, e15, f0, f1⟩ : ∃ b, a.eval (.tmp 15) = .slice (some ⟨b, 0, none⟩) 2 2 ∧ w1.cell? ⟨b, 0, none⟩ = some (.int .i64 (cI x.1 y.1)) ∧ w1.cell? ⟨b, 1, none⟩ = some (.int .i64 (cI x.2 y.2)) := hdep ⟨10, .data⟩ (by simp) rfl
      exact vl_call1 73 _ (.tmp 15) rfl enter_orI _ e15 ((or_two _ _ b _ f0 f1).mono fun e w2 ⟨he, hw⟩ => ⟨_, he, by subst hw; exact hn (by decide) _ (congrArg (Value.int .i64) HMM)⟩)
    · exact vl_assign (.tmp 16) rfl _ (dv ⟨11, .data⟩ (by simp) rfl (by decide)) (hn (by decide) _ rfl)
  · rintro a w1 hsm ⟨hg, hb⟩ hv
    have v4 : a.eval (.tmp 4) = .int .i64 (eC x y) := (p1P_is (by decide)).1 (hv 12 (by decide))
    have hsm' : Sm [5, 6, 7, 8, 9, 10, 11, 12, 13, 14, 15, 16, 4] a0 a := hsm
    have HA := hsm'.lit
    simp only [List.foldl] at HA
    rw [v4] at HA
    generalize a.eval (.tmp 5) = t5 at HA
    generalize a.eval (.tmp 6) = t6 at HA
    generalize a.eval (.tmp 7) = t7 at HA
    generalize a.eval (.tmp 8) = t8 at HA
    generalize a.eval (.tmp 9) = t9 at HA
    generalize a.eval (.tmp 10) = t10 at HA
    generalize a.eval (.tmp 11) = t11 at HA
    generalize a.eval (.tmp 12) = t12 at HA
    generalize a.eval (.tmp 13) = t13 at HA
    generalize a.eval (.tmp 14) = t14 at HA
    generalize a.eval (.tmp 15) = t15 at HA
    generalize a.eval (.tmp 16) = t16 at HA
    rw [HA, ha0]
    simp only [Act.put, List.setIfInBounds_toArray, List.set_cons_zero, List.set_cons_succ]
    clear HA hsm hsm' hv v4 ha0
    have HG := Lib.hid hg
    clear hg hb
    go_wp2_with fail
    go_ret
    exact ⟨rfl, HG.out⟩

end Go.Proofs.YtfpnjbomlmhlpaaGreat

/- Contract: slices.SortFunc of edges. -/
namespace Go.Proofs.YtfpnjbomlmhlpaaGreat
open Go.RowKit Go.Sort

theorem eC_lt (x y : Nat × Nat) : eC x y < 0 ↔ ltE x y := by
  unfold eC orV cI ltE
  repeat' split
  all_goals omega
instance decE (x y : Nat × Nat) : Decidable (ltE x y) := by unfold ltE; exact inferInstance
theorem swo_e : Sort.SWO (ltOf eC) := by
  have key : ∀ x y, ltOf eC x y = decide (ltE x y) := fun x y => by
    unfold ltOf; rw [Bool.eq_iff_iff, decide_eq_true_eq, decide_eq_true_eq]; exact eC_lt x y
  refine ⟨fun x => ?_, fun x y z h1 h2 => ?_, fun x y z h1 h2 => ?_⟩
  · rw [key, decide_eq_false_iff_not]; unfold ltE; omega
  · rw [key, decide_eq_true_eq] at *; unfold ltE at *; omega
  · rw [key, decide_eq_false_iff_not] at *; unfold ltE at *; omega
def egL (x : Nat × Nat) : List Value := [.int .i64 x.1, .int .i64 x.2]
theorem egL_is : egL = egCells := rfl
theorem egL_one (x : Nat × Nat) : ∀ v ∈ egL x, v.oneCell' = true := by
  intro v hv
  simp only [egL, List.mem_cons, List.not_mem_nil, or_false] at hv
  rcases hv with rfl | rfl <;> rfl
theorem agg_int2 : ∀ w, (isAgg 86).run Tryz.prog w = .ok true w := Tryz.isAgg86
theorem size_int2 : ∀ w, (Go.sizeOf 86).run Tryz.prog w = .ok 2 w := Tryz.sizeOf86
theorem asc_of {d : Array (Nat × Nat)} (h : SortedIn (ltOf eC) 0 d.size d) (hn : d.toList.Nodup) : d.toList.Pairwise ltE := by
  rw [List.nodup_iff_pairwise_ne] at hn
  rw [List.pairwise_iff_getElem] at *
  intro i j hi hj hij
  have h1 := h i j (Nat.zero_le _) hij (by simpa using hj)
  have h2 := hn i j hi hj hij
  have hi' : i < d.size := by simpa using hi
  have hj' : j < d.size := by simpa using hj
  rw [getElem!_pos d i hi', getElem!_pos d j hj'] at h1
  unfold ltOf at h1
  rw [decide_eq_false_iff_not, eC_lt] at h1
  simp only [Array.getElem_toList] at h2 ⊢
  generalize d[i] = x at *
  generalize d[j] = y at *
  unfold ltE at *
  have : x ≠ y := h2
  have h3 : x.1 ≠ y.1 ∨ x.2 ≠ y.2 := by
    by_cases e : x.1 = y.1
    · exact .inr fun e2 => this (Prod.ext e e2)
    · exact .inl e
  omega
theorem sortE_any (w : World) (B g n cap : Nat) (L : Edg) (hd : L.Nodup) (ho : w.ownsRow B 86 2 (.slice (some ⟨g, 0, none⟩) n cap) L.length (L.flatMap egL)) (hl : L.length ≤ 100000) :
    Calls Tryz.prog 71 #[.slice (some ⟨g, 0, none⟩) n cap, .func (.func 72) #[] #[]] w fun e w' =>
      e = .returned (.tuple #[]) ∧ w.grownBy w' (some g) ∧ ∃ L', L'.Perm L ∧ L'.Pairwise ltE ∧ SEg w' (.slice (some ⟨g, 0, none⟩) n cap) L' := by
  have hH := holdsK_of (enc := egL) (k := 2) (fun _ => rfl) (by omega) ho
  have hlt := World.ownsRow.lt ho g rfl
  obtain ⟨rfl, hc1, hc2⟩ : n = L.length ∧ L.length ≤ cap ∧ cap ≤ maxLen := by
    rcases ho.2 with ⟨e, _⟩ | ⟨g', cap', cur, e, _, _, h1, h2, _⟩
    · cases e
    · simp at e; obtain ⟨_, e1, rfl⟩ := e; exact ⟨e1, h1, h2⟩
  have hcmp : CmpLays Tryz.prog 72 #[] egL 2 eC g 0 L.toArray.size w := fun m os dk _ x y =>
    (Edges1_any x y _).mono fun e w' ⟨he, hg⟩ => ⟨he, hg⟩
  have key := AnyQ.slices_SortFunc Tryz.sortE 2 agg_int2 size_int2 egL (fun _ => rfl) egL_one eC swo_e 72 #[] g 0 cap L.toArray w enter_Edges1 hcmp hH hlt.2 (by simp; omega)
  rw [List.size_toArray] at key
  refine key.mono ?_
  rintro e w' ⟨rfl, d', q, os, hp, hs, rfl⟩
  have hperm : d'.toList.Perm L := by
    have := perm_in (d := L.toArray) (d' := d') (by rw [List.size_toArray]; exact hp)
    simpa using this
  have hsz : d'.size = L.length := by have := hp.1; simpa using this
  refine ⟨rfl, below_worldK _ _ _ _ _ _ _, d'.toList, hperm, asc_of (by rw [hsz]; exact hs) (hperm.nodup_iff.2 hd), ?_⟩
  have hln : d'.toList.length = L.length := by simpa using hsz
  refine ⟨_, cap, by rw [hln], by rw [Array.length_toList, hsz]; exact hc1, hc2, fun i hi => ⟨g, 0, rfl, ?_⟩⟩
  have hi0 := hi
  rw [Array.length_toList] at hi
  have key : ∀ j, j < 2 → (sortWorldK egL 2 w g 0 L.length d' os).cell? ⟨g, i * 2 + j, none⟩ = some (egL d'[i]!)[j]! := fun j hj => at_worldK hH hlt.2 (by simpa using hsz) hi hj
  have hel : egi d'.toList i = d'[i]! := by
    rw [egi_lt (by simpa using hi)]
    simp [hi]
  rw [hel, Nat.zero_add]
  exact ⟨key 0 (by omega), key 1 (by omega)⟩
theorem inE_nil (F : FuncId) (w : World) : Calls Tryz.prog 114 #[.slice none 0 0, .int .i64 0, .int .i64 0, .func (.func F) #[] #[]] w fun e w' => e = .returned (.tuple #[]) ∧ w' = w := by
  go_enter Tryz.func114, Tryz.ntmps114
  go_wp2_with fail
  refine wp_loop_rounds 1 ?_
  rw [rounds_succ]
  go_wp2_with fail
  refine bodyPost_end (results_none Tryz.results114 _ _ _) rfl ?_
  exact ⟨rfl, rfl⟩
theorem pdE_nil (F : FuncId) (n : Int) (w : World) : Calls Tryz.prog 103 #[.slice none 0 0, .int .i64 0, .int .i64 0, .int .i64 n, .func (.func F) #[] #[]] w fun e w' => e = .returned (.tuple #[]) ∧ w' = w := by
  go_enter Tryz.func103, Tryz.ntmps103
  go_wp2_with fail
  refine wp_loop_rounds 1 ?_
  rw [rounds_succ]
  go_wp2_with fail
  refine (inE_nil F w).mono ?_
  rintro e w1 ⟨rfl, rfl⟩
  go_wp2_with fail
  refine bodyPost_ret (v := .tuple #[]) (results_none Tryz.results103 _ _ _) rfl ?_
  exact ⟨rfl, rfl⟩
theorem sortE_nil (F : FuncId) (w : World) : Calls Tryz.prog 71 #[.slice none 0 0, .func (.func F) #[] #[]] w fun e w' => e = .returned (.tuple #[]) ∧ w' = w := by
  have hl := Lib.hid (Tryz.bits_Len 0 w (by omega) (by omega))
  go_enter Tryz.func71, Tryz.ntmps71
  go_wp2_with (go_at_call 104; refine hl.out.mono ?_; rintro e w1 ⟨rfl, rfl⟩)
  refine (pdE_nil F _ _).mono ?_
  rintro e w1 ⟨rfl, rfl⟩
  go_wp2_with fail
  refine bodyPost_end (results_none Tryz.results71 _ _ _) rfl ?_
  exact ⟨rfl, rfl⟩
end Go.Proofs.YtfpnjbomlmhlpaaGreat

/- The builtin append onto edges and entries that a call owns. -/
namespace Go.Proofs.YtfpnjbomlmhlpaaGreat
open Go.RowKit
/-! (Nat × Nat) -/
theorem Tryz_infoint2 : (Tryz.prog.info? 86).map (fun i => (i.zero, i.size, i.bytes)) = some (some (.agg #[.int .i64 0, .int .i64 0]), 2, 16) := by kernel_rfl
theorem EgAt.nth {w : World} {b off : Nat} {x : (Nat × Nat)} (h : EgAt w b off x) (j : Nat) (u : Value) (hj : (egCells x)[j]? = some u) : w.cell? ⟨b, off + j, none⟩ = some u := by
  obtain ⟨y0, y1⟩ := h
  match j, hj with
  | 0, hj => simp [egCells] at hj; subst hj; exact y0
  | 1, hj => simp [egCells] at hj; subst hj; exact y1
theorem SEg.flat {w : World} {ad : Addr} {n cap : Nat} {l : List (Nat × Nat)} (h : SEg w (.slice (some ad) n cap) l) : n = l.length ∧ ∀ (j : Nat) u, (l.flatMap egCells)[j]? = some u → w.cell? (ad.add j) = some u := by
  obtain ⟨a, cap', e, h1, h2, h3⟩ := h
  simp at e
  obtain ⟨rfl, rfl, rfl⟩ := e
  refine ⟨rfl, fun j u hj => ?_⟩
  have hjl := (List.getElem?_eq_some_iff.1 hj).1
  rw [flat_len egCells egCells_len] at hjl
  have hi : j / 2 < l.length := by omega
  obtain ⟨b, off, ha, hc⟩ := h3 (j / 2) hi
  have ha := Option.some.inj ha
  subst ha
  have e := flat_get egCells egCells_len l (j / 2) (j % 2) hi (by omega)
  rw [show j / 2 * 2 + j % 2 = j by omega, hj, ← egi_lt hi] at e
  have := hc.nth (j % 2) u e.symm
  rw [show (⟨b, off, none⟩ : Addr).add j = ⟨b, off + j, none⟩ by unfold Addr.add; split <;> simp_all]
  rwa [show off + j / 2 * 2 + j % 2 = off + j by omega] at this
theorem OwnEg_empty (w : World) (B : Nat) (h : B ≤ w.heap.size) : OwnEg (w.alloc (.cells #[] 86)) B (.slice (some ⟨w.heap.size, 0, none⟩) 0 0) [] :=
  World.ownsRow_lit w #[] 0 h (Nat.zero_le _) rfl
theorem egOne (x : (Nat × Nat)) : ∀ v ∈ egCells x, v.oneCell' = true := by
  intro v hv
  simp only [egCells, List.mem_cons, List.not_mem_nil, or_false] at hv
  rcases hv with rfl | rfl <;> rfl
theorem wp_app_Eg {o : Oper} {a : Act} {K : Act → World → Prop} {Q : Exit → Act → World → Prop} {w : World} (s x : Operand)
    (ho : o.op = .call { callee := .builtin .append, args := #[s, x], argTypes := #[76, 76] }) (B : Nat) (v : Value) (l m : List (Nat × Nat)) (hs : a.eval s = v) (hown : OwnEg w B v l)
    (ad : Addr) (n c : Nat) (hx : a.eval x = .slice (some ad) n c) (hy : SEg w (.slice (some ad) n c) m) (hlen : l.length + m.length ≤ 1000000) (hb : B ≤ w.heap.size)
    (h : ∀ v' w', OwnEg w' B v' (l ++ m) → w.grownBy w' v.ownBlock → (v'.ownBlock = v.ownBlock ∨ v'.ownBlock = some w.heap.size) → K (a.put o.dst v') w') : o.wp Tryz.prog a w K Q := by
  obtain ⟨i, hi, hz0, hz1, hz2⟩ := info_parts Tryz_infoint2
  obtain ⟨rfl, hf⟩ := hy.flat
  refine wp_app_gen s x 76 86 ho i (.agg #[.int .i64 0, .int .i64 0]) 2 16 Tryz.underlying76 hi hz0 hz1 hz2 rfl (by decide) B v l.length (l.flatMap egCells) hs hown ad m.length c hx (m.flatMap egCells) (flat_len egCells egCells_len m) hf (fun u hu => ?_) (by unfold maxLen; omega) (by omega) hb fun v' w' h1 h2 h3 => h v' w' ?_ h2 h3
  · obtain ⟨z, _, hz⟩ := List.mem_flatMap.1 hu
    exact egOne z u hz
  · unfold OwnEg
    rw [List.length_append, List.flatMap_append]
    exact h1
theorem wpList_app_Eg {ops : Array Oper} {rest : List Oper} {o : Oper} {a : Act} {Q : Exit → Act → World → Prop} {w : World} (hw : Region.wanted o (yielded ops a.tmps) = true) (s x : Operand)
    (ho : o.op = .call { callee := .builtin .append, args := #[s, x], argTypes := #[76, 76] }) (B : Nat) (v : Value) (l m : List (Nat × Nat)) (hs : a.eval s = v) (hown : OwnEg w B v l)
    (ad : Addr) (n c : Nat) (hx : a.eval x = .slice (some ad) n c) (hy : SEg w (.slice (some ad) n c) m) (hlen : l.length + m.length ≤ 1000000) (hb : B ≤ w.heap.size)
    (h : ∀ v' w', OwnEg w' B v' (l ++ m) → w.grownBy w' v.ownBlock → (v'.ownBlock = v.ownBlock ∨ v'.ownBlock = some w.heap.size) → wpList Tryz.prog ops Q rest (a.put o.dst v') w') : wpList Tryz.prog ops Q (o :: rest) a w :=
  wpList_step fun K hK => by
    rw [if_pos hw]
    exact wp_app_Eg s x ho B v l m hs hown ad n c hx hy hlen hb fun v' w' a1 a2 a3 => hK _ _ (h v' w' a1 a2 a3)
theorem sEg_one {w : World} {g : Nat} {x : (Nat × Nat)} (h : EgAt w g 0 x) : SEg w (.slice (some ⟨g, 0, none⟩) 1 1) [x] := by
  refine ⟨_, _, rfl, Nat.le_refl _, by unfold maxLen; omega, fun i hi => ⟨g, 0, rfl, ?_⟩⟩
  obtain rfl : i = 0 := by simp at hi; omega
  exact h
/-! Ern -/
theorem Tryz_infoErection : (Tryz.prog.info? 72).map (fun i => (i.zero, i.size, i.bytes)) = some (some (.agg #[.string ⟨#[]⟩, .string ⟨#[]⟩, .int .i64 0, .int .i64 0]), 4, 48) := by kernel_rfl
theorem EnAt.nth {w : World} {b off : Nat} {x : Ern} (h : EnAt w b off x) (j : Nat) (u : Value) (hj : (enCells x)[j]? = some u) : w.cell? ⟨b, off + j, none⟩ = some u := by
  obtain ⟨y0, y1, y2, y3⟩ := h
  match j, hj with
  | 0, hj => simp [enCells] at hj; subst hj; exact y0
  | 1, hj => simp [enCells] at hj; subst hj; exact y1
  | 2, hj => simp [enCells] at hj; subst hj; exact y2
  | 3, hj => simp [enCells] at hj; subst hj; exact y3
theorem SEn.flat {w : World} {ad : Addr} {n cap : Nat} {l : List Ern} (h : SEn w (.slice (some ad) n cap) l) : n = l.length ∧ ∀ (j : Nat) u, (l.flatMap enCells)[j]? = some u → w.cell? (ad.add j) = some u := by
  obtain ⟨a, cap', e, h1, h2, h3⟩ := h
  simp at e
  obtain ⟨rfl, rfl, rfl⟩ := e
  refine ⟨rfl, fun j u hj => ?_⟩
  have hjl := (List.getElem?_eq_some_iff.1 hj).1
  rw [flat_len enCells enCells_len] at hjl
  have hi : j / 4 < l.length := by omega
  obtain ⟨b, off, ha, hc⟩ := h3 (j / 4) hi
  have ha := Option.some.inj ha
  subst ha
  have e := flat_get enCells enCells_len l (j / 4) (j % 4) hi (by omega)
  rw [show j / 4 * 4 + j % 4 = j by omega, hj, ← eri_lt hi] at e
  have := hc.nth (j % 4) u e.symm
  rw [show (⟨b, off, none⟩ : Addr).add j = ⟨b, off + j, none⟩ by unfold Addr.add; split <;> simp_all]
  rwa [show off + j / 4 * 4 + j % 4 = off + j by omega] at this
theorem OwnEn_empty (w : World) (B : Nat) (h : B ≤ w.heap.size) : OwnEn (w.alloc (.cells #[] 72)) B (.slice (some ⟨w.heap.size, 0, none⟩) 0 0) [] :=
  World.ownsRow_lit w #[] 0 h (Nat.zero_le _) rfl
theorem enOne (x : Ern) : ∀ v ∈ enCells x, v.oneCell' = true := by
  intro v hv
  simp only [enCells, List.mem_cons, List.not_mem_nil, or_false] at hv
  rcases hv with rfl | rfl | rfl | rfl <;> rfl
theorem wp_app_En {o : Oper} {a : Act} {K : Act → World → Prop} {Q : Exit → Act → World → Prop} {w : World} (s x : Operand)
    (ho : o.op = .call { callee := .builtin .append, args := #[s, x], argTypes := #[40, 40] }) (B : Nat) (v : Value) (l m : List Ern) (hs : a.eval s = v) (hown : OwnEn w B v l)
    (ad : Addr) (n c : Nat) (hx : a.eval x = .slice (some ad) n c) (hy : SEn w (.slice (some ad) n c) m) (hlen : l.length + m.length ≤ 1000000) (hb : B ≤ w.heap.size)
    (h : ∀ v' w', OwnEn w' B v' (l ++ m) → w.grownBy w' v.ownBlock → (v'.ownBlock = v.ownBlock ∨ v'.ownBlock = some w.heap.size) → K (a.put o.dst v') w') : o.wp Tryz.prog a w K Q := by
  obtain ⟨i, hi, hz0, hz1, hz2⟩ := info_parts Tryz_infoErection
  obtain ⟨rfl, hf⟩ := hy.flat
  refine wp_app_gen s x 40 72 ho i (.agg #[.string ⟨#[]⟩, .string ⟨#[]⟩, .int .i64 0, .int .i64 0]) 4 48 Tryz.underlying40 hi hz0 hz1 hz2 rfl (by decide) B v l.length (l.flatMap enCells) hs hown ad m.length c hx (m.flatMap enCells) (flat_len enCells enCells_len m) hf (fun u hu => ?_) (by unfold maxLen; omega) (by omega) hb fun v' w' h1 h2 h3 => h v' w' ?_ h2 h3
  · obtain ⟨z, _, hz⟩ := List.mem_flatMap.1 hu
    exact enOne z u hz
  · unfold OwnEn
    rw [List.length_append, List.flatMap_append]
    exact h1
theorem wpList_app_En {ops : Array Oper} {rest : List Oper} {o : Oper} {a : Act} {Q : Exit → Act → World → Prop} {w : World} (hw : Region.wanted o (yielded ops a.tmps) = true) (s x : Operand)
    (ho : o.op = .call { callee := .builtin .append, args := #[s, x], argTypes := #[40, 40] }) (B : Nat) (v : Value) (l m : List Ern) (hs : a.eval s = v) (hown : OwnEn w B v l)
    (ad : Addr) (n c : Nat) (hx : a.eval x = .slice (some ad) n c) (hy : SEn w (.slice (some ad) n c) m) (hlen : l.length + m.length ≤ 1000000) (hb : B ≤ w.heap.size)
    (h : ∀ v' w', OwnEn w' B v' (l ++ m) → w.grownBy w' v.ownBlock → (v'.ownBlock = v.ownBlock ∨ v'.ownBlock = some w.heap.size) → wpList Tryz.prog ops Q rest (a.put o.dst v') w') : wpList Tryz.prog ops Q (o :: rest) a w :=
  wpList_step fun K hK => by
    rw [if_pos hw]
    exact wp_app_En s x ho B v l m hs hown ad n c hx hy hlen hb fun v' w' a1 a2 a3 => hK _ _ (h v' w' a1 a2 a3)
theorem sEn_one {w : World} {g : Nat} {x : Ern} (h : EnAt w g 0 x) : SEn w (.slice (some ⟨g, 0, none⟩) 1 1) [x] := by
  refine ⟨_, _, rfl, Nat.le_refl _, by unfold maxLen; omega, fun i hi => ⟨g, 0, rfl, ?_⟩⟩
  obtain rfl : i = 0 := by simp at hi; omega
  exact h
end Go.Proofs.YtfpnjbomlmhlpaaGreat

/- Keys that are pairs; maps that a loop ranges over. -/
namespace Go.Proofs.YtfpnjbomlmhlpaaGreat
open Go.RowKit Go.Maps Go.WideMaps

theorem arrK : ArrKey Tryz.prog 86 3 2 := ⟨Tryz.underlying86, by kernel_rfl, by kernel_rfl, by kernel_rfl⟩
theorem keyP : Keyed Tryz.prog 86 := Keyed.of_law arrK.law
def pairK (e : Nat × Nat) : List UInt8 := keyBytes [.int .i64 e.1, .int .i64 e.2]
theorem wf_nat {n : Nat} (h : n ≤ 1000000) : (Lit.int .i64 (n : Int)).wf = true := by
  simp only [Lit.wf, IntKind.min, IntKind.max, IntKind.signed, IntKind.bits, Bool.and_eq_true, decide_eq_true_eq, if_true]; omega
theorem types_size : ∃ m, Tryz.prog.types.size = m + 1 := by
  obtain ⟨n, hn⟩ : ∃ n, Tryz.prog.types.size = n := ⟨_, rfl⟩
  cases n with
  | zero =>
    have h1 : Tryz.prog.underlying 86 = some (.array 2 3) := Tryz.underlying86
    exfalso
    have h2 : decide (0 < Tryz.prog.types.size) = true := by kernel_rfl
    rw [decide_eq_true_eq] at h2; omega
  | succ m => exact ⟨m, hn⟩
theorem key_pair {e : Nat × Nat} (h1 : e.1 ≤ 1000000) (h2 : e.2 ≤ 1000000) : keyOf Tryz.prog 86 (.agg #[.int .i64 e.1, .int .i64 e.2]) = some (.string (pairK e)) :=
  keyOf_pair arrK Tryz.underlying3 types_size (wf_nat h1) (wf_nat h2)
theorem pair_inj {e f : Nat × Nat} (h1 : e.1 ≤ 1000000) (h2 : e.2 ≤ 1000000) (h3 : f.1 ≤ 1000000) (h4 : f.2 ≤ 1000000) (h : pairK e = pairK f) : e = f := by
  have k1 := key_pair h1 h2
  rw [h] at k1
  have := keyP.inj k1 (key_pair h3 h4)
  simp only [Value.agg.injEq, Array.mk.injEq, List.cons.injEq, Value.int.injEq, true_and, and_true] at this
  exact Prod.ext (by omega) (by omega)
theorem key_str_gen {P : Program} {k e : TypeId} {n : Nat} (hu : P.underlying k = some (.array n e)) {v : Value} {l : Lit} (h : keyOf P k v = some l) : ∃ s, l = .string s := by
  unfold keyOf at h
  rw [hu] at h
  dsimp only at h
  split at h
  · rw [Option.map_eq_some_iff] at h
    obtain ⟨ls, _, rfl⟩ := h
    exact ⟨_, rfl⟩
  · cases h
theorem key_str {v : Value} {l : Lit} (h : keyOf Tryz.prog 86 v = some l) : ∃ s, l = .string s := key_str_gen Tryz.underlying86 h
/-- pairs as a map holds them -/
def kvP (L : Edg) : KV := L.map fun e => (pairK e, Value.bool true)
def SmallE (L : Edg) : Prop := ∀ e ∈ L, e.1 ≤ 1000000 ∧ e.2 ≤ 1000000
theorem kvP_has {L : Edg} (hs : SmallE L) {e : Nat × Nat} (h1 : e.1 ≤ 1000000) (h2 : e.2 ≤ 1000000) : hasE (kvP L) (pairK e) = true ↔ e ∈ L := by
  rw [has_mem]
  unfold kvP
  rw [List.map_map, List.mem_map]
  constructor
  · rintro ⟨f, hf, he⟩
    have := pair_inj (hs f hf).1 (hs f hf).2 h1 h2 he
    rw [← this]; exact hf
  · intro h; exact ⟨e, h, rfl⟩
/-- an entry that is there is stored again as it is -/
theorem VD.again {D : DataW Value} {E : KV} (h : VD D E) {s : List UInt8} {v : Value} (hs : (s, v) ∈ E) : VD (D.put (.string s) (.held v)) E := by
  have hn : hasE E s = true := has_mem.2 (List.mem_map_of_mem hs)
  have hg : ∀ z, getE E s z = v := fun z => by
    obtain ⟨i, hi, e⟩ := List.mem_iff_getElem.1 hs
    have := getE_at h.nd hi z
    rw [e] at this; exact this
  refine ⟨h.tidy.put keyLit _, fun t z => ?_, fun t => ?_, ?_, h.nd⟩
  · by_cases e : t = s
    · subst e
      rw [atKey_put_same h.tidy.isMap keyLit, hg]
    · rw [atKey_put_other (lit_ne e), h.at_]
  · by_cases e : t = s
    · subst e; rw [has_put_same h.tidy.isMap keyLit, hn]
    · rw [has_put_other (lit_ne e), h.has]
  · rw [size_put h.tidy, h.has, hn, if_pos rfl, h.len]
theorem VM.again {w : World} {b n : Nat} {E : KV} {ky t e : TypeId} (K : Keyed Tryz.prog ky) (h : VM ky w b n E) (ht : Tryz.prog.underlying t = some (.map ky e)) (hn : n < maxLen) {kv : Value} {s : List UInt8} (hs : keyOf Tryz.prog ky kv = some (.string s)) {v : Value} (hh : (s, v) ∈ E) :
    ∃ w', (Instr.mapUpdate t (.map (some b)) kv v).run Tryz.prog w = .ok () w' ∧ VM ky w' b (n + 1) E ∧ w.mapTurned w' b := by
  obtain ⟨D, h1, h2⟩ := h
  obtain ⟨w', hr, h3, h4⟩ := h1.store K ht hn hs (val := v) (d := .held v) (ps := []) rfl
  exact ⟨w', hr, ⟨_, h3, h2.again hh⟩, h4⟩
/-- a pair is laid -/
theorem VM.lay {w : World} {b n : Nat} {L : Edg} (h : VM 86 w b n (kvP L)) (hs : SmallE L) (hn : n < maxLen) {e : Nat × Nat} (h1 : e.1 ≤ 1000000) (h2 : e.2 ≤ 1000000) :
    ∃ w', (Instr.mapUpdate 140 (.map (some b)) (.agg #[.int .i64 e.1, .int .i64 e.2]) (.bool true)).run Tryz.prog w = .ok () w' ∧ VM 86 w' b (n + 1) (kvP (if e ∈ L then L else L ++ [e])) ∧ w.mapTurned w' b := by
  by_cases he : e ∈ L
  · rw [if_pos he]
    exact h.again keyP Tryz.underlying140 hn (key_pair h1 h2) (List.mem_map.2 ⟨e, he, rfl⟩)
  · rw [if_neg he]
    have e0 : hasE (kvP L) (pairK e) = false := by rw [← Bool.not_eq_true, kvP_has hs h1 h2]; exact he
    obtain ⟨w', r1, r2, r3⟩ := h.store keyP Tryz.underlying140 hn (key_pair h1 h2) e0 (.bool true)
    refine ⟨w', r1, ?_, r3⟩
    unfold kvP at r2 ⊢
    rw [List.map_append]; exact r2
end Go.Proofs.YtfpnjbomlmhlpaaGreat
