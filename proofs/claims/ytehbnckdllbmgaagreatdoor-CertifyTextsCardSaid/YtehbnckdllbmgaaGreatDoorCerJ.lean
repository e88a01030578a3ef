/- Contract: under, Make's search. -/
import Derived.Test.YtehbnckdllbmgaaGreatDoorCerI
set_option linter.unusedSimpArgs false
set_option linter.unusedVariables false
namespace Go.Proofs.YtehbnckdllbmgaaGreatDoor
open Go.RowKit Go.Shelf
attribute [local go_sem] Oper.semAt_some

def un1d (i : Nat) : Nat := if i = 8 then 5 else if i = 9 then 6 else i + 8
def un1V (u : Value) (un b : Nat) (pv : Value) (pn : Nat) (c : Bool) : Nat → Value
  | 0 => u
  | 1 => .int .i64 un
  | 2 => .pointer (some ⟨b, 0, none⟩)
  | 3 => .pointer (some ⟨b, 0, none⟩)
  | 4 => .pointer (some ⟨b, 0 + 0, none⟩)
  | 5 => pv
  | 6 => .int .i64 pn
  | 7 => .bool c
  | 8 => .int .i64 0
  | 9 => .bool c
  | _ => undef
def un5d (i : Nat) : Nat := i + 25
def un5P (u : Value) (pre : List Int) (b B s : Nat) (vl : Value) (n : Nat) (l : List Cut) : Nat → Value → World → Prop
  | 0, v, _ => v = .pointer (some ⟨b, 0, none⟩)
  | 1, v, _ => v = .pointer (some ⟨b, 0, none⟩)
  | 2, v, _ => v = .pointer (some ⟨b, 0, none⟩)
  | 3, v, _ => v = .pointer (some ⟨b, 0 + 3, none⟩)
  | 4, v, _ => v = vl
  | 5, v, _ => v = u
  | 6, v, w => OwnI w B v pre
  | 7, v, _ => v = .int .i64 s
  | 8, v, w => ∃ x, v = .agg #[x, .int .i64 s] ∧ OwnI w B x pre
  | 9, v, w => ∃ g x, v = .slice (some ⟨g, 0, none⟩) 1 1 ∧ w.cell? ⟨g, 0, none⟩ = some x ∧ w.cell? ⟨g, 1, none⟩ = some (.int .i64 s) ∧ OwnI w B x pre
  | 10, v, w => OwnC w B v (l ++ [(pre, (s : Int))]) ∧ LinkB vl v n
  | 11, v, _ => v = .pointer (some ⟨b, 0, none⟩)
  | 12, v, _ => v = .pointer (some ⟨b, 0 + 3, none⟩)
  | _, _, _ => True
def un5C (i j : Nat) : Bool := (i == 8 && j == 6) || (i == 9 && j == 8) || (i == 10 && j == 9)
theorem un5_mono {u : Value} {pre : List Int} {b B s : Nat} {vl : Value} {n : Nat} {l : List Cut} {w w' : World} (hb : Below w.heap.size w w') : ∀ i v, un5P u pre b B s vl n l i v w → un5P u pre b B s vl n l i v w'
  | 0, _, h => h | 1, _, h => h | 2, _, h => h | 3, _, h => h | 4, _, h => h | 5, _, h => h | 6, _, h => OwnI.below h hb | 7, _, h => h
  | 8, _, ⟨x, h1, h2⟩ => ⟨x, h1, h2.below hb⟩ | 9, _, ⟨g, x, h1, h2, h3, h4⟩ => ⟨g, x, h1, cell_keep hb h2, cell_keep hb h3, h4.below hb⟩ | 10, _, ⟨h1, h2⟩ => ⟨h1.below hb, h2⟩ | 11, _, h => h | 12, _, h => h | _ + 13, _, _ => trivial
theorem un5_app {u : Value} {pre : List Int} {b B s : Nat} {vl : Value} {n : Nat} {l : List Cut} {w w' : World} (hg : w.grownBy w' vl.ownBlock) (ho : OwnC w B vl l) : ∀ i v, i ≠ 10 → un5C 10 i = false → un5P u pre b B s vl n l i v w → un5P u pre b B s vl n l i v w' := by
  have key : ∀ x, OwnI w B x pre → OwnI w' B x pre := fun x hx => by
    obtain ⟨ps, _, h2, _⟩ := ho
    exact World.ownsRow.kept hx hg (owns_ne hx h2 (by decide))
  intro i v h10 hc h
  match i, h10, hc, h with
  | 0, _, _, h => exact h
  | 1, _, _, h => exact h
  | 2, _, _, h => exact h
  | 3, _, _, h => exact h
  | 4, _, _, h => exact h
  | 5, _, _, h => exact h
  | 6, _, _, h => exact key _ h
  | 7, _, _, h => exact h
  | 8, _, _, ⟨x, h1, h2⟩ => exact ⟨x, h1, key _ h2⟩
  | 9, _, hc, _ => cases hc
  | 10, h10, _, _ => exact absurd rfl h10
  | 11, _, _, h => exact h
  | 12, _, _, h => exact h
  | _ + 13, _, _, _ => trivial

def un10d (i : Nat) : Nat := i + 56
def un10P (u pv : Value) (b pn : Nat) (f : Value) (W : World) : Nat → Value → World → Prop
  | 0, v, _ => v = .pointer (some ⟨b, 0, none⟩)
  | 1, v, _ => v = .pointer (some ⟨b, 0, none⟩)
  | 2, v, _ => v = .pointer (some ⟨b, 0 + 0, none⟩)
  | 3, v, _ => v = pv
  | 4, v, _ => v = .int .i64 pn
  | 5, v, _ => v = u
  | 6, v, w => v = f ∧ ∃ q, w = ((W.drewN q).alloc (.cells #[.int .i64 pn] 3)).alloc (.cells #[u] 24)
  | _, _, _ => True
def un10D (j i : Nat) : Bool := (j == 6 && decide (i < 6)) || (decide (j ≤ 4) && decide (i < j))
theorem un10_same {u pv : Value} {b pn : Nat} {f : Value} {W w w' : World} : ∀ j v, j ≠ 6 → un10P u pv b pn f W j v w → un10P u pv b pn f W j v w'
  | 0, _, _, h => h | 1, _, _, h => h | 2, _, _, h => h | 3, _, _, h => h | 4, _, _, h => h | 5, _, _, h => h | 6, _, h, _ => absurd rfl h | _ + 7, _, _, _ => trivial
theorem enter_others : ∀ args w, (callFunc 77 args).run Tryz.prog w = .ok (.enter 77 args) w := enters_of Tryz.func77 (by kernel_rfl) rfl
theorem enter_under : ∀ args w, (callFunc 51 args).run Tryz.prog w = .ok (.enter 51 args) w := enters_of Tryz.func51 (by kernel_rfl) rfl
def un12d (i : Nat) : Nat := i + 64
def un12P (u : Value) (pre : List Int) (j : Int) (b : Nat) (X : Nat) (x : Bool) (Z : World → Prop) : Nat → Value → World → Prop
  | 0, v, _ => v = .pointer (some ⟨b, 0, none⟩)
  | 1, v, _ => v = u
  | 2, v, w => OwnI w X v pre
  | 3, v, _ => v = .int .i64 j
  | 4, v, w => SI w v [j]
  | 5, v, w => OwnI w X v (pre ++ [j])
  | 6, v, w => v = .bool x ∧ Z w
  | 7, v, w => v = .bool (!x) ∧ Z w
  | _, _, _ => True
def un12C (i j : Nat) : Bool := (i == 5 && (j == 2 || j == 4)) || (i == 6 && (j == 5 || j == 2 || j == 4))
def un12D (j i : Nat) : Bool := (j == 2 && i == 1) || (j == 4 && i == 3) || (j == 5 && decide (1 ≤ i) && decide (i < 5)) || (j == 6 && decide (i < 6)) || (j == 7 && decide (i < 7))
theorem un12_21 : ∀ k, k ≠ 2 → un12D k 2 = false → un12C k 1 = false := by
  intro k
  rcases k with _ | _ | _ | _ | _ | _ | _ | _ | k
  all_goals first | (intro _ _; rfl) | (intro h; exact absurd rfl h) | (intro _ h; cases h)
theorem un12_43 : ∀ k, k ≠ 4 → un12D k 4 = false → un12C k 3 = false := by
  intro k
  rcases k with _ | _ | _ | _ | _ | _ | _ | _ | k
  all_goals first | (intro _ _; rfl) | (intro h; exact absurd rfl h) | (intro _ h; cases h)
theorem un12_52 : ∀ k, k ≠ 5 → un12D k 5 = false → un12C k 2 = false := by
  intro k
  rcases k with _ | _ | _ | _ | _ | _ | _ | _ | k
  all_goals first | (intro _ _; rfl) | (intro h; exact absurd rfl h) | (intro _ h; cases h)
theorem un12_54 : ∀ k, k ≠ 5 → un12D k 5 = false → un12C k 4 = false := by
  intro k
  rcases k with _ | _ | _ | _ | _ | _ | _ | _ | k
  all_goals first | (intro _ _; rfl) | (intro h; exact absurd rfl h) | (intro _ h; cases h)
theorem un12_65 : ∀ k, k ≠ 6 → un12D k 6 = false → un12C k 5 = false := by
  intro k
  rcases k with _ | _ | _ | _ | _ | _ | _ | _ | k
  all_goals first | (intro _ _; rfl) | (intro h; exact absurd rfl h) | (intro _ h; cases h)
theorem un12_60 : ∀ k, k ≠ 6 → un12D k 6 = false → un12C k 0 = false := by
  intro k
  rcases k with _ | _ | _ | _ | _ | _ | _ | _ | k
  all_goals first | (intro _ _; rfl) | (intro h; exact absurd rfl h) | (intro _ h; cases h)
theorem un12_76 : ∀ k, k ≠ 7 → un12D k 7 = false → un12C k 6 = false := by
  intro k
  rcases k with _ | _ | _ | _ | _ | _ | _ | _ | k
  all_goals first | (intro _ _; rfl) | (intro h; exact absurd rfl h) | (intro _ h; cases h)
theorem un12_mono {u : Value} {pre : List Int} {j : Int} {b X : Nat} {x : Bool} {Z : World → Prop} {w w' : World} (hb : Below w.heap.size w w') : ∀ i v, i ≠ 6 → i ≠ 7 → un12P u pre j b X x Z i v w → un12P u pre j b X x Z i v w'
  | 0, _, _, _, h => h | 1, _, _, _, h => h | 2, _, _, _, h => OwnI.below h hb | 3, _, _, _, h => h | 4, _, _, _, h => SI.keep h hb | 5, _, _, _, h => OwnI.below h hb
  | 6, _, h, _, _ => absurd rfl h | 7, _, _, h, _ => absurd rfl h | _ + 8, _, _, _, _ => trivial
/-- whatever the world, but for what is made here -/
theorem un12_rest {u : Value} {pre : List Int} {j : Int} {b X : Nat} {x : Bool} {Z : World → Prop} {w w' : World} : ∀ i v, i ≠ 2 → i ≠ 4 → i ≠ 5 → i ≠ 6 → i ≠ 7 → un12P u pre j b X x Z i v w → un12P u pre j b X x Z i v w'
  | 0, _, _, _, _, _, _, h => h | 1, _, _, _, _, _, _, h => h | 2, _, h, _, _, _, _, _ => absurd rfl h | 3, _, _, _, _, _, _, h => h | 4, _, _, h, _, _, _, _ => absurd rfl h | 5, _, _, _, h, _, _, _ => absurd rfl h
  | 6, _, _, _, _, h, _, _ => absurd rfl h | 7, _, _, _, _, _, h, _ => absurd rfl h | _ + 8, _, _, _, _, _, _, _ => trivial

set_option maxRecDepth 100000 in
set_option maxHeartbeats 4000000 in
theorem under_step {w0 : World} {p : List (List Int)} {pv : Value} {b B : Nat} (H : MkOk w0 p pv b B) (span : Int) (f : Nat) (ih : ∀ f', f = f' + 1 → UndC w0 p pv span b B f') : UndC w0 p pv span b B f := by
  intro st pre u vl w hf hr hc hsl hw hm ho hu fu iu
  have HF := Lib.hid hf; have HR := Lib.hid hr; have HW := Lib.hid hw; have HM := Lib.hid hm; have HO := Lib.hid ho; have HU := Lib.hid hu; have FU := Lib.hid fu; have IU0 := Lib.hid iu; have IH := Lib.hid ih; have HC2 := Lib.hid hc
  have HGd := Lib.hid (checkE_zero H.ok)
  obtain ⟨ua, uc, rfl, u1, u2⟩ := hu.sl
  obtain ⟨pa, pc, rfl, p1, p2⟩ : ∃ a c, pv = .slice a p.length c ∧ p.length ≤ c ∧ c ≤ maxLen := by obtain ⟨vs, ⟨a, c, h1, h2, h3, _⟩, _⟩ := H.ss; exact ⟨a, c, h1, h2, h3⟩
  have hum : pre.length ≤ 9223372036854775807 := by unfold maxLen at u2; omega
  clear hf hr hw hm ho hu fu iu ih hc
  have hpm : p.length ≤ 9223372036854775807 := by unfold maxLen at p2; omega
  obtain ⟨W3, hW3⟩ : ∃ W3, W3 = ((w.alloc (.cells #[.pointer (some ⟨b, 0, none⟩)] 70)).alloc (.cells #[.slice ua pre.length uc] 24)).alloc (.cells #[.bool false] 4) := ⟨_, rfl⟩
  have hB3 : Below w.heap.size w W3 := by rw [hW3]; exact (((Below.refl _ _).alloc (Nat.le_refl _) _).alloc (by simp) _).alloc (by simp; omega) _
  have HB3 := Lib.hid hB3
  have hs3 : W3.heap.size = w.heap.size + 3 := by rw [hW3]; simp
  have HS3 := Lib.hid hs3
  have x0 : Boxed W3 w.heap.size 70 (.pointer (some ⟨b, 0, none⟩)) := by rw [hW3]; exact ((Boxed.new _ _ _).alloc _).alloc _
  have x1 : Boxed W3 (w.heap.size + 1) 24 (.slice ua pre.length uc) := by rw [hW3]; have := Boxed.new (w.alloc (.cells #[.pointer (some ⟨b, 0, none⟩)] 70)) 24 (.slice ua pre.length uc); rw [World.size_alloc] at this; exact this.alloc _
  have x2 : Boxed W3 (w.heap.size + 1 + 1) 4 (.bool false) := by rw [hW3]; have := Boxed.new ((w.alloc (.cells #[.pointer (some ⟨b, 0, none⟩)] 70)).alloc (.cells #[.slice ua pre.length uc] 24)) 4 (.bool false); rw [World.size_alloc, World.size_alloc] at this; exact this
  have hbw := HM.out.lt
  have hm3 := HM.out.below hB3 hbw
  have y0 := x0.cell; have y1 := x1.cell
  have c0 := hm3.cell 0
  simp at c0
  have Y0 := Lib.hid x0; have Y1 := Lib.hid x1; have Y2 := Lib.hid x2; have HM3 := Lib.hid hm3
  have NV : Hid (∀ k, vl.ownBlock = some k → ¬ w.heap.size ≤ k) := fun k hk => by have := (HO.out.lt k hk).2; omega
  clear x0 x1 x2 hm3 hB3 hs3
  refine (callsIn_wide (n := 9)).1 ?_
  refine callsIn_of_wp_marks Tryz.func51 rfl trivial ?_ rfl
  simp only [Tryz.ntmps51, List.size_toArray, List.length_cons, List.length_nil, Nat.reduceAdd, Nat.reduceSub, Array.replicate_succ, Array.replicate_zero, List.push_toArray, List.append_toArray, List.nil_append, List.cons_append]
  refine wpIn_wide.2 ?_
  go_wp2_with fail
  rw [← hW3]
  refine wp_name fun a0 ha0 => ?_
  have z2 : a0.eval (.tmp 2) = .pointer (some ⟨w.heap.size, 0, none⟩) := by rw [ha0]; rfl
  have z3 : a0.eval (.tmp 3) = .pointer (some ⟨w.heap.size + 1, 0, none⟩) := by rw [ha0]; rfl
  refine wp_region_gd un1d (un1V (.slice ua pre.length uc) pre.length b (.slice pa p.length pc) p.length ((pre.length : Int) == (p.length : Int))) (fun w' => ∃ m, w' = W3.drewN m) mixed (by kernel_rfl) (by rw [show a0.tmps.size = 72 by rw [ha0]; rfl]; kernel_rfl) (by kernel_rfl) ⟨1, rfl⟩ ?_ ?_
  · rintro i op a w7 hop hdep hsm ⟨m7, rfl⟩ K hK
    have hi : i < 10 := (Array.getElem?_eq_some_iff.1 hop).1
    have q2 := (hsm.eval (m := 2) (by decide)).trans z2
    have q3 := (hsm.eval (m := 3) (by decide)).trans z3
    have dv : ∀ e' ∈ op.after, Region.binds .any e' = true → a.eval (.tmp (un1d e'.on)) = un1V (.slice ua pre.length uc) pre.length b (.slice pa p.length pc) p.length ((pre.length : Int) == (p.length : Int)) e'.on := fun e he hbi => hdep e he hbi
    have hn : ∀ v, v = un1V (.slice ua pre.length uc) pre.length b (.slice pa p.length pc) p.length ((pre.length : Int) == (p.length : Int)) i → K (a.put op.dst v) (W3.drewN m7) := fun v hv => hK _ _ ⟨m7, rfl⟩ hv
    have hcase : i = 0 ∨ i = 1 ∨ i = 2 ∨ i = 3 ∨ i = 4 ∨ i = 5 ∨ i = 6 ∨ i = 7 ∨ i = 8 ∨ i = 9 := by omega
    rcases hcase with h | h | h | h | h | h | h | h | h | h <;> subst h <;> have ho' := Option.some.inj hop <;> subst ho'
    · exact gd_on rfl (vl_load 24 agg_ints (.tmp 3) rfl _ _ q3 y1 (hn _ rfl))
    · exact gd_on rfl (len_ints (.tmp 8) rfl _ _ _ (dv ⟨0, .data⟩ (by simp) rfl) (hn _ rfl))
    · exact gd_on rfl (vl_load 70 agg_pmaker (.tmp 2) rfl _ _ q2 y0 (hn _ rfl))
    · exact gd_on rfl (vl_nil (.tmp 10) rfl _ (dv ⟨2, .data⟩ (by simp) rfl) (hn _ rfl))
    · exact gd_on rfl (fa_maker (.tmp 11) 0 (by omega) rfl b 0 (dv ⟨3, .data⟩ (by simp) rfl) (hn _ rfl))
    · exact gd_on rfl (vl_load 22 agg_rows (.tmp 12) rfl _ _ (dv ⟨4, .data⟩ (by simp) rfl) c0 (hn _ rfl))
    · exact gd_on rfl (len_rows (.tmp 13) rfl _ _ _ (dv ⟨5, .data⟩ (by simp) rfl) (hn _ rfl))
    · exact gd_on rfl (eq_ints (.tmp 9) (.tmp 14) rfl _ _ (dv ⟨1, .data⟩ (by simp) rfl) (dv ⟨6, .data⟩ (by simp) rfl) (hn _ rfl))
    · exact gd_on rfl (vl_assign (.const (.int .i64 0)) rfl _ rfl (hn _ rfl))
    · exact gd_on rfl (vl_assign (.tmp 15) rfl _ (dv ⟨7, .data⟩ (by simp) rfl) (hn _ rfl))
  rintro a5 w5 hs5 ⟨m5, rfl⟩ hv5
  have hs5' : a5.eval (.tmp 5) = .int .i64 0 := hv5 8 (by decide)
  have hs6 : a5.eval (.tmp 6) = .bool ((pre.length : Int) == (p.length : Int)) := hv5 9 (by decide)
  have hsm5 : Sm [5, 6, 8, 9, 10, 11, 12, 13, 14, 15] a0 a5 := ⟨hs5.1, hs5.2.1, fun m hm => hs5.2.2 m (fun h => hm (by
    have : m ∈ [8, 9, 10, 11, 12, 13, 14, 15, 5, 6] := h
    simp at this ⊢; omega))⟩
  have HA := hsm5.lit
  simp only [List.foldl] at HA
  rw [hs5', hs6] at HA
  generalize a5.eval (.tmp 8) = t8 at HA
  generalize a5.eval (.tmp 9) = t9 at HA
  generalize a5.eval (.tmp 10) = t10 at HA
  generalize a5.eval (.tmp 11) = t11 at HA
  generalize a5.eval (.tmp 12) = t12 at HA
  generalize a5.eval (.tmp 13) = t13 at HA
  generalize a5.eval (.tmp 14) = t14 at HA
  generalize a5.eval (.tmp 15) = t15 at HA
  rw [HA, ha0]
  simp only [Act.put, List.setIfInBounds_toArray, List.set_cons_zero, List.set_cons_succ]
  clear HA hv5 hs5 hs5' hs6 hsm5 ha0 z2 z3
  have HW3 := Lib.hid hW3; clear hW3
  by_cases hfull : pre.length = p.length
  · have hbq : ((pre.length : Int) == (p.length : Int)) = true := by rw [beq_iff_eq]; omega
    rw [hbq]
    clear hbq c0 y0 y1
    obtain ⟨W2, hW2⟩ : ∃ W2, W2 = W3.drewN m5 := ⟨_, rfl⟩
    have HM2 : Hid (MkAt W2 b (.slice pa p.length pc) span st.left vl) := by rw [hW2]; exact HM3.out
    have HO2 : Hid (OwnC W2 B vl st.cuts) := by rw [hW2]; exact (HO.out.below HB3.out).below (below_drewN' (Below.refl _ _) _)
    have HU2 : Hid (SI W2 (.slice ua pre.length uc) pre) := by rw [hW2]; exact (HU.out.keep HB3.out).drewN _
    have X0 : Hid (Boxed W2 w.heap.size 70 (.pointer (some ⟨b, 0, none⟩))) := by rw [hW2]; exact Y0.out
    have X1 : Hid (Boxed W2 (w.heap.size + 1) 24 (.slice ua pre.length uc)) := by rw [hW2]; exact Y1.out
    have X2 : Hid (Boxed W2 (w.heap.size + 1 + 1) 4 (.bool false)) := by rw [hW2]; exact Y2.out
    have HF2 : Hid (Below w.heap.size w W2) := by rw [hW2]; exact below_drewN' HB3.out _
    obtain ⟨s, hs0⟩ : ∃ s : Nat, s = 0 := ⟨_, rfl⟩
    have hf0 : f = 0 := by have := HF.out; omega
    have HV : Hid (und p span f st pre = pushM st (pre, (s : Int))) := by rw [hf0, hs0]; exact und_zero _ _ _ _
    have HS2 := Lib.hid (show w.heap.size + 3 ≤ W2.heap.size by rw [hW2]; show _ ≤ W3.heap.size; rw [HS3.out]; exact Nat.le_refl _)
    have IU : Hid (InS (fun k => k < W2.heap.size ∧ k ≠ b ∧ vl.ownBlock ≠ some k) (.slice ua pre.length uc)) := fun a n c e hn => by have h1 := IU0.out a n c e hn; have := HS2.out; exact ⟨by omega, h1.2⟩
    have hz := Lib.hid (show Value.int .i64 0 = Value.int .i64 ((s : Nat) : Int) by rw [hs0]; rfl)
    have HS0 := Lib.hid hs0; clear hs0
    go_wp2_with fail
    rw [hz.out, ← hW2]
    clear hW2 hz HS0 HW3
    refine wp_name fun a0 ha0 => ?_
    have z2 : a0.eval (.tmp 2) = .pointer (some ⟨w.heap.size, 0, none⟩) := by rw [ha0]; rfl
    have z3 : a0.eval (.tmp 3) = .pointer (some ⟨w.heap.size + 1, 0, none⟩) := by rw [ha0]; rfl
    have z5 : a0.eval (.tmp 5) = .int .i64 (s : Nat) := by rw [ha0]; rfl
    have hvb : ∀ k, vl.ownBlock = some k → B ≤ k ∧ k < W2.heap.size := fun k hk => HO2.out.lt k hk
    refine wp_region_iqst 13 un5d (un5P (.slice ua pre.length uc) pre b B s vl W2.heap.size st.cuts) un5C (fun w' => OutB W2.heap.size vl W2 w') 10 (fun w' => Below W2.heap.size W2 w') (fun _ _ => false) (by kernel_rfl) (fun _ _ _ => rfl) (fun a w' => Sm (slots un5d 13) a0 a ∧ ∃ vl' w9, w' = w9.setCell ⟨b, 3, none⟩ vl' ∧ OwnC w9 B vl' (st.cuts ++ [(pre, (s : Int))]) ∧ LinkB vl vl' W2.heap.size ∧ OutB W2.heap.size vl W2 w9) rfl mixed (by kernel_rfl) (by rw [show a0.tmps.size = 72 by rw [ha0]; rfl]; kernel_rfl) (by kernel_rfl) (by kernel_rfl) (OutB.of_below (Below.refl _ _).drew) (Below.refl _ _).drew ?_ ?_ ?_
    · rintro i op a w7 hi hop hdep hsm hfr hT K hK
      have q2 := (hsm.eval (m := 2) (by decide)).trans z2
      have q3 := (hsm.eval (m := 3) (by decide)).trans z3
      have q5 := (hsm.eval (m := 5) (by decide)).trans z5
      have b0 : Boxed w7 w.heap.size 70 (.pointer (some ⟨b, 0, none⟩)) := (hfr.block _ X0.out.lt (by have := X0.out.lt; omega) (fun e => NV.out _ e (Nat.le_refl _))).trans X0.out
      have b1 : Boxed w7 (w.heap.size + 1) 24 (.slice ua pre.length uc) := (hfr.block _ X1.out.lt (by have := X1.out.lt; omega) (fun e => NV.out _ e (by omega))).trans X1.out
      have hm7 : MkAt w7 b (.slice pa p.length pc) span st.left vl := (hfr.block b HM2.out.lt (by have := HM2.out.lt; omega) (fun e => HO2.out.ne HM2.out e)).trans HM2.out
      have dv : ∀ e' ∈ op.after, Region.binds .any e' = true → (∀ k, k ≠ i → (fun _ _ => false : Nat → Nat → Bool) k i = false → un5C k e'.on = false) → un5P (.slice ua pre.length uc) pre b B s vl W2.heap.size st.cuts e'.on (a.eval (.tmp (un5d e'.on))) w7 := fun e he hbi hc => hdep e he hbi hc
      have hn : ∀ v, un5P (.slice ua pre.length uc) pre b B s vl W2.heap.size st.cuts i v w7 → K (a.put op.dst v) w7 := fun v hv => hK v w7 hfr (fun _ h => h) (fun _ _ _ _ _ h => h) hv
      have hcase : i = 0 ∨ i = 1 ∨ i = 2 ∨ i = 3 ∨ i = 4 ∨ i = 5 ∨ i = 6 ∨ i = 7 ∨ i = 8 ∨ i = 9 ∨ i = 10 ∨ i = 11 ∨ i = 12 := by omega
      rcases hcase with h | h | h | h | h | h | h | h | h | h | h | h | h <;> subst h <;> have ho' := Option.some.inj hop <;> subst ho'
      · exact vl_load 70 agg_pmaker (.tmp 2) rfl _ _ q2 b0.cell (hn _ rfl)
      · exact vl_load 70 agg_pmaker (.tmp 2) rfl _ _ q2 b0.cell (hn _ rfl)
      · exact vl_nil (.tmp 26) rfl _ (dv ⟨1, .data⟩ (by simp) rfl (fun k hk _ => by unfold un5C; simp; try omega)) (hn _ rfl)
      · exact fa_maker (.tmp 27) 3 (by omega) rfl b 0 (dv ⟨2, .data⟩ (by simp) rfl (fun k hk _ => by unfold un5C; simp; try omega)) (hn _ rfl)
      · exact vl_load 26 agg_cuts (.tmp 28) rfl _ _ (dv ⟨3, .data⟩ (by simp) rfl (fun k hk _ => by unfold un5C; simp; try omega)) (by rw [Nat.zero_add]; exact hm7.cell 3) (hn _ rfl)
      · exact vl_load 24 agg_ints (.tmp 3) rfl _ _ q3 b1.cell (hn _ rfl)
      · exact vl_call1 66 _ (.tmp 30) rfl enter_clI _ (dv ⟨5, .data⟩ (by simp) rfl (fun k hk _ => by unfold un5C; simp; try omega)) ((clone_int _ pre w7 (HU2.out.keepS (hfr.keepS (fun k hk => ⟨hk.1, by have := hk.1; omega, hk.2.2⟩)) IU.out) FU.out (by have := rightB_len HR.out; have := HGd.out.len; omega)).mono fun e' w8 ⟨v, he', ho, hb8⟩ =>
          ⟨v, he', hK v w8 (hfr.grown (n := w7.heap.size) hb8 hfr.size) (fun _ h => h.trans (hb8.mono h.size)) (fun j' u' _ _ _ h => un5_mono hb8 j' u' h) (ho.mono (by have := hfr.size; have := HM2.out.lt; have := H.Bb; omega))⟩)
      · exact vl_move (.tmp 5) rfl _ q5 (hn _ rfl)
      · have h6 : OwnI w7 B (a.eval (.tmp 31)) pre := (dv ⟨6, .data⟩ (by simp) rfl (fun k hk _ => by unfold un5C; simp; try omega))
        exact bd_cut (.tmp 31) (.tmp 32) rfl _ (s : Int) h6.sl rfl (dv ⟨7, .data⟩ (by simp) rfl (fun k hk _ => by unfold un5C; simp; try omega)) (hn _ ⟨_, rfl, h6⟩)
      · obtain ⟨x, hx, h6⟩ : ∃ x, a.eval (.tmp 33) = .agg #[x, .int .i64 s] ∧ OwnI w7 B x pre := (dv ⟨8, .data⟩ (by simp) rfl (fun k hk _ => by unfold un5C; simp; try omega))
        exact bs_cut (.tmp 33) rfl x (s : Int) h6.sl hx (hK _ _ (hfr.grown (n := w7.heap.size) ((Below.refl _ _).alloc (Nat.le_refl _) _) hfr.size) (fun _ h => h.alloc h.size _) (fun j' u' _ _ _ h => un5_mono ((Below.refl _ _).alloc (Nat.le_refl _) _) j' u' h) ⟨w7.heap.size, x, rfl, cell_new rfl rfl, cell_new rfl rfl, h6.alloc _⟩)
      · have h4 : a.eval (.tmp 29) = vl := (dv ⟨4, .data⟩ (by simp) rfl (fun k hk _ => by unfold un5C; simp; try omega))
        obtain ⟨g, x, hx, g0, g1, h6⟩ : ∃ g x, a.eval (.tmp 34) = .slice (some ⟨g, 0, none⟩) 1 1 ∧ w7.cell? ⟨g, 0, none⟩ = some x ∧ w7.cell? ⟨g, 1, none⟩ = some (.int .i64 s) ∧ OwnI w7 B x pre := (dv ⟨9, .data⟩ (by simp) rfl (fun k hk _ => by unfold un5C; simp; try omega))
        have hb7 := hT (.inl rfl)
        have ho7 := HO2.out.below hb7
        exact wp_app_cut (.tmp 29) (.tmp 34) rfl B vl st.cuts h4 ho7 g 1 x (pre, (s : Int)) hx g0 g1 h6 (by have := HC2.out; omega) (by have := hb7.size; have := HM2.out.lt; have := H.Bb; omega) fun v' w8 o1 o2 o3 =>
          hK v' w8 ⟨o2.os.trans hb7.os, o2.tape.trans hb7.tape, o2.output.trans hb7.output, Nat.le_trans hb7.size o2.size, fun k hk _ h2 => (o2.block k (Nat.lt_of_lt_of_le hk hb7.size) (fun e => h2 e.symm)).trans (hb7.block k hk)⟩ (fun h => absurd rfl h) (fun j' u' h5 hc _ h => un5_app o2 ho7 j' u' h5 hc h) ⟨o1, o3.elim .inl fun h => .inr ⟨_, h, hb7.size⟩⟩
      · exact vl_nil (.tmp 25) rfl _ (dv ⟨0, .data⟩ (by simp) rfl (fun k hk _ => by unfold un5C; simp; try omega)) (hn _ rfl)
      · exact fa_maker (.tmp 36) 3 (by omega) rfl b 0 (dv ⟨11, .data⟩ (by simp) rfl (fun k hk _ => by unfold un5C; simp; try omega)) (hn _ rfl)
    · rintro op a w7 hop hsm hfr hv K hK
      have ho' := Option.some.inj hop
      subst ho'
      have h10 : OwnC w7 B (a.eval (.tmp 35)) (st.cuts ++ [(pre, (s : Int))]) ∧ LinkB vl (a.eval (.tmp 35)) W2.heap.size := hv 10 (by omega) (fun k hk => by unfold un5C; simp; try omega)
      have h12 : a.eval (.tmp 37) = .pointer (some ⟨b, 0 + 3, none⟩) := hv 12 (by omega) (fun k hk => by unfold un5C; simp; try omega)
      have hm7 : MkAt w7 b (.slice pa p.length pc) span st.left vl := (hfr.block b HM2.out.lt (by have := HM2.out.lt; omega) (fun e => HO2.out.ne HM2.out e)).trans HM2.out
      obtain ⟨sa, sc, hsv, _⟩ := h10.1.sc
      exact wp_store1 26 size_cuts (.tmp 37) (.tmp 35) rfl rfl ⟨b, 0 + 3, none⟩ vl sa _ sc h12 hsv (by rw [Nat.zero_add]; exact hm7.cell 3) (by rw [Nat.zero_add]; exact hm7.frozen 3) (hK _ _ ⟨hsm, _, w7, by rw [Nat.zero_add], by rw [← hsv]; exact h10.1, by rw [← hsv]; exact h10.2, hfr⟩)
    rintro a w' ⟨hs5, vl', w9, rfl, ho9, hl9, hf9⟩
    have hsm' : Sm [25, 26, 27, 28, 29, 30, 31, 32, 33, 34, 35, 36, 37] a0 a := hs5
    have HA := hsm'.lit
    simp only [List.foldl] at HA
    generalize a.eval (.tmp 25) = t25 at HA
    generalize a.eval (.tmp 26) = t26 at HA
    generalize a.eval (.tmp 27) = t27 at HA
    generalize a.eval (.tmp 28) = t28 at HA
    generalize a.eval (.tmp 29) = t29 at HA
    generalize a.eval (.tmp 30) = t30 at HA
    generalize a.eval (.tmp 31) = t31 at HA
    generalize a.eval (.tmp 32) = t32 at HA
    generalize a.eval (.tmp 33) = t33 at HA
    generalize a.eval (.tmp 34) = t34 at HA
    generalize a.eval (.tmp 35) = t35 at HA
    generalize a.eval (.tmp 36) = t36 at HA
    generalize a.eval (.tmp 37) = t37 at HA
    rw [HA, ha0]
    simp only [Act.put, List.setIfInBounds_toArray, List.set_cons_zero, List.set_cons_succ]
    clear HA
    clear hs5 hsm' ha0 z2 z3 z5 hvb
    have hsc := ho9.sc
    obtain ⟨na, nc, rfl, n1, n2, _⟩ := hsc
    have hm9 : MkAt w9 b (.slice pa p.length pc) span st.left vl := (hf9.block b HM2.out.lt (by have := HM2.out.lt; omega) (fun e => HO2.out.ne HM2.out e)).trans HM2.out
    have b0 : Boxed w9 w.heap.size 70 (.pointer (some ⟨b, 0, none⟩)) := (hf9.block _ X0.out.lt (by have := X0.out.lt; omega) (fun e => NV.out _ e (Nat.le_refl _))).trans X0.out
    have b2 : Boxed w9 (w.heap.size + 1 + 1) 4 (.bool false) := (hf9.block _ X2.out.lt (by have := X2.out.lt; omega) (fun e => NV.out _ e (by omega))).trans X2.out
    obtain ⟨w10, hw10⟩ : ∃ w10, w10 = w9.setCell ⟨b, 3, none⟩ (.slice na (st.cuts ++ [(pre, (s : Int))]).length nc) := ⟨_, rfl⟩
    have hb6 := Nat.ne_of_lt hbw
    have b0' : Boxed w10 w.heap.size 70 (.pointer (some ⟨b, 0, none⟩)) := by rw [hw10]; exact (Below.heap_setCell _ _ _ _ (by dsimp only; omega)).trans b0
    have b2' : Boxed w10 (w.heap.size + 1 + 1) 4 (.bool false) := by rw [hw10]; exact (Below.heap_setCell _ _ _ _ (by dsimp only; omega)).trans b2
    have hm10 : MkAt w10 b (.slice pa p.length pc) span st.left (.slice na (st.cuts ++ [(pre, (s : Int))]).length nc) := by rw [hw10]; exact hm9.put _
    have ho10 : OwnC w10 B (.slice na (st.cuts ++ [(pre, (s : Int))]).length nc) (st.cuts ++ [(pre, (s : Int))]) := by rw [hw10]; exact ho9.kept_mk hm9 _
    have hf10 : OutB b vl w w10 := by
      have h1 : OutB b vl W2 w9 := ⟨hf9.os, hf9.tape, hf9.output, hf9.size, fun k hk _ h2 => hf9.block k hk (by omega) h2⟩
      have h2 : OutB b vl w W2 := OutB.of_below HF2.out
      have h3 := h2.trans (LinkB.refl _ _) h1
      rw [hw10]
      exact ⟨h3.os, h3.tape, h3.output, Nat.le_trans h3.size (by simp [World.setCell]), fun k hk h4 h5 => (Below.heap_setCell _ _ _ _ (by dsimp only; omega)).trans (h3.block k hk h4 h5)⟩
    have HL10 : Hid (LinkB vl (.slice na (st.cuts ++ [(pre, (s : Int))]).length nc) w.heap.size) := hl9.elim .inl fun ⟨k, h1, h2⟩ => .inr ⟨k, h1, by have := HS2.out; omega⟩
    have HM10 := Lib.hid hm10; have HO10 := Lib.hid ho10; have HF10 := Lib.hid hf10; have B2' := Lib.hid b2'
    have y0 := b0'.cell; have y2 := b2'.cell; have zz2 := b2'.frozen
    have c3 := hm10.cell 3
    simp only [List.getElem?_toArray, List.getElem?_cons_succ, List.getElem?_cons_zero] at c3
    obtain ⟨nn, hnn⟩ : ∃ nn, (st.cuts ++ [(pre, (s : Int))]).length = nn := ⟨_, rfl⟩
    rw [hnn] at c3
    have HNN := Lib.hid (show nn = st.cuts.length + 1 by rw [← hnn]; simp)
    have hnm : nn ≤ 9223372036854775807 := by have := HNN.out; have := HC2.out; omega
    rw [← hw10]
    rw [hnn] at HM10 HO10 HL10
    clear ho9 hl9 hf9 hm9 b0 b2 b0' b2' hm10 ho10 hf10 hw10 hnn n1 n2
    go_wp2_with fail
    refine ⟨.bool (decide ((nn : Int) ≤ 20000)), by simp [results, Tryz.f51, go_sem, y2], HF10.out.grown (n := w.heap.size) ((Below.refl _ _).setCell (p := ⟨w.heap.size + 1 + 1, 0, none⟩) (by dsimp only; omega) _) (Nat.le_refl _), ?_⟩
    rw [HV.out]
    unfold pushM
    by_cases hcc : st.cuts.length + 1 ≤ 20000
    · rw [if_pos hcc]
      exact ⟨by rw [decide_eq_true (by have := HNN.out; omega)], _, HM10.out.other (by omega) _, HO10.out.kept_box B2'.out _, HL10.out⟩
    · rw [if_neg hcc]
      show _ = _
      rw [decide_eq_false (by have := HNN.out; omega)]
  · have hbq : ((pre.length : Int) == (p.length : Int)) = false := by rw [beq_eq_false_iff_ne]; omega
    rw [hbq]
    obtain ⟨f', hf'⟩ : ∃ f', f = f' + 1 := ⟨f - 1, by have := HF.out; omega⟩
    subst hf'
    have CI := Lib.hid (IH.out f' rfl); clear IH
    have hlt : pre.length < p.length := by have := HF.out; omega
    clear hbq c0 hfull
    go_wp2_with fail
    refine (station_any H span st.left vl _ pre (W3.drewN m5) (below_drewN' (HW.out.trans (HB3.out.mono HW.out.size)) _) HM3.out ((HU.out.keep HB3.out).drewN _) HR.out hlt).mono ?_
    rintro e W2 ⟨rfl, hb5⟩
    have hb5' : Below W3.heap.size W3 W2 := (below_drewN' (Below.refl _ _) m5).trans hb5
    have hb2' : Below w.heap.size w W2 := HB3.out.trans (hb5'.mono HB3.out.size)
    have HM2 : Hid (MkAt W2 b (.slice pa p.length pc) span st.left vl) := HM3.out.below hb5' HM3.out.lt
    have HO2 : Hid (OwnC W2 B vl st.cuts) := HO.out.below hb2'
    have HU2 : Hid (SI W2 (.slice ua pre.length uc) pre) := HU.out.keep hb2'
    have X0 : Hid (Boxed W2 w.heap.size 70 (.pointer (some ⟨b, 0, none⟩))) := bx_below Y0.out hb5' Y0.out.lt
    have X1 : Hid (Boxed W2 (w.heap.size + 1) 24 (.slice ua pre.length uc)) := bx_below Y1.out hb5' Y1.out.lt
    have X2 : Hid (Boxed W2 (w.heap.size + 1 + 1) 4 (.bool false)) := bx_below Y2.out hb5' Y2.out.lt
    have HF2 : Hid (Below w.heap.size w W2) := hb2'
    have HS2 := Lib.hid (show w.heap.size + 3 ≤ W2.heap.size by rw [← HS3.out]; exact hb5'.size)
    have IU : Hid (InS (fun k => k < W2.heap.size ∧ k ≠ b ∧ vl.ownBlock ≠ some k) (.slice ua pre.length uc)) := fun a n c e hn => by have h1 := IU0.out a n c e hn; have := HS2.out; exact ⟨by omega, h1.2⟩
    clear hb5 hb5' hb2' y0 y1 HW3
    cases hst : stB p span pre with
    | some s =>
      have HV := Lib.hid (und_shown (f := f') (st := st) hst)
      simp only [Option.getD_some, Option.isSome_some]
      clear hst
      go_wp2_with fail
      refine wp_name fun a0 ha0 => ?_
      have z2 : a0.eval (.tmp 2) = .pointer (some ⟨w.heap.size, 0, none⟩) := by rw [ha0]; rfl
      have z3 : a0.eval (.tmp 3) = .pointer (some ⟨w.heap.size + 1, 0, none⟩) := by rw [ha0]; rfl
      have z5 : a0.eval (.tmp 5) = .int .i64 (s : Nat) := by rw [ha0]; rfl
      have hvb : ∀ k, vl.ownBlock = some k → B ≤ k ∧ k < W2.heap.size := fun k hk => HO2.out.lt k hk
      refine wp_region_iqst 13 un5d (un5P (.slice ua pre.length uc) pre b B s vl W2.heap.size st.cuts) un5C (fun w' => OutB W2.heap.size vl W2 w') 10 (fun w' => Below W2.heap.size W2 w') (fun _ _ => false) (by kernel_rfl) (fun _ _ _ => rfl) (fun a w' => Sm (slots un5d 13) a0 a ∧ ∃ vl' w9, w' = w9.setCell ⟨b, 3, none⟩ vl' ∧ OwnC w9 B vl' (st.cuts ++ [(pre, (s : Int))]) ∧ LinkB vl vl' W2.heap.size ∧ OutB W2.heap.size vl W2 w9) rfl mixed (by kernel_rfl) (by rw [show a0.tmps.size = 72 by rw [ha0]; rfl]; kernel_rfl) (by kernel_rfl) (by kernel_rfl) (OutB.of_below (Below.refl _ _).drew) (Below.refl _ _).drew ?_ ?_ ?_
      · rintro i op a w7 hi hop hdep hsm hfr hT K hK
        have q2 := (hsm.eval (m := 2) (by decide)).trans z2
        have q3 := (hsm.eval (m := 3) (by decide)).trans z3
        have q5 := (hsm.eval (m := 5) (by decide)).trans z5
        have b0 : Boxed w7 w.heap.size 70 (.pointer (some ⟨b, 0, none⟩)) := (hfr.block _ X0.out.lt (by have := X0.out.lt; omega) (fun e => NV.out _ e (Nat.le_refl _))).trans X0.out
        have b1 : Boxed w7 (w.heap.size + 1) 24 (.slice ua pre.length uc) := (hfr.block _ X1.out.lt (by have := X1.out.lt; omega) (fun e => NV.out _ e (by omega))).trans X1.out
        have hm7 : MkAt w7 b (.slice pa p.length pc) span st.left vl := (hfr.block b HM2.out.lt (by have := HM2.out.lt; omega) (fun e => HO2.out.ne HM2.out e)).trans HM2.out
        have dv : ∀ e' ∈ op.after, Region.binds .any e' = true → (∀ k, k ≠ i → (fun _ _ => false : Nat → Nat → Bool) k i = false → un5C k e'.on = false) → un5P (.slice ua pre.length uc) pre b B s vl W2.heap.size st.cuts e'.on (a.eval (.tmp (un5d e'.on))) w7 := fun e he hbi hc => hdep e he hbi hc
        have hn : ∀ v, un5P (.slice ua pre.length uc) pre b B s vl W2.heap.size st.cuts i v w7 → K (a.put op.dst v) w7 := fun v hv => hK v w7 hfr (fun _ h => h) (fun _ _ _ _ _ h => h) hv
        have hcase : i = 0 ∨ i = 1 ∨ i = 2 ∨ i = 3 ∨ i = 4 ∨ i = 5 ∨ i = 6 ∨ i = 7 ∨ i = 8 ∨ i = 9 ∨ i = 10 ∨ i = 11 ∨ i = 12 := by omega
        rcases hcase with h | h | h | h | h | h | h | h | h | h | h | h | h <;> subst h <;> have ho' := Option.some.inj hop <;> subst ho'
        · exact vl_load 70 agg_pmaker (.tmp 2) rfl _ _ q2 b0.cell (hn _ rfl)
        · exact vl_load 70 agg_pmaker (.tmp 2) rfl _ _ q2 b0.cell (hn _ rfl)
        · exact vl_nil (.tmp 26) rfl _ (dv ⟨1, .data⟩ (by simp) rfl (fun k hk _ => by unfold un5C; simp; try omega)) (hn _ rfl)
        · exact fa_maker (.tmp 27) 3 (by omega) rfl b 0 (dv ⟨2, .data⟩ (by simp) rfl (fun k hk _ => by unfold un5C; simp; try omega)) (hn _ rfl)
        · exact vl_load 26 agg_cuts (.tmp 28) rfl _ _ (dv ⟨3, .data⟩ (by simp) rfl (fun k hk _ => by unfold un5C; simp; try omega)) (by rw [Nat.zero_add]; exact hm7.cell 3) (hn _ rfl)
        · exact vl_load 24 agg_ints (.tmp 3) rfl _ _ q3 b1.cell (hn _ rfl)
        · exact vl_call1 66 _ (.tmp 30) rfl enter_clI _ (dv ⟨5, .data⟩ (by simp) rfl (fun k hk _ => by unfold un5C; simp; try omega)) ((clone_int _ pre w7 (HU2.out.keepS (hfr.keepS (fun k hk => ⟨hk.1, by have := hk.1; omega, hk.2.2⟩)) IU.out) FU.out (by have := rightB_len HR.out; have := HGd.out.len; omega)).mono fun e' w8 ⟨v, he', ho, hb8⟩ =>
            ⟨v, he', hK v w8 (hfr.grown (n := w7.heap.size) hb8 hfr.size) (fun _ h => h.trans (hb8.mono h.size)) (fun j' u' _ _ _ h => un5_mono hb8 j' u' h) (ho.mono (by have := hfr.size; have := HM2.out.lt; have := H.Bb; omega))⟩)
        · exact vl_move (.tmp 5) rfl _ q5 (hn _ rfl)
        · have h6 : OwnI w7 B (a.eval (.tmp 31)) pre := (dv ⟨6, .data⟩ (by simp) rfl (fun k hk _ => by unfold un5C; simp; try omega))
          exact bd_cut (.tmp 31) (.tmp 32) rfl _ (s : Int) h6.sl rfl (dv ⟨7, .data⟩ (by simp) rfl (fun k hk _ => by unfold un5C; simp; try omega)) (hn _ ⟨_, rfl, h6⟩)
        · obtain ⟨x, hx, h6⟩ : ∃ x, a.eval (.tmp 33) = .agg #[x, .int .i64 s] ∧ OwnI w7 B x pre := (dv ⟨8, .data⟩ (by simp) rfl (fun k hk _ => by unfold un5C; simp; try omega))
          exact bs_cut (.tmp 33) rfl x (s : Int) h6.sl hx (hK _ _ (hfr.grown (n := w7.heap.size) ((Below.refl _ _).alloc (Nat.le_refl _) _) hfr.size) (fun _ h => h.alloc h.size _) (fun j' u' _ _ _ h => un5_mono ((Below.refl _ _).alloc (Nat.le_refl _) _) j' u' h) ⟨w7.heap.size, x, rfl, cell_new rfl rfl, cell_new rfl rfl, h6.alloc _⟩)
        · have h4 : a.eval (.tmp 29) = vl := (dv ⟨4, .data⟩ (by simp) rfl (fun k hk _ => by unfold un5C; simp; try omega))
          obtain ⟨g, x, hx, g0, g1, h6⟩ : ∃ g x, a.eval (.tmp 34) = .slice (some ⟨g, 0, none⟩) 1 1 ∧ w7.cell? ⟨g, 0, none⟩ = some x ∧ w7.cell? ⟨g, 1, none⟩ = some (.int .i64 s) ∧ OwnI w7 B x pre := (dv ⟨9, .data⟩ (by simp) rfl (fun k hk _ => by unfold un5C; simp; try omega))
          have hb7 := hT (.inl rfl)
          have ho7 := HO2.out.below hb7
          exact wp_app_cut (.tmp 29) (.tmp 34) rfl B vl st.cuts h4 ho7 g 1 x (pre, (s : Int)) hx g0 g1 h6 (by have := HC2.out; omega) (by have := hb7.size; have := HM2.out.lt; have := H.Bb; omega) fun v' w8 o1 o2 o3 =>
            hK v' w8 ⟨o2.os.trans hb7.os, o2.tape.trans hb7.tape, o2.output.trans hb7.output, Nat.le_trans hb7.size o2.size, fun k hk _ h2 => (o2.block k (Nat.lt_of_lt_of_le hk hb7.size) (fun e => h2 e.symm)).trans (hb7.block k hk)⟩ (fun h => absurd rfl h) (fun j' u' h5 hc _ h => un5_app o2 ho7 j' u' h5 hc h) ⟨o1, o3.elim .inl fun h => .inr ⟨_, h, hb7.size⟩⟩
        · exact vl_nil (.tmp 25) rfl _ (dv ⟨0, .data⟩ (by simp) rfl (fun k hk _ => by unfold un5C; simp; try omega)) (hn _ rfl)
        · exact fa_maker (.tmp 36) 3 (by omega) rfl b 0 (dv ⟨11, .data⟩ (by simp) rfl (fun k hk _ => by unfold un5C; simp; try omega)) (hn _ rfl)
      · rintro op a w7 hop hsm hfr hv K hK
        have ho' := Option.some.inj hop
        subst ho'
        have h10 : OwnC w7 B (a.eval (.tmp 35)) (st.cuts ++ [(pre, (s : Int))]) ∧ LinkB vl (a.eval (.tmp 35)) W2.heap.size := hv 10 (by omega) (fun k hk => by unfold un5C; simp; try omega)
        have h12 : a.eval (.tmp 37) = .pointer (some ⟨b, 0 + 3, none⟩) := hv 12 (by omega) (fun k hk => by unfold un5C; simp; try omega)
        have hm7 : MkAt w7 b (.slice pa p.length pc) span st.left vl := (hfr.block b HM2.out.lt (by have := HM2.out.lt; omega) (fun e => HO2.out.ne HM2.out e)).trans HM2.out
        obtain ⟨sa, sc, hsv, _⟩ := h10.1.sc
        exact wp_store1 26 size_cuts (.tmp 37) (.tmp 35) rfl rfl ⟨b, 0 + 3, none⟩ vl sa _ sc h12 hsv (by rw [Nat.zero_add]; exact hm7.cell 3) (by rw [Nat.zero_add]; exact hm7.frozen 3) (hK _ _ ⟨hsm, _, w7, by rw [Nat.zero_add], by rw [← hsv]; exact h10.1, by rw [← hsv]; exact h10.2, hfr⟩)
      rintro a w' ⟨hs5, vl', w9, rfl, ho9, hl9, hf9⟩
      have hsm' : Sm [25, 26, 27, 28, 29, 30, 31, 32, 33, 34, 35, 36, 37] a0 a := hs5
      have HA := hsm'.lit
      simp only [List.foldl] at HA
      generalize a.eval (.tmp 25) = t25 at HA
      generalize a.eval (.tmp 26) = t26 at HA
      generalize a.eval (.tmp 27) = t27 at HA
      generalize a.eval (.tmp 28) = t28 at HA
      generalize a.eval (.tmp 29) = t29 at HA
      generalize a.eval (.tmp 30) = t30 at HA
      generalize a.eval (.tmp 31) = t31 at HA
      generalize a.eval (.tmp 32) = t32 at HA
      generalize a.eval (.tmp 33) = t33 at HA
      generalize a.eval (.tmp 34) = t34 at HA
      generalize a.eval (.tmp 35) = t35 at HA
      generalize a.eval (.tmp 36) = t36 at HA
      generalize a.eval (.tmp 37) = t37 at HA
      rw [HA, ha0]
      simp only [Act.put, List.setIfInBounds_toArray, List.set_cons_zero, List.set_cons_succ]
      clear HA
      clear hs5 hsm' ha0 z2 z3 z5 hvb
      have hsc := ho9.sc
      obtain ⟨na, nc, rfl, n1, n2, _⟩ := hsc
      have hm9 : MkAt w9 b (.slice pa p.length pc) span st.left vl := (hf9.block b HM2.out.lt (by have := HM2.out.lt; omega) (fun e => HO2.out.ne HM2.out e)).trans HM2.out
      have b0 : Boxed w9 w.heap.size 70 (.pointer (some ⟨b, 0, none⟩)) := (hf9.block _ X0.out.lt (by have := X0.out.lt; omega) (fun e => NV.out _ e (Nat.le_refl _))).trans X0.out
      have b2 : Boxed w9 (w.heap.size + 1 + 1) 4 (.bool false) := (hf9.block _ X2.out.lt (by have := X2.out.lt; omega) (fun e => NV.out _ e (by omega))).trans X2.out
      obtain ⟨w10, hw10⟩ : ∃ w10, w10 = w9.setCell ⟨b, 3, none⟩ (.slice na (st.cuts ++ [(pre, (s : Int))]).length nc) := ⟨_, rfl⟩
      have hb6 := Nat.ne_of_lt hbw
      have b0' : Boxed w10 w.heap.size 70 (.pointer (some ⟨b, 0, none⟩)) := by rw [hw10]; exact (Below.heap_setCell _ _ _ _ (by dsimp only; omega)).trans b0
      have b2' : Boxed w10 (w.heap.size + 1 + 1) 4 (.bool false) := by rw [hw10]; exact (Below.heap_setCell _ _ _ _ (by dsimp only; omega)).trans b2
      have hm10 : MkAt w10 b (.slice pa p.length pc) span st.left (.slice na (st.cuts ++ [(pre, (s : Int))]).length nc) := by rw [hw10]; exact hm9.put _
      have ho10 : OwnC w10 B (.slice na (st.cuts ++ [(pre, (s : Int))]).length nc) (st.cuts ++ [(pre, (s : Int))]) := by rw [hw10]; exact ho9.kept_mk hm9 _
      have hf10 : OutB b vl w w10 := by
        have h1 : OutB b vl W2 w9 := ⟨hf9.os, hf9.tape, hf9.output, hf9.size, fun k hk _ h2 => hf9.block k hk (by omega) h2⟩
        have h2 : OutB b vl w W2 := OutB.of_below HF2.out
        have h3 := h2.trans (LinkB.refl _ _) h1
        rw [hw10]
        exact ⟨h3.os, h3.tape, h3.output, Nat.le_trans h3.size (by simp [World.setCell]), fun k hk h4 h5 => (Below.heap_setCell _ _ _ _ (by dsimp only; omega)).trans (h3.block k hk h4 h5)⟩
      have HL10 : Hid (LinkB vl (.slice na (st.cuts ++ [(pre, (s : Int))]).length nc) w.heap.size) := hl9.elim .inl fun ⟨k, h1, h2⟩ => .inr ⟨k, h1, by have := HS2.out; omega⟩
      have HM10 := Lib.hid hm10; have HO10 := Lib.hid ho10; have HF10 := Lib.hid hf10; have B2' := Lib.hid b2'
      have y0 := b0'.cell; have y2 := b2'.cell; have zz2 := b2'.frozen
      have c3 := hm10.cell 3
      simp only [List.getElem?_toArray, List.getElem?_cons_succ, List.getElem?_cons_zero] at c3
      obtain ⟨nn, hnn⟩ : ∃ nn, (st.cuts ++ [(pre, (s : Int))]).length = nn := ⟨_, rfl⟩
      rw [hnn] at c3
      have HNN := Lib.hid (show nn = st.cuts.length + 1 by rw [← hnn]; simp)
      have hnm : nn ≤ 9223372036854775807 := by have := HNN.out; have := HC2.out; omega
      rw [← hw10]
      rw [hnn] at HM10 HO10 HL10
      clear ho9 hl9 hf9 hm9 b0 b2 b0' b2' hm10 ho10 hf10 hw10 hnn n1 n2
      go_wp2_with fail
      refine ⟨.bool (decide ((nn : Int) ≤ 20000)), by simp [results, Tryz.f51, go_sem, y2], HF10.out.grown (n := w.heap.size) ((Below.refl _ _).setCell (p := ⟨w.heap.size + 1 + 1, 0, none⟩) (by dsimp only; omega) _) (Nat.le_refl _), ?_⟩
      rw [HV.out]
      unfold pushM
      by_cases hcc : st.cuts.length + 1 ≤ 20000
      · rw [if_pos hcc]
        exact ⟨by rw [decide_eq_true (by have := HNN.out; omega)], _, HM10.out.other (by omega) _, HO10.out.kept_box B2'.out _, HL10.out⟩
      · rw [if_neg hcc]
        show _ = _
        rw [decide_eq_false (by have := HNN.out; omega)]
    | none =>
      have HST := Lib.hid hst
      simp only [Option.getD_none, Option.isSome_none]
      clear hst
      have y0 := X0.out.cell; have y2 := X2.out.cell; have zz2 := X2.out.frozen
      have c2 := HM2.out.cell 2; have c2f := HM2.out.frozen 2
      simp only [List.getElem?_toArray, List.getElem?_cons_succ, List.getElem?_cons_zero] at c2
      obtain ⟨W6, hW6⟩ : ∃ W6, W6 = W2.setCell ⟨b, 2, none⟩ (.int .i64 ((st.left : Int) - 1)) := ⟨_, rfl⟩
      have hm6 : MkAt W6 b (.slice pa p.length pc) span ((st.left : Int) - 1) vl := by rw [hW6]; exact HM2.out.spend _
      have ho6 : OwnC W6 B vl st.cuts := by rw [hW6]; exact HO2.out.kept_mk HM2.out _
      have hn0 := Nat.ne_of_lt hbw
      have w0' : Boxed W6 w.heap.size 70 (.pointer (some ⟨b, 0, none⟩)) := by rw [hW6]; exact (Below.heap_setCell _ _ _ _ (by dsimp only; omega)).trans X0.out
      have w1' : Boxed W6 (w.heap.size + 1) 24 (.slice ua pre.length uc) := by rw [hW6]; exact (Below.heap_setCell _ _ _ _ (by dsimp only; omega)).trans X1.out
      have w2' : Boxed W6 (w.heap.size + 1 + 1) 4 (.bool false) := by rw [hW6]; exact (Below.heap_setCell _ _ _ _ (by dsimp only; omega)).trans X2.out
      have hf6 : OutB b vl w W6 := by rw [hW6]; exact (OutB.of_below HF2.out).trans (LinkB.refl _ _) (OutB.setB 2 _)
      have hs6 : W6.heap.size = W2.heap.size := by rw [hW6]; simp [World.setCell]
      have HM6 := Lib.hid hm6; have HO6 := Lib.hid ho6; have Z0 := Lib.hid w0'; have Z1 := Lib.hid w1'; have Z2 := Lib.hid w2'; have HF6 := Lib.hid hf6; have HS6 := Lib.hid hs6
      have HW6 := Lib.hid hW6; clear hW6
      have v0 := w0'.cell; have v2 := w2'.cell; have vf2 := w2'.frozen
      have d2 := hm6.cell 2
      simp only [List.getElem?_toArray, List.getElem?_cons_succ, List.getElem?_cons_zero] at d2
      clear hm6 ho6 w0' w1' w2' hf6 hs6
      by_cases hl0 : st.left = 0
      · have HV := Lib.hid (und_none (f := f') HST.out hl0)
        have hneg : ((st.left : Int) - 1) < 0 := by omega
        clear hl0
        go_wp2_with fail
        rw [← HW6.out]
        go_wp2_with fail
        refine ⟨.bool false, by simp [results, Tryz.f51, go_sem, v2], HF6.out.grown (n := w.heap.size) ((Below.refl _ _).setCell (p := ⟨w.heap.size + 1 + 1, 0, none⟩) (by dsimp only; omega) _) (Nat.le_refl _), by rw [HV.out]; rfl⟩
      · have hneg : ¬ ((st.left : Int) - 1) < 0 := by omega
        have hcs : ((st.left : Int) - 1) = ((spendM st).left : Int) := by simp only [spendM]; omega
        have HV := Lib.hid (und_tries (f := f') HST.out hl0)
        have HL0 := Lib.hid hl0; have HCS := Lib.hid hcs
        clear hl0 hcs
        go_wp2_with fail
        rw [← HW6.out]
        go_wp2_with fail
        rw [HCS.out] at HM6
        clear y0 y2 zz2 c2 c2f d2 HW6
        have c0 := HM6.out.cell 0
        simp only [List.getElem?_toArray, List.getElem?_cons_zero] at c0
        have v1 := Z1.out.cell
        refine wp_name fun a0 ha0 => ?_
        have z2 : a0.eval (.tmp 2) = .pointer (some ⟨w.heap.size, 0, none⟩) := by rw [ha0]; rfl
        have z3 : a0.eval (.tmp 3) = .pointer (some ⟨w.heap.size + 1, 0, none⟩) := by rw [ha0]; rfl
        refine wp_region_iqt un10d (un10P (.slice ua pre.length uc) (.slice pa p.length pc) b p.length (.func (.func 110) #[] #[.pointer (some ⟨W6.heap.size, 0, none⟩), .pointer (some ⟨W6.heap.size + 1, 0, none⟩)]) W6) (fun _ _ => false) (fun w' => Below W6.heap.size W6 w') 6 (fun w' => ∃ q, w' = W6.drewN q) un10D (by kernel_rfl) (fun i j h => by
            have h' : ¬ j < 7 ∨ ¬ i < 7 := h
            unfold un10D; simp; omega) mixed (by kernel_rfl) (by rw [show a0.tmps.size = 72 by rw [ha0]; rfl]; kernel_rfl) (by kernel_rfl) (Below.refl _ _).drew ⟨1, rfl⟩ ?_ ?_
        · rintro i op a w7 hop hdep hsm hb hT K hK
          have hi : i < 7 := (Array.getElem?_eq_some_iff.1 hop).1
          have q2 := (hsm.eval (m := 2) (by decide)).trans z2
          have q3 := (hsm.eval (m := 3) (by decide)).trans z3
          have dv : ∀ e' ∈ op.after, Region.binds .any e' = true → un10P (.slice ua pre.length uc) (.slice pa p.length pc) b p.length (.func (.func 110) #[] #[.pointer (some ⟨W6.heap.size, 0, none⟩), .pointer (some ⟨W6.heap.size + 1, 0, none⟩)]) W6 e'.on (a.eval (.tmp (un10d e'.on))) w7 := fun e he hbi => hdep e he hbi (fun _ _ _ => rfl)
          have hn : ∀ v, un10P (.slice ua pre.length uc) (.slice pa p.length pc) b p.length (.func (.func 110) #[] #[.pointer (some ⟨W6.heap.size, 0, none⟩), .pointer (some ⟨W6.heap.size + 1, 0, none⟩)]) W6 i v w7 → K (a.put op.dst v) w7 := fun v hv => hK v w7 hb (fun _ h => h) (fun _ _ _ _ _ h => h) hv
          have hcase : i = 0 ∨ i = 1 ∨ i = 2 ∨ i = 3 ∨ i = 4 ∨ i = 5 ∨ i = 6 := by omega
          rcases hcase with h | h | h | h | h | h | h <;> subst h <;> have ho' := Option.some.inj hop <;> subst ho'
          · exact vl_load 70 agg_pmaker (.tmp 2) rfl _ _ q2 (cell_keep hb v0) (hn _ rfl)
          · exact vl_nil (.tmp 56) rfl _ (dv ⟨0, .data⟩ (by simp) rfl) (hn _ rfl)
          · exact fa_maker (.tmp 57) 0 (by omega) rfl b 0 (dv ⟨1, .data⟩ (by simp) rfl) (hn _ rfl)
          · exact vl_load 22 agg_rows (.tmp 58) rfl _ _ (dv ⟨2, .data⟩ (by simp) rfl) (cell_keep hb c0) (hn _ rfl)
          · exact len_rows (.tmp 59) rfl _ _ _ (dv ⟨3, .data⟩ (by simp) rfl) (hn _ rfl)
          · exact vl_load 24 agg_ints (.tmp 3) rfl _ _ q3 (cell_keep hb v1) (hn _ rfl)
          · obtain ⟨q, rfl⟩ := hT (.inl rfl)
            exact vl_call2 77 _ _ (.tmp 60) (.tmp 61) rfl enter_others _ _ (dv ⟨4, .data⟩ (by simp) rfl) (dv ⟨5, .data⟩ (by simp) rfl) ((others_any (p.length : Int) _ _ ⟨_, _, _, rfl⟩).mono fun e w8 ⟨he, hw8⟩ => ⟨_, he, hK _ w8 (by rw [hw8]; exact ((below_drewN' (Below.refl _ _) q).alloc (Nat.le_refl _) _).alloc (by simp) _) (fun h => absurd rfl h) (fun j u' h6 _ _ h => un10_same j u' h6 h) ⟨rfl, q, hw8⟩⟩)
        rintro a6 w9 hs6' hb9 hv6
        obtain ⟨hs62, q, rfl⟩ := hv6 6 (by decide) (fun _ => rfl)
        have hs62 : a6.eval (.tmp 62) = .func (.func 110) #[] #[.pointer (some ⟨W6.heap.size, 0, none⟩), .pointer (some ⟨W6.heap.size + 1, 0, none⟩)] := hs62
        have hsm' : Sm [56, 57, 58, 59, 60, 61, 62] a0 a6 := hs6'
        have HA := hsm'.lit
        simp only [List.foldl] at HA
        rw [hs62] at HA
        generalize a6.eval (.tmp 56) = t56 at HA
        generalize a6.eval (.tmp 57) = t57 at HA
        generalize a6.eval (.tmp 58) = t58 at HA
        generalize a6.eval (.tmp 59) = t59 at HA
        generalize a6.eval (.tmp 60) = t60 at HA
        generalize a6.eval (.tmp 61) = t61 at HA
        rw [HA, ha0]
        simp only [Act.put, List.setIfInBounds_toArray, List.set_cons_zero, List.set_cons_succ]
        clear HA
        clear hv6 hs6' hsm' hs62 ha0 z2 z3 c0 v0 v1 v2 vf2
        obtain ⟨W7, hW7⟩ : ∃ W7, W7 = ((W6.drewN q).alloc (.cells #[.int .i64 p.length] 3)).alloc (.cells #[.slice ua pre.length uc] 24) := ⟨_, rfl⟩
        have hb67 : Below W6.heap.size W6 W7 := by rw [hW7]; exact ((below_drewN' (Below.refl _ _) q).alloc (Nat.le_refl _) _).alloc (by simp) _
        have hs7 : W7.heap.size = W6.heap.size + 2 := by rw [hW7]; simp
        have k3 : Boxed W7 W6.heap.size 3 (.int .i64 p.length) := by rw [hW7]; exact (Boxed.new (W6.drewN q) _ _).alloc _
        have k4 : Boxed W7 (W6.heap.size + 1) 24 (.slice ua pre.length uc) := by rw [hW7]; have := Boxed.new ((W6.drewN q).alloc (.cells #[.int .i64 p.length] 3)) 24 (.slice ua pre.length uc); rw [World.size_alloc] at this; exact this
        rw [← hW7]
        clear hW7
        have HS7 := Lib.hid hs7
        have hlt6 : w.heap.size + 3 ≤ W6.heap.size := by rw [HS6.out]; exact HS2.out
        have hf7 : OutB b vl w W7 := HF6.out.trans (LinkB.refl _ _) (OutB.of_below hb67)
        have HF7 := Lib.hid hf7
        have hu7 : SI W7 (.slice ua pre.length uc) pre := HU.out.keepS (hf7.keepS fun k hk => hk) IU0.out
        have HU7 := Lib.hid hu7
        have HM7 := Lib.hid (HM6.out.below hb67 HM6.out.lt)
        have HO7 := Lib.hid (HO6.out.below hb67)
        have G0 := Lib.hid (bx_below Z0.out hb67 Z0.out.lt); have G1 := Lib.hid (bx_below Z1.out hb67 Z1.out.lt); have G2 := Lib.hid (bx_below Z2.out hb67 Z2.out.lt)
        have HLT6 := Lib.hid hlt6
        have hcut7 : (spendM st).cuts = st.cuts := rfl
        clear hs7 hf7 hu7 hb67 hb9 hlt6
        go_wp2_with fail
        refine (wpIn_wide (n := 9)).1 ?_
        refine wpIn_rangeFunc_ownF rfl (by omega) (gf := 110) (lb := #[.pointer (some ⟨W6.heap.size, 0, none⟩), .pointer (some ⟨W6.heap.size + 1, 0, none⟩)]) rfl trivial (enters_of Tryz.func110 (by kernel_rfl) rfl)
          (others_stops (9 - 1) (by omega) W6.heap.size (W6.heap.size + 1) (fun k => k = W6.heap.size ∨ k = W6.heap.size + 1 ∨ (k < w.heap.size ∧ k ≠ b ∧ vl.ownBlock ≠ some k)) p.length (by have := HGd.out.len; omega) (.slice ua pre.length uc) pre (.inl rfl) (.inr (.inl rfl))
            (fun a n c e hn => .inr (.inr (IU0.out a n c e hn))) W7 (fun k hk => by rw [HS7.out]; have := HLT6.out; omega) k3.cell k4.cell HU7.out) KeepS.t (KeepS.b (fun k hk => by rw [HS7.out]; have := HLT6.out; omega)) (Below.refl _ _) (fun _ => rfl)
          (UnI p (.slice pa p.length pc) span b B f' (spendM st) pre (.slice ua pre.length uc) vl w.heap.size 0 W7)
          (fun c done W => c = .ret ∧ (∀ j, j ≤ p.length → uptoJ p.length pre j = done → triesM (undJob p span f' pre) j (spendM st) = none) ∧ W.cell? ⟨w.heap.size + 1 + 1, 0, none⟩ = some (.bool false) ∧ OutB b vl w W)
          unI_own
          (fun c => fun s A A' row hs hg hr => ⟨hs.1, hs.2.1, cell_kept hs.2.2.1 hg (fun r e => (hr r e).2), hs.2.2.2.turn hg (fun r e => by have := (hr r e).1; rw [HS7.out] at this; have := HLT6.out; omega)⟩)
          ⟨vl, spendM st, G0.out, G1.out, G2.out, OutB.refl _ _ _, LinkB.refl _ _, fun j hj hp => ?first, HM7.out, HO7.out, HC2.out, by simp only [spendM]; omega⟩
          (fun x => { tmps := #[.pointer (some ⟨b, 0, none⟩), .slice ua pre.length uc, .pointer (some ⟨w.heap.size, 0, none⟩), .pointer (some ⟨w.heap.size + 1, 0, none⟩), .pointer (some ⟨w.heap.size + 1 + 1, 0, none⟩), .int .i64 0, .bool false, .int .i64 (x.1 : Int), t8, t9, t10, t11, t12, t13, t14, t15, .bool false, .bool true, .tuple #[.int .i64 0, .bool false], .pointer (some ⟨b, 0, none⟩), .slice ua pre.length uc, .tuple #[.int .i64 0, .bool false], .int .i64 0, .bool false, .bool false, undef, undef, undef, undef, undef, undef, undef, undef, undef, undef, undef, undef, undef, undef, undef, undef, undef, undef, undef, .pointer (some ⟨b, 0, none⟩), .pointer (some ⟨b, 0, none⟩), .pointer (some ⟨b, 2, none⟩), .int .i64 st.left, .int .i64 ((st.left : Int) - 1), .pointer (some ⟨b, 0, none⟩), .pointer (some ⟨b, 2, none⟩), .pointer (some ⟨b, 0, none⟩), .pointer (some ⟨b, 0, none⟩), .pointer (some ⟨b, 2, none⟩), .int .i64 ((st.left : Int) - 1), .bool false, t56, t57, t58, t59, t60, t61, .func (.func 110) #[] #[.pointer (some ⟨W6.heap.size, 0, none⟩), .pointer (some ⟨W6.heap.size + 1, 0, none⟩)], .int .i64 (x.1 : Int), undef, undef, undef, undef, undef, undef, undef, undef], defers := [] }) ?assign ?body ?done ?stop
        case first =>
          have := tries_skip (p := p) (span := span) (f := f') (pre := pre) (st := spendM st) (x := some (spendM st)) (i := 0) j rfl fun k _ h2 => uptoJ_nil j hj hp k (by omega)
          rwa [Nat.zero_add] at this
        case assign =>
          intro l x W K hK
          gi_wp2
          exact hK
        case body =>
          rintro l done ⟨xj, hxN, hxu⟩ W ⟨vl', st', b0, b1, b2, hout, hlink, htr, hm, ho, hcc, hll⟩ _
          have B0 := Lib.hid b0; have B1 := Lib.hid b1; have B2 := Lib.hid b2; have HOUT := Lib.hid hout; have HLINK := Lib.hid hlink; have HTR := Lib.hid htr; have HMW := Lib.hid hm; have HOW := Lib.hid ho; have HCC := Lib.hid hcc; have HLL := Lib.hid hll
          have hNV : ∀ k, vl'.ownBlock = some k → k < w.heap.size ∨ W7.heap.size ≤ k := fun k hk => by
            rcases hlink with h | ⟨j, h, hj⟩
            · rw [h] at hk; exact .inl (HO.out.lt k hk).2
            · rw [h] at hk; cases hk; exact .inr hj
          have NV' := Lib.hid hNV
          have hWs := Lib.hid (show w.heap.size + 5 ≤ W.heap.size by have := hout.size; have := HS7.out; have := HLT6.out; omega)
          have HUW := Lib.hid (HU7.out.keepS (hout.keepS (S := fun k => k < w.heap.size ∧ k ≠ b ∧ vl.ownBlock ≠ some k) (fun k hk => ⟨by have := HS7.out; have := HLT6.out; omega, hk.2⟩)) IU0.out)
          clear b0 b1 b2 hout hlink htr hm ho hcc hll hNV
          gi_wp2_with fail
          refine wpIn_name fun a0 ha0 => ?_
          have z2 : a0.eval (.tmp 2) = .pointer (some ⟨w.heap.size, 0, none⟩) := by rw [ha0]; rfl
          have z3 : a0.eval (.tmp 3) = .pointer (some ⟨w.heap.size + 1, 0, none⟩) := by rw [ha0]; rfl
          have z7 : a0.eval (.tmp 7) = .int .i64 xj := by rw [ha0]; rfl
          refine wpIn_region_iqt (l := l) un12d (un12P (.slice ua pre.length uc) pre (xj : Int) b W.heap.size (und p span f' st' (pre ++ [(xj : Int)])).isSome (ZU b B (.slice pa p.length pc) span vl' W.heap.size (und p span f' st' (pre ++ [(xj : Int)])))) un12C (fun w' => OutB b vl' W w') 6 (fun w' => Below W.heap.size W w') un12D (by kernel_rfl) (fun i j h => by
              have h' : ¬ j < 8 ∨ ¬ i < 8 := h
              unfold un12D; simp; omega) mixed (by kernel_rfl) (by rw [show a0.tmps.size = 72 by rw [ha0]; rfl]; kernel_rfl) (by kernel_rfl) (by kernel_rfl) (OutB.of_below (Below.refl _ _).drew) (Below.refl _ _).drew ?_ ?_
          · rintro i op a w7 hop hdep hsm hfr hT K hK
            have hi : i < 8 := (Array.getElem?_eq_some_iff.1 hop).1
            have q2 := (hsm.eval (m := 2) (by decide)).trans z2
            have q3 := (hsm.eval (m := 3) (by decide)).trans z3
            have q7 := (hsm.eval (m := 7) (by decide)).trans z7
            have b0 : Boxed w7 w.heap.size 70 (.pointer (some ⟨b, 0, none⟩)) := (hfr.block _ B0.out.lt (by omega) (fun e => by have := NV'.out _ e; have := HS7.out; have := HLT6.out; omega)).trans B0.out
            have b1 : Boxed w7 (w.heap.size + 1) 24 (.slice ua pre.length uc) := (hfr.block _ B1.out.lt (by omega) (fun e => by have := NV'.out _ e; have := HS7.out; have := HLT6.out; omega)).trans B1.out
            have dv : ∀ e' ∈ op.after, Region.binds .any e' = true → (∀ k, k ≠ i → un12D k i = false → un12C k e'.on = false) → (un12P (.slice ua pre.length uc) pre (xj : Int) b W.heap.size (und p span f' st' (pre ++ [(xj : Int)])).isSome (ZU b B (.slice pa p.length pc) span vl' W.heap.size (und p span f' st' (pre ++ [(xj : Int)])))) e'.on (a.eval (.tmp (un12d e'.on))) w7 := fun e he hbi hc => hdep e he hbi hc
            have hn : ∀ v, (un12P (.slice ua pre.length uc) pre (xj : Int) b W.heap.size (und p span f' st' (pre ++ [(xj : Int)])).isSome (ZU b B (.slice pa p.length pc) span vl' W.heap.size (und p span f' st' (pre ++ [(xj : Int)])))) i v w7 → K (a.put op.dst v) w7 := fun v hv => hK v w7 hfr (fun _ h => h) (fun _ _ _ _ _ h => h) hv
            have hcase : i = 0 ∨ i = 1 ∨ i = 2 ∨ i = 3 ∨ i = 4 ∨ i = 5 ∨ i = 6 ∨ i = 7 := by omega
            rcases hcase with h | h | h | h | h | h | h | h <;> subst h <;> have ho' := Option.some.inj hop <;> subst ho'
            · exact vl_load 70 agg_pmaker (.tmp 2) rfl _ _ q2 b0.cell (hn _ rfl)
            · exact vl_load 24 agg_ints (.tmp 3) rfl _ _ q3 b1.cell (hn _ rfl)
            · have hb7 := hT (.inr rfl)
              exact vl_call1 66 _ (.tmp 65) rfl enter_clI _ (dv ⟨1, .data⟩ (by simp) rfl (un12_21)) ((clone_int _ pre w7 (HUW.out.keep hb7) FU.out (by have := rightB_len HR.out; have := HGd.out.len; omega)).mono fun e' w8 ⟨v, he', ho, hb8⟩ =>
                ⟨v, he', hK v w8 (OutB.of_below (hb7.trans (hb8.mono hb7.size))) (fun _ h => h.trans (hb8.mono h.size)) (fun j' u' _ _ hd h => un12_mono hb8 j' u' (fun e => by subst e; cases hd) (fun e => by subst e; cases hd) h) (ho.mono hb7.size)⟩)
            · exact vl_move (.tmp 7) rfl _ q7 (hn _ rfl)
            · have hb7 := hT (.inr rfl)
              exact wp_slice1 (.tmp 67) rfl xj (dv ⟨3, .data⟩ (by simp) rfl (un12_43)) (hK _ _ (OutB.of_below (hb7.alloc hb7.size _)) (fun _ h => h.alloc h.size _) (fun j' u' _ _ hd h => un12_mono ((Below.refl _ _).alloc (Nat.le_refl _) _) j' u' (fun e => by subst e; cases hd) (fun e => by subst e; cases hd) h) (SI_one w7 xj 3))
            · have hb7 := hT (.inr rfl)
              have h2 : OwnI w7 W.heap.size (a.eval (.tmp 66)) pre := (dv ⟨2, .data⟩ (by simp) rfl (un12_52))
              have h4 : SI w7 (a.eval (.tmp 68)) [(xj : Int)] := (dv ⟨4, .data⟩ (by simp) rfl (un12_54))
              exact wp_app_int (.tmp 66) (.tmp 68) rfl W.heap.size _ _ pre [(xj : Int)] rfl rfl h2 h4 (by have := rightB_len HR.out; have := HGd.out.len; simp; omega) hb7.size fun v' w8 ho hg hat =>
                hK v' w8 (OutB.of_below (hb7.grown hg hb7.size (fun k hk => (World.ownsRow.lt h2 k hk).1))) (fun _ h => h.grown hg h.size (fun k hk => (World.ownsRow.lt h2 k hk).1)) (fun j' u' h5 hc hd h => un12_rest j' u' (fun e => by subst e; cases hc) (fun e => by subst e; cases hc) h5 (fun e => by subst e; cases hd) (fun e => by subst e; cases hd) h) ho
            · have hb7 := hT (.inl rfl)
              have h5 : OwnI w7 W.heap.size (a.eval (.tmp 69)) (pre ++ [(xj : Int)]) := (dv ⟨5, .data⟩ (by simp) rfl (un12_65))
              obtain ⟨g5, c5, hv5, _, _, hg5, hg5', _⟩ := owns_form h5 (by simp)
              refine vl_call2 51 _ _ (.tmp 64) (.tmp 69) rfl enter_under _ _ (dv ⟨0, .data⟩ (by simp) rfl (un12_60)) rfl ?_
              have hBw := HMW.out.lt
              refine (CI.out st' (pre ++ [(xj : Int)]) _ vl' w7 (by have := HF.out; simp; omega) (rightB_snoc' HR.out (by omega) (by omega) hxu) HCC.out HLL.out
                (HW.out.trans (((HF7.out.below (B := w0.heap.size) (by have := H.wB; have := H.Bb; omega) (fun k hk => by have := (HO.out.lt k hk).1; have := H.wB; omega) HW.out.size)).trans
                  ((HOUT.out.below (B := w0.heap.size) (by have := H.wB; have := H.Bb; omega) (fun k hk => by have := (HO.out.lt k hk).1; have := H.wB; omega) (Nat.le_trans HW.out.size (by have := HS7.out; have := HLT6.out; omega))).trans (hb7.mono (Nat.le_trans HW.out.size (by have := hWs.out; omega))))))
                (HMW.out.below hb7 hBw) (HOW.out.below hb7) h5.si (.inr ⟨_, _, _, hv5⟩) (fun a' n' c' e' _ => by
                  rw [hv5] at e'
                  cases e'
                  exact ⟨hg5', fun e2 => by simp only at e2; omega, fun e2 => by have := (HOW.out.lt _ e2).2; simp only at this; omega⟩)).mono ?_
              rintro e' w8 ⟨ho8, hp8⟩
              obtain ⟨rfl, hz8⟩ := hp8.z
              exact ⟨_, rfl, hK _ w8 ((OutB.of_below hb7).trans (LinkB.refl _ _) ho8) (fun h => absurd rfl h) (fun j' u' h6 hc hd h => un12_rest j' u' (fun e => by subst e; cases hc) (fun e => by subst e; cases hc) (fun e => by subst e; cases hc) h6 (fun e => by subst e; cases hd) h) ⟨rfl, hz8.mono hb7.size⟩⟩
            · obtain ⟨h6, hz⟩ : a.eval (.tmp 70) = .bool (und p span f' st' (pre ++ [(xj : Int)])).isSome ∧ ZU b B (.slice pa p.length pc) span vl' W.heap.size (und p span f' st' (pre ++ [(xj : Int)])) w7 := (dv ⟨6, .data⟩ (by simp) rfl (un12_76))
              exact vl_not (.tmp 70) _ rfl _ h6 (hn _ ⟨rfl, hz⟩)
          rintro a6 w9 hs6 hout9 hv6
          obtain ⟨hs71, hz⟩ := hv6 7 (by decide) (fun k => by unfold un12C; simp)
          have hs71 : a6.eval (.tmp 71) = .bool (!(und p span f' st' (pre ++ [(xj : Int)])).isSome) := hs71
          have hsm' : Sm [64, 65, 66, 67, 68, 69, 70, 71] a0 a6 := hs6
          have HA := hsm'.lit
          simp only [List.foldl] at HA
          rw [hs71] at HA
          generalize a6.eval (.tmp 64) = t64 at HA
          generalize a6.eval (.tmp 65) = t65 at HA
          generalize a6.eval (.tmp 66) = t66 at HA
          generalize a6.eval (.tmp 67) = t67 at HA
          generalize a6.eval (.tmp 68) = t68 at HA
          generalize a6.eval (.tmp 69) = t69 at HA
          generalize a6.eval (.tmp 70) = t70 at HA
          rw [HA, ha0]
          simp only [Act.put, List.setIfInBounds_toArray, List.set_cons_zero, List.set_cons_succ]
          clear HA
          clear hv6 hs6 hsm' hs71 ha0 z2 z3 z7
          have x0 : Boxed w9 w.heap.size 70 (.pointer (some ⟨b, 0, none⟩)) := (hout9.block _ B0.out.lt (by omega) (fun e => by have := NV'.out _ e; have := HS7.out; have := HLT6.out; omega)).trans B0.out
          have x1 : Boxed w9 (w.heap.size + 1) 24 (.slice ua pre.length uc) := (hout9.block _ B1.out.lt (by omega) (fun e => by have := NV'.out _ e; have := HS7.out; have := HLT6.out; omega)).trans B1.out
          have x2 : Boxed w9 (w.heap.size + 1 + 1) 4 (.bool false) := (hout9.block _ B2.out.lt (by omega) (fun e => by have := NV'.out _ e; have := HS7.out; have := HLT6.out; omega)).trans B2.out
          have X0' := Lib.hid x0; have X1' := Lib.hid x1; have X2' := Lib.hid x2
          have v2 := x2.cell; have vf2 := x2.frozen
          clear x0 x1 x2
          have HO9 := Lib.hid hout9; have HZ := Lib.hid hz
          clear hout9 hz
          have HAT : Hid (∀ j, j ≤ p.length → uptoJ p.length pre j = done ++ [⟨xj, hxN, hxu⟩] → triesM (undJob p span f' pre) xj (spendM st) = some st' ∧ xj < j ∧ ∀ i, xj < i → i < j → pre.any (fun y => (i : Int) == y) = true) := fun j hj hp => by
            obtain ⟨h1, h2, h3⟩ := uptoJ_last j hj hp
            exact ⟨HTR.out xj (by omega) h2, h1, h3⟩
          cases hund : und p span f' st' (pre ++ [(xj : Int)]) with
          | none =>
            have HU9 := Lib.hid hund; clear hund
            simp only [Option.isSome_none]
            clear HZ
            gi_wp2_with fail
            refine ⟨(HO9.out.keepsOthers HMW.out HOW.out).trans (KeepsOthers.setCell _ _ _), rfl, fun j hj hp => ?_, World.cell?_setCell_same' _ _ _ (by rw [v2]; rfl), ?_⟩
            · obtain ⟨h1, h2, _⟩ := HAT.out j hj hp
              exact triesM_none (j := xj + 1) (by rw [triesM_succ h1, undJob_new hxu, HU9.out]) j (by omega)
            · have h1 : OutB b vl w W := HF7.out.trans (LinkB.refl _ _) HOUT.out
              have h2 : OutB b vl w w9 := h1.trans (HLINK.out.mono (by have := HS7.out; have := HLT6.out; omega)) HO9.out
              exact h2.grown (n := w.heap.size) ((Below.refl _ _).setCell (p := ⟨w.heap.size + 1 + 1, 0, none⟩) (by dsimp only; omega) _) (Nat.le_refl _)
          | some st'' =>
            have HU9 := Lib.hid hund
            rw [hund] at HZ
            clear hund
            simp only [Option.isSome_some]
            gi_wp2_with fail
            obtain ⟨vl'', m1, m2, m3⟩ := HZ.out
            refine ⟨HO9.out.keepsOthers HMW.out HOW.out, HO9.out.keepS (fun k hk => ?_), vl'', st'', X0'.out, X1'.out, X2'.out, HOUT.out.trans HLINK.out HO9.out, HLINK.out.trans m3 HOUT.out.size, fun j hj hp => ?_, m1, m2, und_cuts p span f' _ _ _ HU9.out HCC.out, Nat.le_trans (und_left p span f' _ _ _ HU9.out) HLL.out⟩
            · have h7 := HS7.out; have h8 := HLT6.out; have h9 := HOUT.out.size
              refine ⟨by omega, by omega, fun e => ?_⟩
              have := NV'.out k e
              rcases hk with rfl | rfl | ⟨h1, h2, h3⟩
              · omega
              · omega
              · rcases HLINK.out with h | ⟨i', h, hi'⟩
                · rw [h] at e; exact h3 e
                · rw [h] at e; cases e; omega
            · obtain ⟨h1, h2, h3⟩ := HAT.out j hj hp
              have h4 : triesM (undJob p span f' pre) (xj + 1) (spendM st) = some st'' := by rw [triesM_succ h1, undJob_new hxu, HU9.out]
              have h5 := tries_skip (j - (xj + 1)) h4 fun k h6 h7 => h3 k (by omega) (by omega)
              rwa [show xj + 1 + (j - (xj + 1)) = j by omega] at h5
        case done =>
          rintro D ys W hD rfl ⟨vl', st', b0, b1, b2, hout, hlink, htr, hm, ho, hcc, hll⟩ hK
          have HX := Lib.hid (htr p.length (Nat.le_refl _) rfl)
          have v2 := b2.cell; have vf2 := b2.frozen
          have B2 := Lib.hid b2; have HOUT := Lib.hid hout; have HLINK := Lib.hid hlink; have HMW := Lib.hid hm; have HOW := Lib.hid ho; have HK := Lib.hid hK
          have hWs := Lib.hid (show w.heap.size + 5 ≤ W.heap.size by have := hout.size; have := HS7.out; have := HLT6.out; omega)
          clear b0 b1 b2 hout hlink htr hm ho hcc hll hK
          go_wp2_with fail
          have hD' : w.heap.size ≤ D := by rw [HS7.out] at hD; have := HLT6.out; omega
          have hK' := (KeepsOthers.setCell W ⟨w.heap.size + 1 + 1, 0, none⟩ (.bool true)).same D _ HK.out rfl
          refine ⟨by simp, .inl ⟨_, _, rfl, run_takeDeferred hK', ?_⟩⟩
          have hc5 := cell_kept (World.cell?_setCell_same' W ⟨w.heap.size + 1 + 1, 0, none⟩ (.bool true) (by rw [v2]; rfl)) (grownBy_putObj' _ D (.deferred none)) (fun r e => by cases e; exact ⟨_, hK', rfl⟩)
          have h1 : OutB b vl w W := HF7.out.trans (LinkB.refl _ _) HOUT.out
          have h2 := h1.grown (n := w.heap.size) ((Below.refl _ W).setCell (p := ⟨w.heap.size + 1 + 1, 0, none⟩) (by dsimp only; omega) (.bool true)) (Nat.le_refl _)
          have h3 := h2.grown (belowK_b (w := w) (Nat.le_refl _) _ D _ (.deferred none) hD' hK' rfl rfl) (Nat.le_refl _)
          refine ⟨.bool true, ?_, h3, ?_⟩
          · simp [results, Tryz.f51, go_sem, hc5]
          · rw [HV.out, HX.out]
            exact ⟨rfl, vl', (HMW.out.other (by omega) _).turn (grownBy_putObj' _ D _) (fun r e => by cases e; exact ⟨_, hK', rfl⟩), (HOW.out.kept_box B2.out _).turn (grownBy_putObj' _ D _) (fun r e => by cases e; exact ⟨_, hK', rfl⟩), HLINK.out.mono (by have := HS7.out; have := HLT6.out; omega)⟩
        case stop =>
          rintro D c done W hD ⟨k, hk, rfl⟩ ⟨rfl, htr, hcr, hout⟩ hK
          have HX := Lib.hid (triesM_none (htr k hk rfl) p.length hk)
          have hD' : w.heap.size ≤ D := by rw [HS7.out] at hD; have := HLT6.out; omega
          gi_wp2
          refine ⟨by simp, .inl ⟨_, _, rfl, run_takeDeferred hK, ?_⟩⟩
          have hc5 := cell_kept hcr (grownBy_putObj' _ D (.deferred none)) (fun r e => by cases e; exact ⟨_, hK, rfl⟩)
          refine ⟨.bool false, ?_, hout.grown (belowK_b (w := w) (Nat.le_refl _) W D _ (.deferred none) hD' hK rfl rfl) (Nat.le_refl _), by rw [HV.out, HX.out]; rfl⟩
          simp [results, Tryz.f51, go_sem, hc5]
end Go.Proofs.YtehbnckdllbmgaaGreatDoor
