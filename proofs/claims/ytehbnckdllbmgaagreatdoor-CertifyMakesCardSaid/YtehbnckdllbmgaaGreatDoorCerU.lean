/- Contract: extend of certify's reference. -/
import Derived.Test.YtehbnckdllbmgaaGreatDoorCerT
import Derived.Test.YtehbnckdllbmgaaGreatDoorObj
import Derived.Test.YtehbnckdllbmgaaGreatDoorCerI
import Derived.Test.YtehbnckdllbmgaaGreatDoorCerOp
set_option linter.unusedSimpArgs false
set_option linter.unusedVariables false
namespace Go.Proofs.YtehbnckdllbmgaaGreatDoor
open Go.RowKit Go.Shelf

/-- an entry of a list of integers stays, where a list of cuts changes -/
theorem OwnI.frv {B : Nat} {vl u : Value} {w x : World} {l : List Cut} {r : List Int} {B' : Nat} (h : FrV w.heap.size vl w x) (hl : OwnC w B' vl l) (hu : OwnI w B u r) : OwnI x B u r := by
  obtain ⟨ps, _, h2, _⟩ := hl
  exact World.ownsRow.kept hu h.grownBy (owns_ne hu h2 (by decide))
theorem OwnI_empty' {w : World} {B b : Nat} (hb : b = w.heap.size) (h : B ≤ w.heap.size) : OwnI (w.alloc (.cells #[] 3)) B (.slice (some ⟨b, 0, none⟩) 0 0) [] := by subst hb; exact OwnI_empty _ _ h
theorem OwnC.neObj {w : World} {b B : Nat} {xs : Array Value} {e : TypeId} {v : Value} {l : List Cut} (h : ObjAt w b xs e) (ho : OwnC w B v l) (he : 54 ≠ e) : v.ownBlock ≠ some b := by
  obtain ⟨ps, _, h2, _⟩ := ho; exact h.ne h2 he
theorem OwnC.objSet {w : World} {b B : Nat} {xs : Array Value} {e : TypeId} {v : Value} {l : List Cut} (h : ObjAt w b xs e) (ho : OwnC w B v l) (he : 54 ≠ e) (hi : 3 ≠ e) (k : Nat) (x : Value) : OwnC (w.setCell ⟨b, k, none⟩ x) B v l := by
  obtain ⟨ps, h1, h2, h3⟩ := ho
  exact ⟨ps, h1, h.rowSet h2 he k x, fun p hp => h.rowSet (h3 p hp) hi k x⟩
/-- what extend answers -/
def ExtP (w : World) (B : Nat) (vl : Value) (r : Option MS) (e : Ending) (w' : World) : Prop :=
  FrV w.heap.size vl w w' ∧ ∃ vl' l' n' ov', e = .returned (.agg #[vl', .int .i64 n', .bool ov']) ∧ LnkV vl vl' w.heap.size ∧ OwnC w' B vl' l' ∧ l'.length ≤ 20001 ∧ (ov' = false → l'.length ≤ 20000) ∧ -9223372036854775808 ≤ n' ∧ n' ≤ 100000 ∧
    match r with | none => ov' = true | some st => ov' = false ∧ l' = st.cuts ∧ n'.toNat = st.left
def extS (p : List (List Int)) (span : Int) (f : Nat) (ov : Bool) (st : MS) (pre : List Int) : Option MS := if ov = true then none else und p span f st pre
def ExtC (w0 : World) (p : List (List Int)) (pv : Value) (span : Int) (B f : Nat) : Prop := ∀ (vl : Value) (l : List Cut) (n : Int) (ov : Bool) (pre : List Int) (u : Value) (w : World), pre.length + f = p.length → rightB p.length pre = true → l.length ≤ 20001 → (ov = false → l.length ≤ 20000) →
  -9223372036854775808 ≤ n → n ≤ 100000 → Below w0.heap.size w0 w → B ≤ w.heap.size → OwnC w B vl l → OwnI w 0 u pre →
  Calls Tryz.prog 53 #[pv, .int .i64 span, u, .agg #[vl, .int .i64 n, .bool ov]] w (ExtP w B vl (extS p span f ov ⟨n.toNat, l⟩ pre))

/-- the answer in its cells -/
structure Ret38 (x X : World) (b : Nat) (v0 : Value) (n : Int) (o : Bool) : Prop where
  c0 : X.cell? ⟨b, 0, none⟩ = some v0
  c1 : X.cell? ⟨b, 1, none⟩ = some (.int .i64 n)
  c2 : X.cell? ⟨b, 2, none⟩ = some (.bool o)
  own : ∀ B v l, OwnC x B v l → OwnC X B v l
  fr : ∀ m vl w, FrV m vl w x → m ≤ b → FrV m vl w X
theorem ret38 {x : World} {b : Nat} {y0 y1 y2 : Value} (h : ObjAt x b #[y0, y1, y2] 75) (v0 : Value) (n : Int) (o : Bool) : Ret38 x (((x.setCell ⟨b, 0, none⟩ v0).setCell ⟨b, 1, none⟩ (.int .i64 n)).setCell ⟨b, 2, none⟩ (.bool o)) b v0 n o := by
  have h1 := h.set 0 v0
  have h2 := h1.set 1 (.int .i64 n)
  have h3 := h2.set 2 (.bool o)
  exact ⟨by simpa using h3.cell 0, by simpa using h3.cell 1, by simpa using h3.cell 2, fun B v l ho => OwnC.objSet h2 (OwnC.objSet h1 (OwnC.objSet h ho (by decide) (by decide) _ _) (by decide) (by decide) _ _) (by decide) (by decide) _ _,
    fun m vl w hf hm => ((hf.set hm _ _).set hm _ _).set hm _ _⟩
theorem extP_push {w X : World} {B : Nat} {vl vl' : Value} {l : List Cut} {c : Cut} {n : Int} {nn : Nat} (hn : nn = (l ++ [c]).length) (hl : l.length ≤ 20000) (hf : FrV w.heap.size vl w X) (hk : LnkV vl vl' w.heap.size) (ho : OwnC X B vl' (l ++ [c])) (h1 : -9223372036854775808 ≤ n) (h2 : n ≤ 100000) :
    ExtP w B vl (pushM ⟨n.toNat, l⟩ c) (.returned (.agg #[vl', .int .i64 n, .bool (decide ((20000 : Int) < nn))])) X := by
  have hnl : nn = l.length + 1 := by rw [hn]; simp
  refine ⟨hf, vl', l ++ [c], n, _, rfl, hk, ho, by rw [← hn]; omega, fun h => by rw [decide_eq_false_iff_not] at h; rw [← hn]; omega, h1, h2, ?_⟩
  unfold pushM
  by_cases hc : l.length + 1 ≤ 20000
  · rw [if_pos hc]; exact ⟨by rw [decide_eq_false_iff_not]; omega, rfl, rfl⟩
  · rw [if_neg hc]; show _ = _; rw [decide_eq_true_eq]; omega

section
variable {o : Oper} {a : Act} {w : World} {K : Act → World → Prop} {Q : Exit → Act → World → Prop}
theorem ld_search (x : Operand) (ho : o.op = .load 75 x) (b : Nat) (p : Option Addr) (m c : Nat) (n : Int) (ov : Bool) (hx : a.eval x = .pointer (some ⟨b, 0, none⟩)) (h : ObjAt w b #[.slice p m c, .int .i64 n, .bool ov] 75)
    (hK : K (a.put o.dst (.agg #[.slice p m c, .int .i64 n, .bool ov])) w) : o.wp Tryz.prog a w K Q := by
  have k0 := h.cell 0; have k1 := h.cell 1; have k2 := h.cell 2
  simp at k0 k1 k2
  unfold Oper.wp execOp
  simp only [ho]
  generalize a.eval = ev at *
  go_simp
  exact hK
theorem st_search (x y : Operand) (ho : o.op = .store 75 x y) (hd : o.dst = none) (b : Nat) (y0 y1 y2 : Value) (p : Option Addr) (m c : Nat) (n : Int) (ov : Bool) (hx : a.eval x = .pointer (some ⟨b, 0, none⟩)) (hy : a.eval y = .agg #[.slice p m c, .int .i64 n, .bool ov]) (h : ObjAt w b #[y0, y1, y2] 75)
    (hK : K a (((w.setCell ⟨b, 0, none⟩ (.slice p m c)).setCell ⟨b, 1, none⟩ (.int .i64 n)).setCell ⟨b, 2, none⟩ (.bool ov))) : o.wp Tryz.prog a w K Q := by
  have k0 := h.cell 0; have k1 := h.cell 1; have k2 := h.cell 2
  have f0 := h.frozen 0; have f1 := h.frozen 1; have f2 := h.frozen 2
  simp at k0 k1 k2
  unfold Oper.wp execOp
  simp only [ho]
  generalize a.eval = ev at *
  go_simp
  exact hK
theorem vl_call4 (f : FuncId) (t1 t2 t3 t4 : TypeId) (x1 x2 x3 x4 : Operand) (ho : o.op = .call { callee := .value (.func f), args := #[x1, x2, x3, x4], argTypes := #[t1, t2, t3, t4] })
    (en : ∀ args w, (callFunc f args).run Tryz.prog w = .ok (.enter f args) w) (u1 u2 u3 u4 : Value) (h1 : a.eval x1 = u1) (h2 : a.eval x2 = u2) (h3 : a.eval x3 = u3) (h4 : a.eval x4 = u4) (h : Calls Tryz.prog f #[u1, u2, u3, u4] w fun e w' => ∃ v, e = .returned v ∧ K (a.put o.dst v) w') : o.wp Tryz.prog a w K Q := by
  have hf : a.eval (.func f) = .func (.func f) #[] #[] := rfl
  unfold Oper.wp execOp
  simp only [ho]
  generalize a.eval = ev at *
  go_simp
  refine h.mono ?_
  rintro e w' ⟨v, rfl, hk⟩
  exact hk
end
theorem enter_extend : ∀ args w, (callFunc 53 args).run Tryz.prog w = .ok (.enter 53 args) w := enters_of Tryz.func53 (by kernel_rfl) rfl
def ex22d (i : Nat) : Nat := i + 74
def ex22P (pv u : Value) (span : Int) (pre : List Int) (k : Nat) (X : Nat) (sv : Value) (Z : Value → World → Prop) : Nat → Value → World → Prop
  | 0, v, _ => v = pv
  | 1, v, _ => v = .int .i64 span
  | 2, v, w => OwnI w X v [] ∧ ∃ g, v = .slice (some ⟨g, 0, none⟩) 0 0 ∧ g < w.heap.size ∧ w.heap[g]? = some (.cells #[] 3)
  | 3, v, _ => v = u
  | 4, v, w => OwnI w X v pre
  | 5, v, _ => v = .int .i64 k
  | 6, v, w => ∃ g, v = .slice (some ⟨g, 0, none⟩) 1 1 ∧ g < w.heap.size ∧ w.heap[g]? = some (.cells #[.int .i64 k] 3)
  | 7, v, w => OwnI w X v (pre ++ [(k : Int)])
  | 8, v, _ => v = sv
  | 9, v, w => Z v w
  | _, _, _ => True
def ex22C (i j : Nat) : Bool := (i == 4 && j == 2) || (i == 7 && (j == 2 || j == 4 || j == 6)) || (i == 9 && (j == 2 || j == 4 || j == 6 || j == 7))
def ex22D (j i : Nat) : Bool := (j == 4 && (i == 2 || i == 3)) || (j == 6 && i == 5) || (j == 7 && decide (2 ≤ i) && decide (i < 7)) || (j == 9 && decide (i < 9)) || (j == 10 && decide (i < 10))
theorem ex22_mono {pv u : Value} {span : Int} {pre : List Int} {k X : Nat} {sv : Value} {Z : Value → World → Prop} {w w' : World} (hb : Below w.heap.size w w') : ∀ i v, i ≠ 9 → ex22P pv u span pre k X sv Z i v w → ex22P pv u span pre k X sv Z i v w'
  | 0, _, _, h => h | 1, _, _, h => h
  | 2, _, _, ⟨h, g, e, h1, h2⟩ => ⟨OwnI.below h hb, g, e, Nat.lt_of_lt_of_le h1 hb.size, (hb.block g h1).trans h2⟩
  | 3, _, _, h => h | 4, _, _, h => OwnI.below h hb | 5, _, _, h => h
  | 6, _, _, ⟨g, e, h1, h2⟩ => ⟨g, e, Nat.lt_of_lt_of_le h1 hb.size, (hb.block g h1).trans h2⟩
  | 7, _, _, h => OwnI.below h hb | 8, _, _, h => h | 9, _, h, _ => absurd rfl h | _ + 10, _, _, _ => trivial
theorem ex22_app4 {pv u : Value} {span : Int} {pre : List Int} {k X : Nat} {sv : Value} {Z : Value → World → Prop} {w w' : World} {g4 : Nat} (hg : w.grownBy w' (some g4)) (h4 : w.heap[g4]? = some (.cells #[] 3)) : ∀ i v, i ≠ 4 → ex22C 4 i = false → ex22D i 4 = false → ex22P pv u span pre k X sv Z i v w → ex22P pv u span pre k X sv Z i v w'
  | 0, _, _, _, _, h => h | 1, _, _, _, _, h => h | 2, _, _, hc, _, _ => (by cases hc) | 3, _, _, _, _, h => h | 4, _, h, _, _, _ => absurd rfl h | 5, _, _, _, _, h => h
  | 6, _, _, _, _, ⟨g, e, h1, h2⟩ => ⟨g, e, Nat.lt_of_lt_of_le h1 hg.size, (hg.block g h1 (fun e5 => by
      have e5 : g = g4 := Option.some.inj e5
      subst e5
      rw [h4] at h2
      cases h2)).trans h2⟩
  | 7, _, _, _, hd, _ => (by cases hd) | 8, _, _, _, _, h => h | 9, _, _, _, hd, _ => (by cases hd) | _ + 10, _, _, _, _, _ => trivial
theorem ex22_app7 {pv u : Value} {span : Int} {pre : List Int} {k X : Nat} {sv : Value} {Z : Value → World → Prop} {w w' : World} : ∀ i v, i ≠ 7 → ex22C 7 i = false → ex22D i 7 = false → ex22P pv u span pre k X sv Z i v w → ex22P pv u span pre k X sv Z i v w'
  | 0, _, _, _, _, h => h | 1, _, _, _, _, h => h | 2, _, _, hc, _, _ => (by cases hc) | 3, _, _, _, _, h => h | 4, _, _, hc, _, _ => (by cases hc) | 5, _, _, _, _, h => h | 6, _, _, hc, _, _ => (by cases hc)
  | 7, _, h, _, _, _ => absurd rfl h | 8, _, _, _, _, h => h | 9, _, _, _, hd, _ => (by cases hd) | _ + 10, _, _, _, _, _ => trivial
theorem ex22_app9 {pv u : Value} {span : Int} {pre : List Int} {k X : Nat} {sv : Value} {Z : Value → World → Prop} {w w' : World} : ∀ i v, i ≠ 9 → ex22C 9 i = false → ex22P pv u span pre k X sv Z i v w → ex22P pv u span pre k X sv Z i v w'
  | 0, _, _, _, h => h | 1, _, _, _, h => h | 2, _, _, hc, _ => (by cases hc) | 3, _, _, _, h => h | 4, _, _, hc, _ => (by cases hc) | 5, _, _, _, h => h | 6, _, _, hc, _ => (by cases hc)
  | 7, _, _, hc, _ => (by cases hc) | 8, _, _, _, h => h | 9, _, h, _, _ => absurd rfl h | _ + 10, _, _, _, _ => trivial

/-- how the rest of extend keeps what it knows: k jobs have been tried -/
structure ExtL (w : World) (B : Nat) (vl u : Value) (pre : List Int) (r : Option MS) (wr : World) (vl1 : Value) (l1 : List Cut) (n1 : Int) (ov1 : Bool) : Prop where
  fr : FrV w.heap.size vl w wr
  x7 : ObjAt wr w.heap.size #[vl1, .int .i64 n1, .bool ov1] 75
  x8 : ObjAt wr (w.heap.size + 1) #[.slice none 0 0, .int .i64 0, .bool false] 75
  lk : LnkV vl vl1 w.heap.size
  own : OwnC wr B vl1 l1
  hl : l1.length ≤ 20001
  hl2 : ov1 = false → l1.length ≤ 20000
  n0 : -9223372036854775808 ≤ n1
  n5 : n1 ≤ 100000
  pre : OwnI wr 0 u pre
  res : match r with | none => ov1 = true | some st => ov1 = false ∧ l1 = st.cuts ∧ n1.toNat = st.left
theorem ExtL.drewN {w : World} {B : Nat} {vl u : Value} {pre : List Int} {r : Option MS} {wr : World} {vl1 : Value} {l1 : List Cut} {n1 : Int} {ov1 : Bool} (h : ExtL w B vl u pre r wr vl1 l1 n1 ov1) (m : Nat) : ExtL w B vl u pre r (wr.drewN m) vl1 l1 n1 ov1 :=
  ⟨h.fr.drewN m, h.x7, h.x8, h.lk, h.own.below (below_drewN' (Below.refl _ _) m), h.hl, h.hl2, h.n0, h.n5, h.pre.below (below_drewN' (Below.refl _ _) m), h.res⟩

set_option maxRecDepth 100000 in
set_option maxHeartbeats 4000000 in
theorem extend_step {w0 : World} {p : List (List Int)} {pv : Value} {B : Nat} (hp : SS w0 pv p) (hE : checkE p = 0) (hB : w0.heap.size ≤ B) (span : Int) (f : Nat) (ih : ∀ f', f = f' + 1 → ExtC w0 p pv span B f') : ExtC w0 p pv span B f := by
  intro vl l n ov pre u w hf hr hl1 hl2 hn1 hn2 hw hBw ho hu
  have HP := Lib.hid hp; have HF := Lib.hid hf; have HR := Lib.hid hr; have HW := Lib.hid hw; have HO := Lib.hid ho; have HU := Lib.hid hu; have IH := Lib.hid ih; have HL2 := Lib.hid hl2
  obtain ⟨pa, pc, rfl, p1, p2⟩ : ∃ a c, pv = .slice a p.length c ∧ p.length ≤ c ∧ c ≤ maxLen := by obtain ⟨vs, ⟨a, c, h1, h2, h3, _⟩, _⟩ := hp; exact ⟨a, c, h1, h2, h3⟩
  obtain ⟨ua, uc, rfl, u1, u2⟩ := (OwnI.si hu).sl
  obtain ⟨va, vc, rfl, v1, v2, _⟩ := ho.sc
  have hum : pre.length ≤ 9223372036854775807 := by unfold maxLen at u2; omega
  have hpm : p.length ≤ 9223372036854775807 := by unfold maxLen at p2; omega
  clear hf hr hw ho hu ih hp hl2
  obtain ⟨W1, hW1⟩ : ∃ W1, W1 = (w.alloc (.cells #[.slice va l.length vc, .int .i64 n, .bool ov] 75)).alloc (.cells #[.slice none 0 0, .int .i64 0, .bool false] 75) := ⟨_, rfl⟩
  have hb1 : Below w.heap.size w W1 := by rw [hW1]; exact ((Below.refl _ _).alloc (Nat.le_refl _) _).alloc (by simp) _
  have x7 : ObjAt W1 w.heap.size #[.slice va l.length vc, .int .i64 n, .bool ov] 75 := by rw [hW1]; exact (ObjAt.new _ _ _).alloc _
  have x8 : ObjAt W1 (w.heap.size + 1) #[.slice none 0 0, .int .i64 0, .bool false] 75 := by rw [hW1]; have := ObjAt.new (w.alloc (.cells #[.slice va l.length vc, .int .i64 n, .bool ov] 75)) #[.slice none 0 0, .int .i64 0, .bool false] 75; rwa [World.size_alloc] at this
  have HB1 := Lib.hid hb1; have X7 := Lib.hid x7; have X8 := Lib.hid x8
  have a0 := x7.cell 0; have a1 := x7.cell 1; have a2 := x7.cell 2
  have b0 := x8.cell 0; have b1 := x8.cell 1; have b2 := x8.cell 2
  have g0 := x8.frozen 0; have g1 := x8.frozen 1; have g2 := x8.frozen 2
  simp at a0 a1 a2 b0 b1 b2
  have HS1 := Lib.hid (show W1.heap.size = w.heap.size + 2 by rw [hW1]; simp)
  clear hb1 x7 x8
  cases ov with
  | true =>
    go_enter Tryz.func53, Tryz.ntmps53
    go_wp2_with fail
    refine bodyPost_ret (v := .agg #[.slice va l.length vc, .int .i64 n, .bool true]) (by simp [results, Tryz.results53, go_sem]) rfl ?_
    have hb2 : Below w.heap.size w ((w.alloc (.cells #[.slice va l.length vc, .int .i64 n, .bool true] 75)).alloc (.cells #[.slice va l.length vc, .int .i64 n, .bool true] 75)) := ((Below.refl _ _).alloc (Nat.le_refl _) _).alloc (by simp) _
    exact ⟨FrV.of_below hb2, _, l, n, true, rfl, LnkV.refl _ _, HO.out.below hb2, hl1, (fun h => by cases h), hn1, hn2, rfl⟩
  | false =>
    have hll := HL2.out rfl
    have hu32 := rightB_len HR.out
    have hp32 := (checkE_zero hE).len
    go_enter Tryz.func53, Tryz.ntmps53
    go_wp2_with (at_builtin; refine wpList_app_int rfl (.tmp 16) (.tmp 17) rfl w.heap.size _ _ [] pre rfl rfl (OwnI_empty' (by simp) (by simp; omega)) (((HU.out.si.alloc _).alloc _).alloc _) (by simp; omega) (by simp; omega) ?_)
    intro v1 x1 ho1 hg1 _
    rw [← hW1] at hg1
    have hx1 : Below W1.heap.size W1 x1 := ((Below.refl _ _).alloc (Nat.le_refl _) _).grown hg1 (by simp) (fun k hk => by have := HS1.out; simp [Value.ownBlock] at hk; omega)
    have x7 := X7.out.keep hx1; have x8 := X8.out.keep hx1
    have HX1 := Lib.hid hx1; have HO1 := Lib.hid ho1; have X71 := Lib.hid x7; have X81 := Lib.hid x8
    obtain ⟨oa, oc, rfl, _, _⟩ := (OwnI.si ho1).sl
    have a0 := x7.cell 0; have a1 := x7.cell 1; have a2 := x7.cell 2
    have b0 := x8.cell 0; have b1 := x8.cell 1; have b2 := x8.cell 2
    have f0 := x7.frozen 0; have f1 := x7.frozen 1; have f2 := x7.frozen 2
    have g0 := x8.frozen 0; have g1 := x8.frozen 1; have g2 := x8.frozen 2
    simp at a0 a1 a2 b0 b1 b2
    clear hx1 x7 x8 ho1 hg1 hW1 hu32
    obtain ⟨W2, hW2⟩ : ∃ W2, W2 = x1.alloc (.cells #[.slice oa pre.length oc, .int .i64 0] 54) := ⟨_, rfl⟩
    have hb2 : Below x1.heap.size x1 W2 := by rw [hW2]; exact (Below.refl _ _).alloc (Nat.le_refl _) _
    have x9 : ObjAt W2 x1.heap.size #[.slice oa pre.length oc, .int .i64 0] 54 := by rw [hW2]; exact ObjAt.new _ _ _
    have HB2 := Lib.hid hb2; have X9 := Lib.hid x9
    obtain ⟨c9, hc9⟩ : ∃ c9, c9 = x1.heap.size := ⟨_, rfl⟩
    have HC9 := Lib.hid hc9
    rw [← hc9] at X9
    clear hb2 x9 a0 a1 a2 b0 b1 b2 f0 f1 f2 g0 g1 g2
    obtain ⟨sh, hsh⟩ : ∃ sh, sh = ((pre.length : Int) == (p.length : Int)) := ⟨_, rfl⟩
    have HSH : Hid (if sh = true then und p span f ⟨n.toNat, l⟩ pre = pushM ⟨n.toNat, l⟩ (pre, 0) else pre.length < p.length) := by
      show if _ then _ else _
      have hu32 := rightB_len HR.out
      by_cases hq : pre.length = p.length
      · rw [if_pos (by rw [hsh, beq_iff_eq]; omega)]
        obtain rfl : f = 0 := by have := HF.out; omega
        exact und_zero _ _ _ _
      · rw [if_neg (by rw [hsh, beq_iff_eq]; omega)]
        omega
    go_wp2_with fail
    rw [← hW2, ← hc9, ← hsh]
    have HBB : Hid (Below w.heap.size w W2) := (HB1.out.trans (HX1.out.mono HB1.out.size)).trans (HB2.out.mono (by have := HB1.out.size; have := HX1.out.size; omega))
    have hcw : w.heap.size + 2 ≤ c9 := by have := HS1.out; have := HX1.out.size; omega
    have HX72 := Lib.hid (X71.out.keep HB2.out); have HX82 := Lib.hid (X81.out.keep HB2.out)
    have HO2 := Lib.hid (HO1.out.below HB2.out)
    have hc2 : c9 < W2.heap.size := X9.out.lt
    clear hsh hW2 hc9
    have HSM : Hid (stV p ≤ 9223372036854775807) := by
      show _ ≤ _
      unfold stV
      split
      · decide
      · have := HP.out.len
        obtain ⟨vs, _, h4⟩ := HP.out
        have := (h4 0 (by omega)).len
        unfold maxLen at this
        omega
    have HS0 : Hid (0 ≤ stV p) := by
      show _ ≤ _
      unfold stV; split <;> omega
    obtain ⟨S, hS⟩ : ∃ S, S = stV p := ⟨_, rfl⟩
    have hs1 := HSM.out; have hs0 := HS0.out
    rw [← hS] at hs1 hs0
    have HST := Lib.hid hS
    clear hS
    go_loopw [10, 11] (fun sv i wr => ∃ (k : Nat) (sb : Bool) (st : Int), (k : Int) ≤ S ∧ i = .int .i64 k ∧ sv = .bool sb ∧ Hid (Below c9 W2 wr) ∧ Hid (ObjAt wr c9 #[.slice oa pre.length oc, .int .i64 st] 54) ∧
      Hid (if sb = true then und p span f ⟨n.toNat, l⟩ pre = pushM ⟨n.toNat, l⟩ (pre, st) else pre.length < p.length ∧ ∀ j, j < k → decide (span ≤ boundV p pre j) = false)) (fun _ i _ => S.toNat - (intOf i).toNat)
    case atStart => exact ⟨0, sh, 0, hs0, rfl, rfl, Below.refl _ _, X9.out, by
      show if _ then _ else _
      have := HSH.out
      split
      · rename_i h; rw [if_pos h] at this; exact this
      · rename_i h; rw [if_neg h] at this; exact ⟨this, fun j hj => by omega⟩⟩
    case round =>
      obtain ⟨k, sb, st, hk, rfl, rfl, hbw, x9, hq⟩ := hrel
      have HBW : Hid (Below w.heap.size w wr) := HBB.out.trans (hbw.out.mono (by omega))
      have hBW0 : Hid (Below w0.heap.size w0 wr) := HW.out.trans (HBW.out.mono HW.out.size)
      have hPw := Lib.hid (HP.out.keep hBW0.out)
      go_wp2_with fail
      refine (stations38_any _ p wr hPw.out).mono ?_
      rintro e w3 ⟨rfl, m3, rfl⟩
      rw [← HST.out]
      cases sb with
      | true =>
        have HQ := Lib.hid (show und p span f ⟨n.toNat, l⟩ pre = pushM ⟨n.toNat, l⟩ (pre, st) from hq.out)
        by_cases hks : (k : Int) < S
        · have hd : decide ((k : Int) < S) = true := decide_eq_true hks
          have x7 := HX72.out.below hbw.out (by omega)
          have x8 := HX82.out.below hbw.out (by omega)
          have X7r := Lib.hid x7; have X8r := Lib.hid x8
          have a0 := x7.cell 0; have a1 := x7.cell 1; have a2 := x7.cell 2
          have f0 := x7.frozen 0; have f1 := x7.frozen 1; have f2 := x7.frozen 2
          have b0 := x8.cell 0; have b1 := x8.cell 1; have b2 := x8.cell 2
          have g0 := x8.frozen 0; have g1 := x8.frozen 1; have g2 := x8.frozen 2
          have k0 := x9.out.cell 0; have k1 := x9.out.cell 1
          simp at a0 a1 a2 b0 b1 b2 k0 k1
          have HOr := Lib.hid (HO.out.below HBW.out)
          have HU9 : Hid (OwnI wr B (.slice oa pre.length oc) pre) := OwnI.mono (HO1.out.below (HB2.out.trans (hbw.out.mono (Nat.le_of_eq HC9.out.symm)))) hBw
          have hws := HBW.out.size
          clear x7 x8
          go_wp2_with (at_builtin; refine wpList_app_cut rfl (.tmp 44) (.tmp 46) rfl B _ l rfl ((HOr.out.below (below_drewN' (Below.refl _ _) m3)).alloc _) _ 1 (.slice oa pre.length oc) (pre, st) rfl (cell_new rfl rfl) (cell_new rfl rfl) ((HU9.out.below (below_drewN' (Below.refl _ _) m3)).alloc _) (by omega) (by simp; omega) ?_)
          intro v2 x2 ho2 hg2 hl2
          have hv7 : (Value.slice va l.length vc).ownBlock ≠ some w.heap.size := OwnC.neObj X7r.out HOr.out (by decide)
          have hv8 : (Value.slice va l.length vc).ownBlock ≠ some (w.heap.size + 1) := OwnC.neObj X8r.out HOr.out (by decide)
          have x72 : ObjAt x2 w.heap.size _ 75 := ((X7r.out.drewN m3).alloc _).grown hg2 hv7
          have x82 : ObjAt x2 (w.heap.size + 1) _ 75 := ((X8r.out.drewN m3).alloc _).grown hg2 hv8
          have HF2 : Hid (FrV w.heap.size (.slice va l.length vc) w x2) := ((FrV.of_below HBW.out).drewN m3 |>.alloc (by exact hws) _).grown (LnkV.refl _ _) (by simp; omega) hg2
          have HL2' : Hid (LnkV (.slice va l.length vc) v2 w.heap.size) := hl2.elim .inl fun h => .inr ⟨_, h, by omega⟩
          obtain ⟨na, nc, rfl, n1, n2, _⟩ := ho2.sc
          have HO2' := Lib.hid ho2; have X72 := Lib.hid x72; have X82 := Lib.hid x82
          obtain ⟨nn, hnn⟩ : ∃ nn, nn = (l ++ [(pre, st)]).length := ⟨_, rfl⟩
          have HNN := Lib.hid hnn
          have hnl : nn = l.length + 1 := by rw [hnn]; simp
          rw [← hnn] at HL2' HO2' ⊢
          clear hnn ho2 hg2 hl2 hv7 hv8 n1 n2 a0 a1 a2 b0 b1 b2 f0 f1 f2 g0 g1 g2 k0 k1
          have a0 := x72.cell 0; have a1 := x72.cell 1; have a2 := x72.cell 2
          have f0 := x72.frozen 0; have f1 := x72.frozen 1; have f2 := x72.frozen 2
          have b0 := x82.cell 0; have b1 := x82.cell 1; have b2 := x82.cell 2
          have g0 := x82.frozen 0; have g1 := x82.frozen 1; have g2 := x82.frozen 2
          simp at a0 a1 a2 b0 b1 b2
          clear x72 x82 hnl
          go_wp2_with fail
          have hr := ret38 (((X82.out.other (b' := w.heap.size) (by omega) 0 (.slice na nn nc)).other (b' := w.heap.size) (by omega) 2 (.bool (decide ((20000 : Int) < nn))))) (.slice na nn nc) n (decide ((20000 : Int) < nn))
          refine bodyPost_ret (v := .agg #[.slice na nn nc, .int .i64 n, .bool (decide ((20000 : Int) < nn))]) (by simp [results, Tryz.results53, go_sem, hr.c0, hr.c1, hr.c2]) rfl ?_
          rw [show extS p span f false ⟨n.toNat, l⟩ pre = pushM ⟨n.toNat, l⟩ (pre, st) from HQ.out]
          exact extP_push HNN.out hll (hr.fr _ _ _ ((HF2.out.set (Nat.le_refl _) _ _).set (Nat.le_refl _) _ _) (by omega)) HL2'.out (hr.own _ _ _ (OwnC.objSet (X72.out.set 0 _) (OwnC.objSet X72.out HO2'.out (by decide) (by decide) _ _) (by decide) (by decide) _ _)) hn1 hn2
        · have hd : decide ((k : Int) < S) = false := decide_eq_false hks
          have x7 := HX72.out.below hbw.out (by omega)
          have x8 := HX82.out.below hbw.out (by omega)
          have X7r := Lib.hid x7; have X8r := Lib.hid x8
          have a0 := x7.cell 0; have a1 := x7.cell 1; have a2 := x7.cell 2
          have f0 := x7.frozen 0; have f1 := x7.frozen 1; have f2 := x7.frozen 2
          have b0 := x8.cell 0; have b1 := x8.cell 1; have b2 := x8.cell 2
          have g0 := x8.frozen 0; have g1 := x8.frozen 1; have g2 := x8.frozen 2
          have k0 := x9.out.cell 0; have k1 := x9.out.cell 1
          simp at a0 a1 a2 b0 b1 b2 k0 k1
          have HOr := Lib.hid (HO.out.below HBW.out)
          have HU9 : Hid (OwnI wr B (.slice oa pre.length oc) pre) := OwnI.mono (HO1.out.below (HB2.out.trans (hbw.out.mono (Nat.le_of_eq HC9.out.symm)))) hBw
          have hws := HBW.out.size
          clear x7 x8
          go_wp2_with (at_builtin; refine wpList_app_cut rfl (.tmp 44) (.tmp 46) rfl B _ l rfl ((HOr.out.below (below_drewN' (Below.refl _ _) m3)).alloc _) _ 1 (.slice oa pre.length oc) (pre, st) rfl (cell_new rfl rfl) (cell_new rfl rfl) ((HU9.out.below (below_drewN' (Below.refl _ _) m3)).alloc _) (by omega) (by simp; omega) ?_)
          intro v2 x2 ho2 hg2 hl2
          have hv7 : (Value.slice va l.length vc).ownBlock ≠ some w.heap.size := OwnC.neObj X7r.out HOr.out (by decide)
          have hv8 : (Value.slice va l.length vc).ownBlock ≠ some (w.heap.size + 1) := OwnC.neObj X8r.out HOr.out (by decide)
          have x72 : ObjAt x2 w.heap.size _ 75 := ((X7r.out.drewN m3).alloc _).grown hg2 hv7
          have x82 : ObjAt x2 (w.heap.size + 1) _ 75 := ((X8r.out.drewN m3).alloc _).grown hg2 hv8
          have HF2 : Hid (FrV w.heap.size (.slice va l.length vc) w x2) := ((FrV.of_below HBW.out).drewN m3 |>.alloc (by exact hws) _).grown (LnkV.refl _ _) (by simp; omega) hg2
          have HL2' : Hid (LnkV (.slice va l.length vc) v2 w.heap.size) := hl2.elim .inl fun h => .inr ⟨_, h, by omega⟩
          obtain ⟨na, nc, rfl, n1, n2, _⟩ := ho2.sc
          have HO2' := Lib.hid ho2; have X72 := Lib.hid x72; have X82 := Lib.hid x82
          obtain ⟨nn, hnn⟩ : ∃ nn, nn = (l ++ [(pre, st)]).length := ⟨_, rfl⟩
          have HNN := Lib.hid hnn
          have hnl : nn = l.length + 1 := by rw [hnn]; simp
          rw [← hnn] at HL2' HO2' ⊢
          clear hnn ho2 hg2 hl2 hv7 hv8 n1 n2 a0 a1 a2 b0 b1 b2 f0 f1 f2 g0 g1 g2 k0 k1
          have a0 := x72.cell 0; have a1 := x72.cell 1; have a2 := x72.cell 2
          have f0 := x72.frozen 0; have f1 := x72.frozen 1; have f2 := x72.frozen 2
          have b0 := x82.cell 0; have b1 := x82.cell 1; have b2 := x82.cell 2
          have g0 := x82.frozen 0; have g1 := x82.frozen 1; have g2 := x82.frozen 2
          simp at a0 a1 a2 b0 b1 b2
          clear x72 x82 hnl
          go_wp2_with fail
          have hr := ret38 (((X82.out.other (b' := w.heap.size) (by omega) 0 (.slice na nn nc)).other (b' := w.heap.size) (by omega) 2 (.bool (decide ((20000 : Int) < nn))))) (.slice na nn nc) n (decide ((20000 : Int) < nn))
          refine bodyPost_ret (v := .agg #[.slice na nn nc, .int .i64 n, .bool (decide ((20000 : Int) < nn))]) (by simp [results, Tryz.results53, go_sem, hr.c0, hr.c1, hr.c2]) rfl ?_
          rw [show extS p span f false ⟨n.toNat, l⟩ pre = pushM ⟨n.toNat, l⟩ (pre, st) from HQ.out]
          exact extP_push HNN.out hll (hr.fr _ _ _ ((HF2.out.set (Nat.le_refl _) _ _).set (Nat.le_refl _) _ _) (by omega)) HL2'.out (hr.own _ _ _ (OwnC.objSet (X72.out.set 0 _) (OwnC.objSet X72.out HO2'.out (by decide) (by decide) _ _) (by decide) (by decide) _ _)) hn1 hn2
      | false =>
        have HQ := Lib.hid (show pre.length < p.length ∧ ∀ j, j < k → decide (span ≤ boundV p pre j) = false from hq.out)
        by_cases hks : (k : Int) < S
        · have hd : decide ((k : Int) < S) = true := decide_eq_true hks
          have k0 := x9.out.cell 0; have k1 := x9.out.cell 1; have fz1 := x9.out.frozen 1
          simp at k0 k1
          obtain ⟨W5, hW5⟩ : ∃ W5, W5 = (wr.drewN m3).setCell ⟨c9, 1, none⟩ (.int .i64 k) := ⟨_, rfl⟩
          have x95 : ObjAt W5 c9 #[.slice oa pre.length oc, .int .i64 k] 54 := by rw [hW5]; exact (x9.out.drewN m3).set 1 _
          have hb5 : Below c9 wr W5 := by rw [hW5]; exact (below_drewN' (Below.refl c9 wr) m3).setCell (p := ⟨c9, 1, none⟩) (Nat.le_refl _) _
          have HB5 := Lib.hid (hbw.out.trans hb5)
          have HBW5 : Hid (Below w.heap.size w W5) := HBB.out.trans (HB5.out.mono (by omega))
          have HP5 := Lib.hid (HP.out.keep (HW.out.trans (HBW5.out.mono HW.out.size)))
          have HU5 : Hid (SI W5 (.slice oa pre.length oc) pre) := (HO1.out.below (HB2.out.trans (HB5.out.mono (Nat.le_of_eq HC9.out.symm)))).si
          have HBD : Hid (badCut p.length (stV p) (pre, (k : Int)) = false) := by
            have h1 := HR.out; have h2 := HST.out
            show _ = _
            simp only [badCut, h1, ← h2, Bool.not_true, Bool.false_or, Bool.or_eq_false_iff, decide_eq_false_iff_not]
            omega
          have HBV : Hid (boundC p (pre, (k : Int)) = boundV p pre k) := by
            show _ = _
            unfold boundC; rw [if_neg (by have := HQ.out.1; dsimp only; omega)]; rfl
          go_wp2_with fail
          rw [← hW5]
          clear hW5 hb5 k0 k1 fz1
          refine (bound38_any _ _ p (pre, (k : Int)) W5 HP5.out HU5.out hE HBD.out).mono ?_
          rintro e w6 ⟨rfl, hb6⟩
          rw [HBV.out]
          have x96 := x95.keep hb6
          have HB6 := Lib.hid (HB5.out.trans (hb6.mono (by have := x95.lt; omega)))
          have X96 := Lib.hid x96
          have HKS := Lib.hid (show k < (ri p 0).length by
            have h1 := HST.out; unfold stV at h1; rw [if_neg (by have := HQ.out.1; omega)] at h1; omega)
          clear x95 x96 hb6
          by_cases hsp : span ≤ boundV p pre k
          · have hd2 : decide (span ≤ boundV p pre k) = true := decide_eq_true hsp
            have HV : Hid (und p span f ⟨n.toNat, l⟩ pre = pushM ⟨n.toNat, l⟩ (pre, (k : Int))) := by
              obtain ⟨f', rfl⟩ : ∃ f', f = f' + 1 := ⟨f - 1, by have := HF.out; have := HQ.out.1; omega⟩
              exact und_shown (stB_hit HKS.out HQ.out.2 hsp)
            clear hsp
            go_wp2_with fail
            go_roundw
            case rel => exact ⟨k + 1, true, k, by omega, by go_num, rfl, HB6, X96, by show if _ then _ else _; rw [if_pos rfl]; exact HV.out⟩
            case measure => simp [intOf]; omega
          · have hd2 : decide (span ≤ boundV p pre k) = false := decide_eq_false hsp
            have HV : Hid (pre.length < p.length ∧ ∀ j, j < k + 1 → decide (span ≤ boundV p pre j) = false) := ⟨HQ.out.1, upto HQ.out.2 hd2⟩
            clear hsp
            go_wp2_with fail
            go_roundw
            case rel => exact ⟨k + 1, false, k, by omega, by go_num, rfl, HB6, X96, by show if _ then _ else _; rw [if_neg (by decide)]; exact HV.out⟩
            case measure => simp [intOf]; omega
        · have hd : decide ((k : Int) < S) = false := decide_eq_false hks
          obtain ⟨f', hf'⟩ : ∃ f', f = f' + 1 := ⟨f - 1, by have := HF.out; have := HQ.out.1; omega⟩
          subst hf'
          have IHF := Lib.hid (IH.out f' rfl)
          have HSB : Hid (stB p span pre = none) := stB_miss fun j hj => HQ.out.2 j (by
            have h1 := HST.out; unfold stV at h1; rw [if_neg (by have := HQ.out.1; omega)] at h1; omega)
          have x7 := HX72.out.below hbw.out (by omega)
          have x8 := HX82.out.below hbw.out (by omega)
          have X7r := Lib.hid x7; have X8r := Lib.hid x8
          have a0 := x7.cell 0; have a1 := x7.cell 1; have a2 := x7.cell 2
          have f0 := x7.frozen 0; have f1 := x7.frozen 1; have f2 := x7.frozen 2
          have b0 := x8.cell 0; have b1 := x8.cell 1; have b2 := x8.cell 2
          have g0 := x8.frozen 0; have g1 := x8.frozen 1; have g2 := x8.frozen 2
          simp at a0 a1 a2 b0 b1 b2
          have HOr := Lib.hid ((HO.out.below HBW.out).below (below_drewN' (Below.refl _ _) m3))
          have HFr := Lib.hid ((FrV.of_below (vl := .slice va l.length vc) HBW.out).drewN m3)
          have hws := HBW.out.size
          clear x7 x8 IH
          by_cases hn0 : n ≤ 0
          · have hdn : decide (n ≤ 0) = true := decide_eq_true hn0
            have HV : Hid (extS p span (f' + 1) false ⟨n.toNat, l⟩ pre = none) := by
              show und p span (f' + 1) _ pre = none
              exact und_none HSB.out (by show n.toNat = 0; omega)
            go_wp2_with fail
            have hr := ret38 ((X8r.out.drewN m3).other (b' := w.heap.size) (by omega) 2 (.bool true)) (.slice va l.length vc) n true
            refine bodyPost_ret (v := .agg #[.slice va l.length vc, .int .i64 n, .bool true]) (by simp [results, Tryz.results53, go_sem, hr.c0, hr.c1, hr.c2]) rfl ?_
            rw [HV.out]
            exact ⟨hr.fr _ _ _ (HFr.out.set (Nat.le_refl _) _ _) (by omega), _, l, n, true, rfl, LnkV.refl _ _, hr.own _ _ _ (OwnC.objSet (X7r.out.drewN m3) HOr.out (by decide) (by decide) _ _), hl1, (fun h => by cases h), hn1, hn2, rfl⟩
          · have hdn : decide (n ≤ 0) = false := decide_eq_false hn0
            have hn1' : -9223372036854775808 ≤ n - 1 ∧ n - 1 ≤ 9223372036854775807 := by omega
            obtain ⟨W6, hW6⟩ : ∃ W6, W6 = (wr.drewN m3).setCell ⟨w.heap.size, 1, none⟩ (.int .i64 (n - 1)) := ⟨_, rfl⟩
            have HT0 := Lib.hid (show extS p span (f' + 1) false ⟨n.toNat, l⟩ pre = triesM (undJob p span f' pre) p.length (spendM ⟨n.toNat, l⟩) from und_tries HSB.out (by show n.toNat ≠ 0; omega))
            have HL0 : Hid (ExtL w B (.slice va l.length vc) (.slice ua pre.length uc) pre (triesM (undJob p span f' pre) 0 (spendM ⟨n.toNat, l⟩)) W6 (.slice va l.length vc) l (n - 1) false) := by
              have hx7 := X7r.out.drewN m3
              refine ⟨by rw [hW6]; exact HFr.out.set (Nat.le_refl _) _ _, by rw [hW6]; exact hx7.set 1 _, by rw [hW6]; exact (X8r.out.drewN m3).other (by omega) _ _, LnkV.refl _ _, by rw [hW6]; exact OwnC.objSet hx7 HOr.out (by decide) (by decide) _ _, hl1, fun _ => hll, by omega, by omega, ?_, rfl, rfl, ?_⟩
              · rw [hW6]; exact hx7.rowSet ((HU.out.below HBW.out).below (below_drewN' (Below.refl _ _) m3)) (by decide) _ _
              · show (n - 1).toNat = n.toNat - 1
                omega
            go_wp2_with fail
            rw [← hW6]
            clear hW6 a0 a1 a2 b0 b1 b2 f0 f1 f2 g0 g1 g2
            go_loopw [12] (fun i wr => ∃ (k : Nat) (vl1 : Value) (l1 : List Cut) (n1 : Int) (ov1 : Bool), k ≤ p.length ∧ i = .int .i64 k ∧ Hid (ExtL w B (.slice va l.length vc) (.slice ua pre.length uc) pre (triesM (undJob p span f' pre) k (spendM ⟨n.toNat, l⟩)) wr vl1 l1 n1 ov1)) (fun i _ => p.length - (intOf i).toNat)
            case atStart => exact ⟨0, _, _, _, _, Nat.zero_le _, rfl, HL0⟩
            case round =>
              obtain ⟨k, vl1, l1, n1, ov1, hk, rfl, hx⟩ := hrel
              have hbw0 := hx.out.fr.below (B := B) (fun j hj => (HO.out.lt j hj).1) hBw
              have HBW0 := Lib.hid (HW.out.trans (hbw0.mono hB))
              have hws1 := hx.out.fr.size
              clear hbw0
              by_cases hkp : k < p.length
              · have hkp' : (k : Int) < p.length := by omega
                go_wp2_with fail
                refine (has38_any _ (k : Int) pre wr hx.out.pre.si).mono ?_
                rintro e w3 ⟨rfl, m4, rfl⟩
                have HX := Lib.hid (hx.out.drewN m4)
                generalize hy : (pre.any fun y => (k : Int) == y) = y
                have HY := Lib.hid hy; clear hy
                cases y with
                | true =>
                  have HX2 : Hid (ExtL w B (.slice va l.length vc) (.slice ua pre.length uc) pre (triesM (undJob p span f' pre) (k + 1) (spendM ⟨n.toNat, l⟩)) (wr.drewN m4) vl1 l1 n1 ov1) := by
                    have h1 := HX.out
                    cases hr : triesM (undJob p span f' pre) k (spendM ⟨n.toNat, l⟩) with
                    | none => rw [hr] at h1; rw [triesM_none hr (k + 1) (by omega)]; exact h1
                    | some st' => rw [hr] at h1; rw [triesM_succ hr, undJob_has HY.out]; exact h1
                  go_wp2_with fail
                  go_roundw
                  case rel => exact ⟨k + 1, vl1, l1, n1, ov1, by omega, by go_num, HX2⟩
                  case measure => simp [intOf]; omega
                | false =>
                  obtain ⟨W, hW⟩ : ∃ W, W = wr.drewN m4 := ⟨_, rfl⟩
                  rw [← hW] at HX ⊢
                  have hWs : w.heap.size ≤ W.heap.size := by rw [hW]; exact hws1
                  have HWW : Hid (Below w0.heap.size w0 W) := by rw [hW]; exact below_drewN' HBW0.out m4
                  clear hW
                  have hlt7 := HX.out.x7.lt
                  obtain ⟨qa, qc, rfl, _, _, _⟩ := HX.out.own.sc
                  have hu32 := rightB_len HR.out
                  have hp32 := (checkE_zero hE).len
                  go_wp2_with fail
                  refine wp_name fun a0 ha0 => ?_
                  have z0 : a0.eval (.tmp 0) = .slice pa p.length pc := by rw [ha0]; rfl
                  have z1 : a0.eval (.tmp 1) = .int .i64 span := by rw [ha0]; rfl
                  have z2 : a0.eval (.tmp 2) = .slice ua pre.length uc := by rw [ha0]; rfl
                  have z7 : a0.eval (.tmp 7) = .pointer (some ⟨w.heap.size, 0, none⟩) := by rw [ha0]; rfl
                  have z12 : a0.eval (.tmp 12) = .int .i64 (k : Nat) := by rw [ha0]; rfl
                  obtain ⟨r, hr⟩ : ∃ r, r = extS p span f' ov1 ⟨n1.toNat, l1⟩ (pre ++ [(k : Int)]) := ⟨_, rfl⟩
                  obtain ⟨Z, hZ⟩ : ∃ Z : Value → World → Prop, Z = fun v w' => ∃ W7, Below W.heap.size W W7 ∧ ExtP W7 B (.slice qa l1.length qc) r (.returned v) w' := ⟨_, rfl⟩
                  have HZ := Lib.hid hZ
                  have HRR := Lib.hid hr
                  clear hZ hr
                  refine wp_region_iqst 10 ex22d (ex22P (.slice pa p.length pc) (.slice ua pre.length uc) span pre k W.heap.size (.agg #[.slice qa l1.length qc, .int .i64 n1, .bool ov1]) Z) ex22C (fun _ => True) 9 (fun w' => Below W.heap.size W w') ex22D (by kernel_rfl) (fun i j h => by
                      have h' : ¬ j < 11 ∨ ¬ i < 11 := h
                      unfold ex22D; simp; omega) (fun a w' => Sm (slots ex22d 10) a0 a ∧ ∃ v W8 W9, Z v W8 ∧ (∃ p m c n9 ov, v = .agg #[.slice p m c, .int .i64 n9, .bool ov] ∧ W9 = (((W8.setCell ⟨w.heap.size, 0, none⟩ (.slice p m c)).setCell ⟨w.heap.size, 1, none⟩ (.int .i64 n9)).setCell ⟨w.heap.size, 2, none⟩ (.bool ov))) ∧ w' = W9) (by kernel_rfl) mixed (by kernel_rfl) (by rw [show a0.tmps.size = 85 by rw [ha0]; rfl]; kernel_rfl) (by kernel_rfl) (by kernel_rfl) trivial (Below.refl _ _).drew ?_ ?_ ?_
                  · rintro i op a w7 hi hop hdep hsm _ hT K hK
                    have q0 := (hsm.eval (m := 0) (by decide)).trans z0
                    have q1 := (hsm.eval (m := 1) (by decide)).trans z1
                    have q2 := (hsm.eval (m := 2) (by decide)).trans z2
                    have q7 := (hsm.eval (m := 7) (by decide)).trans z7
                    have q12 := (hsm.eval (m := 12) (by decide)).trans z12
                    have hb : Below W.heap.size W w7 := hT (by
                      by_cases e : i = 9
                      · exact .inl e
                      · exact .inr (by unfold ex22D; simp; omega))
                    have hbs := hb.size
                    have dv : ∀ e' ∈ op.after, Region.binds .any e' = true → (∀ j, j ≠ i → ex22D j i = false → ex22C j e'.on = false) → ex22P (.slice pa p.length pc) (.slice ua pre.length uc) span pre k W.heap.size (.agg #[.slice qa l1.length qc, .int .i64 n1, .bool ov1]) Z e'.on (a.eval (.tmp (ex22d e'.on))) w7 := fun e he hbi hc => hdep e he hbi hc
                    have hn : i ≠ 9 → ∀ v, ex22P (.slice pa p.length pc) (.slice ua pre.length uc) span pre k W.heap.size (.agg #[.slice qa l1.length qc, .int .i64 n1, .bool ov1]) Z i v w7 → K (a.put op.dst v) w7 := fun _ v hv => hK v w7 trivial (fun _ h => h) (fun _ _ _ _ _ h => h) hv
                    have hcase : i = 0 ∨ i = 1 ∨ i = 2 ∨ i = 3 ∨ i = 4 ∨ i = 5 ∨ i = 6 ∨ i = 7 ∨ i = 8 ∨ i = 9 := by omega
                    rcases hcase with h | h | h | h | h | h | h | h | h | h <;> subst h <;> have ho' := Option.some.inj hop <;> subst ho'
                    · exact vl_move (.tmp 0) rfl _ q0 (hn (by decide) _ rfl)
                    · exact vl_move (.tmp 1) rfl _ q1 (hn (by decide) _ rfl)
                    · exact wp_slice0I rfl (hK _ _ trivial (fun _ h => h.alloc h.size _) (fun j' u' _ hc hd h => ex22_mono ((Below.refl _ _).alloc (Nat.le_refl _) _) j' u' (fun e => by subst e; cases hd) h) ⟨OwnI_empty _ _ hbs, _, rfl, by simp, World.alloc_heap_new _ _⟩)
                    · exact vl_move (.tmp 2) rfl _ q2 (hn (by decide) _ rfl)
                    · obtain ⟨g5, g, e5, g5l, g5h⟩ := (dv ⟨2, .data⟩ (by simp) rfl (fun j hj hd => by unfold ex22D at hd; unfold ex22C; simp at hd ⊢; try omega))
                      have g3 : SI w7 (a.eval (.tmp 77)) pre := by
                        rw [show a.eval (.tmp 77) = .slice ua pre.length uc from (dv ⟨3, .data⟩ (by simp) rfl (fun j hj hd => by unfold ex22D at hd; unfold ex22C; simp at hd ⊢; try omega))]
                        exact (HX.out.pre.below hb).si
                      refine wp_app_int (.tmp 76) (.tmp 77) rfl W.heap.size _ _ [] pre rfl rfl (show OwnI w7 W.heap.size (a.eval (.tmp 76)) [] from g5) g3 (by simp; omega) hbs fun v' w8 ho hg hat => ?_
                      rw [show a.eval (.tmp 76) = _ from e5] at hg
                      exact hK v' w8 trivial (fun _ h => h.grown hg h.size (fun j hj => (World.ownsRow.lt (show OwnI w7 W.heap.size (.slice (some ⟨g, 0, none⟩) 0 0) [] by rw [← e5]; exact g5) j hj).1)) (fun j' u' h5 hc hd h => ex22_app4 hg g5h j' u' h5 hc hd h) (show OwnI w8 W.heap.size v' pre by simpa using ho)
                    · exact vl_move (.tmp 12) rfl _ q12 (hn (by decide) _ rfl)
                    · exact wp_slice1 (.tmp 79) rfl (k : Int) (dv ⟨5, .data⟩ (by simp) rfl (fun j hj hd => by unfold ex22D at hd; unfold ex22C; simp at hd ⊢; try omega)) (hK _ _ trivial (fun _ h => h.alloc h.size _) (fun j' u' _ hc hd h => ex22_mono ((Below.refl _ _).alloc (Nat.le_refl _) _) j' u' (fun e => by subst e; cases hd) h) ⟨_, rfl, by simp, World.alloc_heap_new _ _⟩)
                    · have g4 : OwnI w7 W.heap.size (a.eval (.tmp 78)) pre := (dv ⟨4, .data⟩ (by simp) rfl (fun j hj hd => by unfold ex22D at hd; unfold ex22C; simp at hd ⊢; try omega))
                      obtain ⟨g, e6, gl, gh⟩ := (dv ⟨6, .data⟩ (by simp) rfl (fun j hj hd => by unfold ex22D at hd; unfold ex22C; simp at hd ⊢; try omega))
                      have g6 : SI w7 (a.eval (.tmp 80)) [(k : Int)] := by
                        rw [show a.eval (.tmp 80) = _ from e6]
                        refine ⟨_, 1, rfl, Nat.le_refl _, by unfold maxLen; omega, fun q hq => ⟨g, 0, rfl, ?_⟩⟩
                        obtain rfl : q = 0 := by simpa using hq
                        rw [Lib.cell_of_heap gh]; rfl
                      exact wp_app_int (.tmp 78) (.tmp 80) rfl W.heap.size _ _ pre [(k : Int)] rfl rfl g4 g6 (by simp; omega) hbs fun v' w8 ho hg hat =>
                        hK v' w8 trivial (fun _ h => h.grown hg h.size (fun j hj => (World.ownsRow.lt g4 j hj).1)) (fun j' u' h5 hc hd h => ex22_app7 j' u' h5 hc hd h) ho
                    · exact ld_search (.tmp 7) rfl w.heap.size _ _ _ _ _ q7 (HX.out.x7.below hb hlt7) (hn (by decide) _ rfl)
                    · have g7 : OwnI w7 W.heap.size (a.eval (.tmp 81)) (pre ++ [(k : Int)]) := (dv ⟨7, .data⟩ (by simp) rfl (fun j hj hd => by unfold ex22D at hd; unfold ex22C; simp at hd ⊢; try omega))
                      refine vl_call4 53 _ _ _ _ (.tmp 74) (.tmp 75) (.tmp 81) (.tmp 82) rfl enter_extend _ _ _ _ (dv ⟨0, .data⟩ (by simp) rfl (fun j hj hd => by unfold ex22D at hd; unfold ex22C; simp at hd ⊢; try omega)) (dv ⟨1, .data⟩ (by simp) rfl (fun j hj hd => by unfold ex22D at hd; unfold ex22C; simp at hd ⊢; try omega)) rfl (dv ⟨8, .data⟩ (by simp) rfl (fun j hj hd => by unfold ex22D at hd; unfold ex22C; simp at hd ⊢; try omega)) ?_
                      refine (IHF.out _ l1 n1 ov1 (pre ++ [(k : Int)]) _ w7 (by have := HF.out; simp; omega) (rightB_snoc' HR.out (by omega) (by omega) HY.out) HX.out.hl HX.out.hl2 HX.out.n0 HX.out.n5 (HWW.out.trans (hb.mono HWW.out.size)) (by omega) (HX.out.own.below hb) (OwnI.mono g7 (Nat.zero_le _))).mono ?_
                      rintro e' w8 he
                      rw [← HRR.out] at he
                      obtain ⟨v8, hv8⟩ : ∃ v8, e' = .returned v8 := by obtain ⟨_, _, _, _, _, h, _⟩ := he; exact ⟨_, h⟩
                      subst hv8
                      exact ⟨v8, rfl, hK v8 w8 trivial (fun h => absurd rfl h) (fun j' u' h5 hc _ h => ex22_app9 j' u' h5 hc h) (by show Z v8 w8; rw [HZ.out]; exact ⟨w7, hb, he⟩)⟩
                  · rintro op a w7 hop hsm _ hv K hK
                    have ho' := Option.some.inj hop
                    subst ho'
                    have q7 := (hsm.eval (m := 7) (by decide)).trans z7
                    have h9 : Z (a.eval (.tmp 83)) w7 := hv 9 (by omega) (fun k hk => by unfold ex22C; simp)
                    have h9' := h9
                    rw [HZ.out] at h9'
                    obtain ⟨W7, hb7, hfr, vl', l', n', ov', he, _, ho9, _⟩ := h9'
                    obtain ⟨na, nc, rfl, _⟩ := ho9.sc
                    have he' : a.eval (.tmp 83) = _ := Ending.returned.inj he
                    have hx7 := hfr.obj (HX.out.x7.below hb7 hlt7) (by have := hb7.size; omega) (OwnC.neObj (HX.out.x7) HX.out.own (by decide))
                    exact st_search (.tmp 7) (.tmp 83) rfl rfl w.heap.size _ _ _ na l'.length nc n' ov' q7 he' hx7 (hK _ _ ⟨hsm, _, w7, _, h9, ⟨na, l'.length, nc, n', ov', he', rfl⟩, rfl⟩)
                  rintro a W9 ⟨hs5, v8, W8, _, h9, ⟨na, nm, nc, n9, ov9, rfl, hW9⟩, rfl⟩
                  rw [HZ.out] at h9
                  obtain ⟨W7, hb7, hfr, vl', l', n', ov', he, hlk, ho9, hl9, hl92, hn9, hn95, hres⟩ := h9
                  have he' := Ending.returned.inj he
                  simp only [Value.agg.injEq, Array.mk.injEq, List.cons.injEq, and_true, Value.int.injEq, true_and, Value.bool.injEq] at he'
                  obtain ⟨rfl, rfl, rfl⟩ := he'
                  clear he
                  have hWW7 : w.heap.size + 2 ≤ W7.heap.size := by have := HX.out.x8.lt; have := hb7.size; omega
                  have hne7 := OwnC.neObj (HX.out.x7) HX.out.own (by decide : 54 ≠ 75)
                  have hne8 := OwnC.neObj (HX.out.x8) HX.out.own (by decide : 54 ≠ 75)
                  have hx7 := hfr.obj (HX.out.x7.below hb7 hlt7) (by omega) hne7
                  have hx8 := hfr.obj (HX.out.x8.below hb7 HX.out.x8.lt) (by omega) hne8
                  have s1 := hx7.set 0 (.slice na nm nc)
                  have s2 := s1.set 1 (.int .i64 n9)
                  have s3 := s2.set 2 (.bool ov9)
                  have HX3 : Hid (ExtL w B (.slice va l.length vc) (.slice ua pre.length uc) pre (triesM (undJob p span f' pre) (k + 1) (spendM ⟨n.toNat, l⟩)) W9 (.slice na nm nc) l' n9 ov9) := by
                    rw [hW9]
                    have hpre7 := HX.out.pre.below hb7
                    refine ⟨(((HX.out.fr.thenB hb7 (by omega)).then (by omega) HX.out.lk hfr).set (Nat.le_refl _) _ _ |>.set (Nat.le_refl _) _ _).set (Nat.le_refl _) _ _, s3, ((hx8.other (by omega) _ _).other (by omega) _ _).other (by omega) _ _, HX.out.lk.trans hlk (by omega), OwnC.objSet s2 (OwnC.objSet s1 (OwnC.objSet hx7 ho9 (by decide) (by decide) _ _) (by decide) (by decide) _ _) (by decide) (by decide) _ _, hl9, hl92, hn9, hn95, ?_, ?_⟩
                    · exact s2.rowSet (s1.rowSet (hx7.rowSet (OwnI.frv hfr (HX.out.own.below hb7) hpre7) (by decide) _ _) (by decide) _ _) (by decide) _ _
                    · have h0 := HX.out.res
                      rw [HRR.out] at hres
                      cases hr : triesM (undJob p span f' pre) k (spendM ⟨n.toNat, l⟩) with
                      | none => rw [hr] at h0; rw [triesM_none hr (k + 1) (by omega)]; rw [h0] at hres; exact hres
                      | some st' =>
                        rw [hr] at h0
                        obtain ⟨h1, h2, h3⟩ := h0
                        rw [triesM_succ hr, undJob_new HY.out]
                        rw [h1, h2, h3] at hres
                        exact hres
                  have hsm' : Sm [74, 75, 76, 77, 78, 79, 80, 81, 82, 83] a0 a := hs5
                  have HA := hsm'.lit
                  simp only [List.foldl] at HA
                  generalize a.eval (.tmp 74) = t74 at HA
                  generalize a.eval (.tmp 75) = t75 at HA
                  generalize a.eval (.tmp 76) = t76 at HA
                  generalize a.eval (.tmp 77) = t77 at HA
                  generalize a.eval (.tmp 78) = t78 at HA
                  generalize a.eval (.tmp 79) = t79 at HA
                  generalize a.eval (.tmp 80) = t80 at HA
                  generalize a.eval (.tmp 81) = t81 at HA
                  generalize a.eval (.tmp 82) = t82 at HA
                  generalize a.eval (.tmp 83) = t83 at HA
                  rw [HA, ha0]
                  simp only [Act.put, List.setIfInBounds_toArray, List.set_cons_zero, List.set_cons_succ]
                  clear HA
                  clear hs5 hsm' ha0 z0 z1 z2 z7 z12 hfr hlk ho9 hx7 hx8 s1 s2 s3 hres hb7 hW9
                  go_wp2_with fail
                  go_roundw
                  case rel => exact ⟨k + 1, _, _, _, _, by omega, by go_num, HX3⟩
                  case measure => simp [intOf]; omega
              · obtain rfl : k = p.length := by omega
                have x7 := hx.out.x7; have x8 := hx.out.x8
                obtain ⟨qa, qc, rfl, _, _, _⟩ := hx.out.own.sc
                have a0 := x7.cell 0; have a1 := x7.cell 1; have a2 := x7.cell 2
                have f0 := x7.frozen 0; have f1 := x7.frozen 1; have f2 := x7.frozen 2
                have b0 := x8.cell 0; have b1 := x8.cell 1; have b2 := x8.cell 2
                have g0 := x8.frozen 0; have g1 := x8.frozen 1; have g2 := x8.frozen 2
                simp at a0 a1 a2 b0 b1 b2
                clear x7 x8
                go_wp2_with fail
                have hr := ret38 hx.out.x8 (.slice qa l1.length qc) n1 ov1
                refine bodyPost_ret (v := .agg #[.slice qa l1.length qc, .int .i64 n1, .bool ov1]) (by simp [results, Tryz.results53, go_sem, hr.c0, hr.c1, hr.c2]) rfl ?_
                rw [HT0.out]
                exact ⟨hr.fr _ _ _ hx.out.fr (by omega), _, l1, n1, ov1, rfl, hx.out.lk, hr.own _ _ _ hx.out.own, hx.out.hl, hx.out.hl2, hx.out.n0, hx.out.n5, hx.out.res⟩
end Go.Proofs.YtehbnckdllbmgaaGreatDoor
