/- Contract: Fit of bay's reference. -/
import Derived.Test.YtlmfcigabojbmaaGreatDoorDokP0
import Derived.Test.YtlmfcigabojbmaaGreatDoorQca
import Derived.Test.YtlmfcigabojbmaaGreatDoorDokP
import Derived.Test.YtlmfcigabojbmaaGreatDoorShoO
import Derived.Test.YtlmfcigabojbmaaGreatDoorDokK
import Derived.Test.YtlmfcigabojbmaaGreatDoorDokW
import Derived.BigRegion
set_option linter.unusedSimpArgs false
set_option linter.unusedVariables false

/- A drawn region that appends a number to each of two rows of one's own. -/
namespace Go.Proofs.YtlmfcigabojbmaaGreatDoor
open Go.RowKit

theorem run_lit1i {o : Oper} {a : Act} {n : Nat} {x : Int} (ho : o.op = .buildSlice 81 1 #[(0, .tmp n)]) (hv : a.eval (.tmp n) = .int .i64 x) (w : World) : (execOp a.eval o).run Tryz.prog w = .ok (.value (.slice (some ⟨w.heap.size, 0, none⟩) 1 1)) (w.alloc (.cells #[.int .i64 x] 3)) := by
  unfold execOp; simp only [ho, List.map_toArray, List.map_cons, List.map_nil, hv]; go_simp
def cur (s : Nat → Option Value) (A : Nat) (p : Value) : Value := (s A).getD p
def curL (s : Nat → Option Value) (A : Nat) (xs : List Int) (x : Int) : List Int := if (s A).isSome then xs ++ [x] else xs
structure JT (B1 A1 D1 B2 A2 D2 : Nat) (B : Nat) (sb : Value) (l : List Ber) (p1 p2 : Value) (xs ys : List Int) (x y : Int) (s : Nat → Option Value) (u : World) : Prop where
  rows : Rows3 u B sb (cur s A1 p1) (cur s A2 p2) l (curL s A1 xs x) (curL s A2 ys y)
  bz : B ≤ u.heap.size
  o1 : s B1 = none → s A1 = none
  o2 : s B2 = none → s A2 = none
  l1 : ∀ v, s B1 = some v → s A1 = none → ∃ g, v = .slice (some ⟨g, 0, none⟩) 1 1 ∧ u.cell? ⟨g, 0, none⟩ = some (.int .i64 x) ∧ g < u.heap.size ∧ (cur s A2 p2).ownBlock ≠ some g
  l2 : ∀ v, s B2 = some v → s A2 = none → ∃ g, v = .slice (some ⟨g, 0, none⟩) 1 1 ∧ u.cell? ⟨g, 0, none⟩ = some (.int .i64 y) ∧ g < u.heap.size ∧ (cur s A1 p1).ownBlock ≠ some g
  d1 : s A1 = none → s D1 = none
  d2 : s A2 = none → s D2 = none
  e1 : ∀ v, s D1 = some v → s A1 = some v
  e2 : ∀ v, s D2 = some v → s A2 = some v
structure Six (B1 A1 D1 B2 A2 D2 : Nat) : Prop where
  ba : B1 ≠ A1
  bd : B1 ≠ D1
  bb : B1 ≠ B2
  bA : B1 ≠ A2
  bD : B1 ≠ D2
  ad : A1 ≠ D1
  ab : A1 ≠ B2
  aA : A1 ≠ A2
  aD : A1 ≠ D2
  db : D1 ≠ B2
  dA : D1 ≠ A2
  dD : D1 ≠ D2
  BA : B2 ≠ A2
  BD : B2 ≠ D2
  AD : A2 ≠ D2
theorem cur_same (s : Nat → Option Value) (A : Nat) (p v : Value) : cur (updS s A v) A p = v := by unfold cur; rw [updS_same]; rfl
theorem curL_same (s : Nat → Option Value) (A : Nat) (xs : List Int) (x : Int) (v : Value) : curL (updS s A v) A xs x = xs ++ [x] := by unfold curL; rw [updS_same]; rfl
theorem cur_other {s : Nat → Option Value} {A i : Nat} {p v : Value} (h : A ≠ i) : cur (updS s i v) A p = cur s A p := by unfold cur; rw [updS_other h]
theorem curL_other {s : Nat → Option Value} {A i : Nat} {xs : List Int} {x : Int} {v : Value} (h : A ≠ i) : curL (updS s i v) A xs x = curL s A xs x := by unfold curL; rw [updS_other h]
theorem cur_none {s : Nat → Option Value} {A : Nat} {p : Value} (h : s A = none) : cur s A p = p := by unfold cur; rw [h]; rfl
theorem curL_none {s : Nat → Option Value} {A : Nat} {xs : List Int} {x : Int} (h : s A = none) : curL s A xs x = xs := by unfold curL; rw [h]; rfl
section
variable {B1 A1 D1 B2 A2 D2 B : Nat} {sb : Value} {l : List Ber} {p1 p2 : Value} {xs ys : List Int} {x y : Int} {s : Nat → Option Value} {u u' : World}
theorem JT.flip (h : JT B1 A1 D1 B2 A2 D2 B sb l p1 p2 xs ys x y s u) : JT B2 A2 D2 B1 A1 D1 B sb l p2 p1 ys xs y x s u :=
  ⟨⟨h.rows.b, h.rows.y, h.rows.x, h.rows.ny, h.rows.nx, fun e => h.rows.ne e.symm⟩, h.bz, h.o2, h.o1, h.l2, h.l1, h.d2, h.d1, h.e2, h.e1⟩
theorem Six.flip (h : Six B1 A1 D1 B2 A2 D2) : Six B2 A2 D2 B1 A1 D1 := ⟨h.BA, h.BD, h.bb.symm, h.ab.symm, h.db.symm, h.AD, h.bA.symm, h.aA.symm, h.dA.symm, h.bD.symm, h.aD.symm, h.dD.symm, h.ba, h.bd, h.ad⟩
theorem JT.start (h : Rows3 u B sb p1 p2 l xs ys) (hb : B ≤ u.heap.size) : JT B1 A1 D1 B2 A2 D2 B sb l p1 p2 xs ys x y (fun _ => none) u :=
  ⟨h, hb, fun _ => rfl, fun _ => rfl, fun _ h => (by cases h), fun _ h => (by cases h), fun _ => rfl, fun _ => rfl, fun _ h => (by cases h), fun _ h => (by cases h)⟩
theorem JT.stepB (h : JT B1 A1 D1 B2 A2 D2 B sb l p1 p2 xs ys x y s u) (hd : Six B1 A1 D1 B2 A2 D2) (hn : s B1 = none) : JT B1 A1 D1 B2 A2 D2 B sb l p1 p2 xs ys x y (updS s B1 (.slice (some ⟨u.heap.size, 0, none⟩) 1 1)) (u.alloc (.cells #[.int .i64 x] 3)) := by
  have hA := h.o1 hn
  have hb : Below u.heap.size u (u.alloc (.cells #[.int .i64 x] 3)) := (Below.refl _ _).alloc (Nat.le_refl _) _
  obtain ⟨h0, h1, h2, h3, h4, h5, h6, h7, h8, h9⟩ := h
  refine ⟨?_, Nat.le_trans h1 hb.size, ?_, ?_, ?_, ?_, ?_, ?_, ?_, ?_⟩
  · rw [cur_other hd.ba.symm, cur_other hd.bA.symm, curL_other hd.ba.symm, curL_other hd.bA.symm]; exact h0.alloc _
  · rw [updS_same]; intro e; cases e
  · rw [updS_other hd.bb.symm, updS_other hd.bA.symm]; exact h3
  · intro v hv _
    rw [updS_same] at hv; cases hv
    rw [cur_other hd.bA.symm]
    refine ⟨u.heap.size, rfl, by rw [cell_of_row _ _ 0 _ _ _ (World.alloc_heap_new u _)]; rfl, by simp, fun e => ?_⟩
    have := (World.ownsRow.lt h0.y _ e).2; omega
  · intro v hv hv2
    rw [updS_other hd.bb.symm] at hv; rw [updS_other hd.bA.symm] at hv2
    obtain ⟨g, e1, e2, e3, e4⟩ := h5 v hv hv2
    exact ⟨g, e1, cell_keep hb e2, Nat.lt_of_lt_of_le e3 hb.size, by rw [cur_other hd.ba.symm]; exact e4⟩
  · rw [updS_other hd.ba.symm, updS_other hd.bd.symm]; exact h6
  · rw [updS_other hd.bA.symm, updS_other hd.bD.symm]; exact h7
  · rw [updS_other hd.ba.symm, updS_other hd.bd.symm]; exact h8
  · rw [updS_other hd.bA.symm, updS_other hd.bD.symm]; exact h9
theorem JT.stepA {t : Value} (h : JT B1 A1 D1 B2 A2 D2 B sb l p1 p2 xs ys x y s u) (hd : Six B1 A1 D1 B2 A2 D2) (hn : s A1 = none) (hB : s B1 ≠ none) (ho : OwnI u' B t (xs ++ [x])) (hg : u.grownBy u' p1.ownBlock) (ha : t.ownBlock = p1.ownBlock ∨ t.ownBlock = some u.heap.size) :
    JT B1 A1 D1 B2 A2 D2 B sb l p1 p2 xs ys x y (updS s A1 t) u' := by
  have hD := h.d1 hn
  obtain ⟨h0, h1, h2, h3, h4, h5, h6, h7, h8, h9⟩ := h
  have hc := cur_none (p := p1) hn
  refine ⟨?_, Nat.le_trans h1 hg.size, ?_, ?_, ?_, ?_, ?_, ?_, ?_, ?_⟩
  · rw [cur_same, curL_same, cur_other hd.aA.symm, curL_other hd.aA.symm]
    exact h0.appX ho (by rw [hc]; exact hg) (by rw [hc]; exact ha.imp_right fun e => ⟨_, e, Nat.le_refl _⟩)
  · rw [updS_other hd.ba]; intro e; exact absurd e hB
  · rw [updS_other hd.ab.symm, updS_other hd.aA.symm]; exact h3
  · intro v hv hv2; rw [updS_same] at hv2; cases hv2
  · intro v hv hv2
    rw [updS_other hd.ab.symm] at hv; rw [updS_other hd.aA.symm] at hv2
    obtain ⟨g, e1, e2, e3, e4⟩ := h5 v hv hv2
    rw [hc] at e4
    refine ⟨g, e1, hg.cell e2 (fun e => e4 e.symm), Nat.lt_of_lt_of_le e3 hg.size, ?_⟩
    rw [cur_same]
    rcases ha with e | e
    · rw [e]; exact e4
    · rw [e]; intro e'; have := Option.some.inj e'; omega
  · rw [updS_same]; intro e; cases e
  · rw [updS_other hd.aA.symm, updS_other hd.aD.symm]; exact h7
  · intro v hv; rw [updS_other hd.ad.symm, hD] at hv; cases hv
  · rw [updS_other hd.aA.symm, updS_other hd.aD.symm]; exact h9
theorem JT.stepD {v : Value} (h : JT B1 A1 D1 B2 A2 D2 B sb l p1 p2 xs ys x y s u) (hd : Six B1 A1 D1 B2 A2 D2) (hv : s A1 = some v) : JT B1 A1 D1 B2 A2 D2 B sb l p1 p2 xs ys x y (updS s D1 v) u := by
  obtain ⟨h0, h1, h2, h3, h4, h5, h6, h7, h8, h9⟩ := h
  refine ⟨?_, h1, ?_, ?_, ?_, ?_, ?_, ?_, ?_, ?_⟩
  · rw [cur_other hd.ad, curL_other hd.ad, cur_other hd.dA.symm, curL_other hd.dA.symm]; exact h0
  · rw [updS_other hd.bd, updS_other hd.ad]; exact h2
  · rw [updS_other hd.db.symm, updS_other hd.dA.symm]; exact h3
  · rw [updS_other hd.bd, updS_other hd.ad, cur_other hd.dA.symm]; exact h4
  · rw [updS_other hd.db.symm, updS_other hd.dA.symm, cur_other hd.ad]; exact h5
  · rw [updS_other hd.ad, hv]; intro e; cases e
  · rw [updS_other hd.dA.symm, updS_other hd.dD.symm]; exact h7
  · intro v' e; rw [updS_same] at e; cases e; rw [updS_other hd.ad]; exact hv
  · rw [updS_other hd.dA.symm, updS_other hd.dD.symm]; exact h9
end
/-- objects that stay -/
structure KO where
  b : Nat
  xs : Array Value
  e : TypeId
def KeptO (B : Nat) (w : World) (os : List KO) (u : World) : Prop := Below B w u ∧ ∀ o ∈ os, ObjAt u o.b o.xs o.e
theorem KeptO.alloc {B : Nat} {w u : World} {os : List KO} (h : KeptO B w os u) (hb : B ≤ u.heap.size) (o : Obj) : KeptO B w os (u.alloc o) := ⟨h.1.alloc hb _, fun k hk => (h.2 k hk).alloc _⟩
structure TwOps (ops : List Oper) (B1 A1 D1 nB nA nD nV nX : Nat) : Prop where
  b : ∃ o, ops[B1]? = some o ∧ o.op = .buildSlice 81 1 #[(0, .tmp nX)] ∧ o.dst = some nB
  a : ∃ o, ops[A1]? = some o ∧ o.op = .call { callee := .builtin .append, args := #[.tmp nV, .tmp nB], argTypes := #[81, 81] } ∧ o.dst = some nA ∧ ∃ e ∈ o.after, e.on = B1 ∧ Region.binds .any e = true
  d : ∃ o, ops[D1]? = some o ∧ o.op = .assign (.tmp nA) ∧ o.dst = some nD ∧ ∃ e ∈ o.after, e.on = A1 ∧ Region.binds .any e = true
section
variable {a0 : Act} {E : List Ob} {Q : Exit → Act → World → Prop} {w : World} {ops : List Oper} {B1 A1 D1 B2 A2 D2 nB nA nD nV nX B : Nat} {sb : Value} {l : List Ber} {p1 p2 : Value} {xs ys : List Int} {x y : Int} {S : List Ent} {os : List KO}
theorem tw_specs {sp : List Nat} {J : (Nat → Option Value) → World → Prop} (hJ1 : ∀ s u, J s u → JT B1 A1 D1 B2 A2 D2 B sb l p1 p2 xs ys x y s u) (hJ2 : ∀ s u, JT B1 A1 D1 B2 A2 D2 B sb l p1 p2 xs ys x y s u → J s u)
    (hd : Six B1 A1 D1 B2 A2 D2) (hsB : sp.contains B1 = true) (hsA : sp.contains A1 = true) (H : TwOps ops B1 A1 D1 nB nA nD nV nX)
    (hV : ∃ m, lookS S nV = some ⟨m, [], .v p1⟩) (hX : ∃ m, lookS S nX = some ⟨m, [], .v (.int .i64 x)⟩) (hlen : xs.length ≤ 1000000) (hos : ∀ o ∈ os, 3 ≠ o.e) (hB : w.heap.size = B) :
    SpecAt a0 E (KeptO B w os) J sp ops Q S B1 ∧ SpecAt a0 E (KeptO B w os) J sp ops Q S A1 ∧ SpecAt a0 E (KeptO B w os) J sp ops Q S D1 := by
  obtain ⟨oB, b1, b2, b3⟩ := H.b
  obtain ⟨oA, a1, a2, a3, eA, a4, a5, a6⟩ := H.a
  obtain ⟨oD, d1, d2, d3, eD, d4, d5, d6⟩ := H.d
  obtain ⟨mV, hV⟩ := hV
  obtain ⟨mX, hX⟩ := hX
  refine ⟨?_, ?_, ?_⟩
  · intro o a u s ho hC hJ hn hq hold hdep K hK
    rw [b1] at ho; cases ho
    have hx : a.eval (.tmp nX) = .int .i64 x := hq nX (by unfold Oper.looksAt; rw [b2]; simp [Op.operands]) _ hX rfl
    exact wp_of_run (run_lit1i b2 hx u) (hK _ _ (hC.alloc (hJ1 _ _ hJ).bz _) (hJ2 _ _ ((hJ1 _ _ hJ).stepB hd hn)))
  · intro o a u s ho hC hJ hn hq hold hdep K hK
    rw [a1] at ho; cases ho
    have hJ' := hJ1 _ _ hJ
    obtain ⟨v, v1, v2⟩ := hdep eA a4 a6 (by rw [a5]; exact hsB)
    rw [a5] at v1 v2
    have hpv : a.eval (.tmp nV) = p1 := hq nV (by unfold Oper.looksAt; rw [a2]; simp [Op.operands, Call.operands]) _ hV rfl
    obtain ⟨g, e1, e2, e3, e4⟩ := hJ'.l1 v v1 hn
    have hown : OwnI u B p1 xs := by have := hJ'.rows.x; rw [cur_none hn, curL_none hn] at this; exact this
    have hsi : SI u v [x] := by
      rw [e1]
      refine ⟨_, 1, rfl, Nat.le_refl _, by decide, fun i hi => ⟨g, 0, rfl, ?_⟩⟩
      have : i = 0 := by simpa using hi
      subst this
      exact e2
    refine wp_app_int (.tmp nV) (.tmp nB) a2 B p1 v xs [x] hpv (v2 oB nB b1 b3) hown hsi (by simp; omega) hJ'.bz fun t w' ho hg hat => ?_
    refine hK _ _ ⟨hC.1.grown hg hJ'.bz (fun q hq => (World.ownsRow.lt hown q hq).1), fun k hk => (hC.2 k hk).grown hg ((hC.2 k hk).ne hown (hos k hk))⟩ (hJ2 _ _ (hJ'.stepA hd hn (by rw [v1]; simp) ho hg hat))
  · intro o a u s ho hC hJ hn hq hold hdep K hK
    rw [d1] at ho; cases ho
    have hJ' := hJ1 _ _ hJ
    obtain ⟨v, v1, v2⟩ := hdep eD d4 d6 (by rw [d5]; exact hsA)
    rw [d5] at v1 v2
    refine wp_of_run (v := v) (w' := u) ?_ (hK _ _ hC (hJ2 _ _ (hJ'.stepD hd v1)))
    unfold execOp; simp only [d2, v2 oA nA a1 a3]; rfl
end
def selT (n : Nat) (v : Value) (f : Nat → Value) : Nat → Value := fun m => match Nat.beq m n with
  | true => v
  | false => f m
theorem selT_same {n : Nat} {v : Value} {f : Nat → Value} (h : f n = v) : selT n v f = f := by
  funext m
  unfold selT
  cases hb : Nat.beq m n with
  | true => have := Nat.eq_of_beq_eq_true hb; subst this; exact h.symm
  | false => rfl
def evTw (a0 : Act) (E : List Ob) (C : World → Prop) (nA1 nD1 nV1 nX1 nA2 nD2 nV2 nX2 : Nat) (p1 p2 : Value) (x y : Int) (ns : List Nat) (V : Value → Value → World → Prop) (outs : List (Nat × Value)) (Q : Act → World → Prop) (S : List Ent) : Prop :=
  ((∃ m, lookS S nV1 = some ⟨m, [], .v p1⟩) ∧ (∃ m, lookS S nX1 = some ⟨m, [], .v (.int .i64 x)⟩)) ∧ ((∃ m, lookS S nV2 = some ⟨m, [], .v p2⟩) ∧ (∃ m, lookS S nX2 = some ⟨m, [], .v (.int .i64 y)⟩)) ∧ ∀ (f : Nat → Value) (v1 v2 : Value), match a0 with
    | ⟨⟨l⟩, d⟩ => finS E outs f S l fun l' => setsN (selT nA1 v1 (selT nD1 v1 (selT nA2 v2 (selT nD2 v2 f)))) ns l' fun l'' => ∀ w', C w' → V v1 v2 w' → Q ⟨l''.toArray, d⟩ w'
theorem wp_region_tw {a0 : Act} {id : Nat} {Q : Exit → Act → World → Prop} {w : World} {ops : List Oper} (T : QTab) (hT : T.Ok) (E : List Ob) (ps : List (Nat × Nat)) (hs : List (Nat × Hint)) (outs : List (Nat × Value))
    (B1 A1 D1 B2 A2 D2 nB1 nA1 nD1 nV1 nX1 nB2 nA2 nD2 nV2 nX2 : Nat) (ns : List Nat) (sb : Value) (l : List Ber) (p1 p2 : Value) (xs ys : List Int) (x y : Int) (B : Nat) (wB : World) (os : List KO)
    (hz : (ops.all fun o => match o.dst with | some n => decide (n < a0.tmps.size) | none => true) = true) (hm : Tryz.prog.follows .mixedOrders = true)
    (hst : (ordB ops.toArray && nodB (dstsL ops) && chkB ops.toArray (quietL [B1, A1, D1, B2, A2, D2] 0 ops) && depB [B1, A1, D1, B2, A2, D2] ops.toArray) = true)
    (hsp : spD [B1, A1, D1, B2, A2, D2] 0 ops = ns) (hd : Six B1 A1 D1 B2 A2 D2) (H1 : TwOps ops B1 A1 D1 nB1 nA1 nD1 nV1 nX1) (H2 : TwOps ops B2 A2 D2 nB2 nA2 nD2 nV2 nX2)
    (hC : KeptO B wB os w) (hB : wB.heap.size = B) (hos : ∀ o ∈ os, 3 ≠ o.e) (hr : Rows3 w B sb p1 p2 l xs ys) (h1 : xs.length ≤ 1000000) (h2 : ys.length ≤ 1000000)
    (hE : ObsIn (KeptO B wB os) E) (P' : psOk a0 E ps)
    (h : evL a0 ps T E (KeptO B wB os) (fun u u' => u' = u) hs ops (evTw a0 E (KeptO B wB os) nA1 nD1 nV1 nX1 nA2 nD2 nV2 nX2 p1 p2 x y ns (fun v1 v2 w' => Rows3 w' B sb v1 v2 l (xs ++ [x]) (ys ++ [y])) outs (Q .normal)) (quietL [B1, A1, D1, B2, A2, D2] 0 ops) []) : (Code.region id ops.toArray true).wp Tryz.prog Q a0 w := by
  have hst' := hst
  simp only [Bool.and_eq_true] at hst'
  obtain ⟨⟨⟨s1, s2⟩, s3⟩, s4⟩ := hst'
  have hsub : ∀ o ∈ quietL [B1, A1, D1, B2, A2, D2] 0 ops, o ∈ ops := fun o ho => by obtain ⟨k, hk, _⟩ := mem_quietL ho; exact List.mem_of_getElem? hk
  obtain ⟨S, H', af, I, ⟨⟨hV1, hX1⟩, ⟨hV2, hX2⟩, h3⟩, f1, f2, f3⟩ := evL_fin P' hT hE hz _ [] [] a0 hsub s3 InvQ.start h
  have J1 := tw_specs (a0 := a0) (E := E) (Q := Q) (w := wB) (sp := [B1, A1, D1, B2, A2, D2]) (J := fun s u => JT B1 A1 D1 B2 A2 D2 B sb l p1 p2 xs ys x y s u) (fun _ _ h => h) (fun _ _ h => h) hd (by simp) (by simp) H1 hV1 hX1 h1 hos hB
  have J2 := tw_specs (a0 := a0) (E := E) (Q := Q) (w := wB) (sp := [B1, A1, D1, B2, A2, D2]) (J := fun s u => JT B1 A1 D1 B2 A2 D2 B sb l p1 p2 xs ys x y s u) (fun _ _ h => h.flip) (fun _ _ h => h.flip) hd.flip (by simp) (by simp) H2 hV2 hX2 h2 hos hB
  obtain ⟨oA1, q1, q2, q3, _⟩ := H1.a
  obtain ⟨oA2, r1, r2, r3, _⟩ := H2.a
  obtain ⟨oD1, t1, t2, t3, _⟩ := H1.d
  obtain ⟨oD2, z1, z2, z3, _⟩ := H2.d
  refine mix_core [B1, A1, D1, B2, A2, D2] E (KeptO B wB os) (fun u u' => u' = u) outs (fun s u => JT B1 A1 D1 B2 A2 D2 B sb l p1 p2 xs ys x y s u) hz hm hst ⟨hC.1.drew, hC.2⟩ (JT.start (hr.below ((Below.refl _ _).drew)) (Nat.le_trans (Nat.le_of_eq hB.symm) hC.1.size)) (fun u u' h1 h2 => by rw [h2]; exact h1) (fun u _ => rfl) (fun s u u' _ h1 h2 => by rw [h2]; exact h1) I ⟨⟨J1.1, J1.2.1, J1.2.2, J2.1, J2.2.1, J2.2.2, trivial⟩, fun f s hsv => ?_⟩ f1 f2 f3
  obtain ⟨v1, m1, m2⟩ := hsv A1 (by simp) oA1 q1
  obtain ⟨v2, m3, m4⟩ := hsv A2 (by simp) oA2 r1
  obtain ⟨v3, m5, m6⟩ := hsv D1 (by simp) oD1 t1
  obtain ⟨v4, m7, m8⟩ := hsv D2 (by simp) oD2 z1
  have k1 : f nA1 = v1 := (m2 nA1 q3).symm
  have k2 : f nA2 = v2 := (m4 nA2 r3).symm
  have k3 : f nD1 = v3 := (m6 nD1 t3).symm
  have k4 : f nD2 = v4 := (m8 nD2 z3).symm
  obtain ⟨⟨li⟩, d⟩ := a0
  dsimp only at h3 ⊢
  rw [hsp]
  refine finS_mono (fun l' hl' => ?_) (h3 f v1 v2)
  by_cases e1 : v3 = v1
  · by_cases e2 : v4 = v2
    · rw [selT_same (f := f) (k4.trans e2), selT_same k2, selT_same (f := f) (k3.trans e1), selT_same k1] at hl'
      rw [setsN_eq] at hl' ⊢
      intro w' hC' hJ'
      refine hl' w' hC' ?_
      have := hJ'.rows
      unfold cur curL at this
      rw [m1, m3] at this
      exact this
    · rw [setsN_eq]
      intro w' _ hJ'
      have := hJ'.e2 v4 m7
      rw [m3] at this
      exact absurd (Option.some.inj this).symm e2
  · rw [setsN_eq]
    intro w' _ hJ'
    have := hJ'.e1 v3 m5
    rw [m1] at this
    exact absurd (Option.some.inj this).symm e1
end Go.Proofs.YtlmfcigabojbmaaGreatDoor

/- What the search for a place in a bay works with. -/
namespace Go.Proofs.YtlmfcigabojbmaaGreatDoor
open Go.RowKit

theorem tiB_of {docks : List DBay} {l : List Ber} (h : planOk docks l = true) (hs : ∀ d ∈ docks, sideD d) : ∀ u ∈ l, TiB u := by
  intro u hu
  obtain ⟨d, h1, h2, h3⟩ := plan_stay h hu
  have h4 := hs d (findD_mem h1)
  have h5 := rangeB_iff.1 h2; have h6 := fitB_iff.1 h3
  have h7 := sideB_iff.1 h4.1; have h8 := sideB_iff.1 h4.2
  constructor <;> omega
theorem sides_plan {docks : List DBay} {l : List Ber} (h : planOk docks l = true) : ∀ d ∈ docks, sideD d := by
  intro d hd
  obtain ⟨k, hk, rfl⟩ := mem_byi hd
  unfold planOk at h
  simp only [Bool.and_eq_true, List.all_eq_true] at h
  have := h.1.2 k (List.mem_range.2 hk)
  unfold bayOk at this
  simp only [Bool.and_eq_true] at this
  exact ⟨this.1.2.1, this.1.2.2⟩
theorem starts_small {docks : List DBay} {l : List Ber} {a t : Int} (h : planOk docks l = true) (ha : 0 ≤ a ∧ a ≤ 1048576) (ht : t ∈ endsL l a) : 0 ≤ t ∧ t ≤ 1048576 := by
  unfold endsL at ht
  rw [List.mem_cons, List.mem_map] at ht
  rcases ht with rfl | ⟨u, hu, rfl⟩
  · exact ha
  · obtain ⟨d, _, h2, _⟩ := plan_stay h (List.mem_filter.1 hu).1
    have := rangeB_iff.1 h2
    omega
theorem SB.y {w : World} {v : Value} {l : List Ber} (h : SB w v l) : SY w v l := by
  obtain ⟨a, cap, rfl, h1, h2, h3⟩ := h
  refine ⟨a, cap, rfl, h1, h2, fun i hi => ?_⟩
  obtain ⟨b, off, e, hc⟩ := h3 i hi
  exact ⟨b, off, e, ⟨hc.c0, hc.c1, hc.c2, hc.c3, hc.c4, hc.c5, hc.c6, hc.c7⟩⟩
theorem SY.b {w : World} {v : Value} {l : List Ber} (h : SY w v l) : SB w v l := by
  obtain ⟨a, cap, rfl, h1, h2, h3⟩ := h
  refine ⟨a, cap, rfl, h1, h2, fun i hi => ?_⟩
  obtain ⟨b, off, e, hc⟩ := h3 i hi
  exact ⟨b, off, e, ⟨hc.c0, hc.c1, hc.c2, hc.c3, hc.c4, hc.c5, hc.c6, hc.c7⟩⟩
theorem SD.set {w : World} {v : Value} {l : List DBay} (h : SD w v l) {b : Nat} (hb : l = [] ∨ v.ownBlock ≠ some b) (k : Nat) (u : Value) : SD (w.setCell ⟨b, k, none⟩ u) v l := by
  obtain ⟨a, cap, rfl, h1, h2, h3⟩ := h
  rcases hb with rfl | hb
  · exact ⟨a, cap, rfl, h1, h2, fun i hi => by simp at hi⟩
  refine ⟨a, cap, rfl, h1, h2, fun i hi => ?_⟩
  obtain ⟨b', off, rfl, hc⟩ := h3 i hi
  have hne : b' ≠ b := fun e => hb (by simp [Value.ownBlock, e])
  have key : ∀ o z, w.cell? ⟨b', o, none⟩ = some z → (w.setCell ⟨b, k, none⟩ u).cell? ⟨b', o, none⟩ = some z := fun o z hz => by
    rw [World.cell?_setCell_other (h := fun e => hne (congrArg Addr.block e).symm)]; exact hz
  exact ⟨b', off, rfl, ⟨key _ _ hc.c0, key _ _ hc.c1, key _ _ hc.c2⟩⟩
theorem RowH.set {w : World} {B : Nat} {v : Value} {zs : List Int} (h : RowH w B v zs) {b : Nat} (hb : v.ownBlock ≠ some b) (k : Nat) (u : Value) : RowH (w.setCell ⟨b, k, none⟩ u) B v zs := by
  rcases h with ⟨rfl, rfl⟩ | ⟨g, cap, rfl, h1, h2, h3, h4, h5⟩
  · exact .inl ⟨rfl, rfl⟩
  · have hne : g ≠ b := fun e => hb (by rw [e]; rfl)
    have he : (w.setCell ⟨b, k, none⟩ u).heap[g]? = w.heap[g]? := Below.heap_setCell _ _ _ _ hne
    refine .inr ⟨g, cap, rfl, fun j hj => ?_, ?_, h3, h4, h5⟩
    · obtain ⟨a1, a2⟩ := h1 j hj
      unfold World.cell? World.frozen? at *
      dsimp only at *
      rw [he]
      exact ⟨a1, a2⟩
    · exact Nat.lt_of_lt_of_le h2 (((Below.refl 0 w).setCell (p := ⟨b, k, none⟩) (Nat.zero_le _) u).size)
theorem RowH.keep {w w' : World} {B : Nat} {v : Value} {zs : List Int} (h : RowH w B v zs) (hb : Below w.heap.size w w') : RowH w' B v zs := by
  rcases h with ⟨rfl, rfl⟩ | ⟨g, cap, rfl, h1, h2, h3, h4, h5⟩
  · exact .inl ⟨rfl, rfl⟩
  · have he : w'.heap[g]? = w.heap[g]? := hb.block g h2
    refine .inr ⟨g, cap, rfl, fun j hj => ?_, Nat.lt_of_lt_of_le h2 hb.size, h3, h4, h5⟩
    obtain ⟨a1, a2⟩ := h1 j hj
    unfold World.cell? World.frozen? at *
    dsimp only at *
    rw [he]
    exact ⟨a1, a2⟩
/-- zeros behind a sorted list: as many as one may be left -/
theorem compact_zero {l : List Int} (h : l.Pairwise (· < ·)) (m : Nat) : Lib.compact (l ++ List.replicate m 0) = l ∨ Lib.compact (l ++ List.replicate m 0) = l ++ [0] := by
  have key : ∀ k, k ≤ (l ++ List.replicate m (0 : Int)).length → (k ≤ l.length → Lib.compactUpTo (l ++ List.replicate m 0).toArray k = l.take k) ∧ (l.length ≤ k → Lib.compactUpTo (l ++ List.replicate m 0).toArray k = l ∨ Lib.compactUpTo (l ++ List.replicate m 0).toArray k = l ++ [0]) := by
    have hz : ∀ j, l.length ≤ j → j < (l ++ List.replicate m (0 : Int)).length → (l ++ List.replicate m (0 : Int)).toArray[j]! = 0 := by
      intro j hj hj2
      rw [getElem!_pos _ j (by simpa using hj2), List.getElem_toArray, List.getElem_append_right hj]
      simp
    intro k
    induction k with
    | zero => exact fun _ => ⟨fun _ => rfl, fun h0 => .inl (by rw [List.eq_nil_of_length_eq_zero (Nat.le_zero.1 h0)]; rfl)⟩
    | succ k ih =>
      intro hk
      obtain ⟨i1, i2⟩ := ih (by omega)
      rw [Lib.compactUpTo_succ]
      rcases Nat.lt_trichotomy k l.length with hlt | heq | hgt
      · have hke : Lib.keeps (l ++ List.replicate m (0 : Int)).toArray k = true := by
          unfold Lib.keeps
          refine decide_eq_true ?_
          by_cases h0 : k = 0
          · exact .inl h0
          · right
            rw [getElem!_pos _ k (by simp; omega), getElem!_pos _ (k - 1) (by simp; omega), List.getElem_toArray, List.getElem_toArray, List.getElem_append_left hlt, List.getElem_append_left (by omega)]
            have := List.pairwise_iff_getElem.1 h (k - 1) k (by omega) hlt (by omega)
            omega
        have hv : (l ++ List.replicate m (0 : Int)).toArray[k]! = l[k] := by
          rw [getElem!_pos _ k (by simp; omega), List.getElem_toArray, List.getElem_append_left hlt]
        have e1 : Lib.compactUpTo (l ++ List.replicate m 0).toArray k ++ [(l ++ List.replicate m (0 : Int)).toArray[k]!] = l.take (k + 1) := by
          rw [i1 (by omega), hv, List.take_succ_eq_append_getElem hlt]
        rw [if_pos hke, e1]
        refine ⟨fun _ => rfl, fun h2 => .inl (List.take_of_length_le h2)⟩
      · refine ⟨fun h2 => by omega, fun _ => ?_⟩
        rw [i1 (by omega), List.take_of_length_le (by omega), hz k (by omega) (by omega)]
        by_cases hke : Lib.keeps (l ++ List.replicate m (0 : Int)).toArray k = true
        · rw [if_pos hke]; exact .inr rfl
        · rw [if_neg hke, List.append_nil]; exact .inl rfl
      · refine ⟨fun h2 => by omega, fun _ => ?_⟩
        have hke : ¬ Lib.keeps (l ++ List.replicate m (0 : Int)).toArray k = true := by
          unfold Lib.keeps
          intro hd
          rcases of_decide_eq_true hd with h0 | h0
          · omega
          · exact h0 (by rw [hz k (by omega) (by omega), hz (k - 1) (by omega) (by omega)])
        rw [if_neg hke, List.append_nil]
        exact i2 (by omega)
  have := (key _ (Nat.le_refl _)).2 (by simp)
  simpa [Lib.compact] using this
/-- what the row of places holds while it is compacted again and again -/
def LQ (C L : List Int) : Prop := L.length = C.length ∧ (L = sortL C ∨ ∃ m, L = uq C ++ List.replicate m 0)
def padL (L : List Int) : List Int := Lib.compact L ++ List.replicate (L.length - (Lib.compact L).length) 0
theorem LQ.start (C : List Int) : LQ C (sortL C) := ⟨sortL_len C, .inl rfl⟩
theorem LQ.comp {C L : List Int} (h : LQ C L) : Lib.compact L = uq C ∨ Lib.compact L = uq C ++ [0] := by
  rcases h.2 with rfl | ⟨m, rfl⟩
  · exact .inl rfl
  · exact compact_zero (uq_lt C) m
theorem LQ.next {C L : List Int} (h : LQ C L) : LQ C (padL L) := by
  have hl : (padL L).length = L.length := by unfold padL; have := compact_len L; simp; omega
  refine ⟨by rw [hl]; exact h.1, .inr ?_⟩
  unfold padL
  rcases h.comp with e | e
  · exact ⟨_, by rw [e]⟩
  · refine ⟨L.length - (uq C ++ [0]).length + 1, ?_⟩
    rw [e, List.append_assoc, List.replicate_succ]; rfl
theorem rowP_more {ok : Int → Int → Bool} {l : List Int} {Y : Int} (h0 : (0 : Int) ∈ l) : rowP ok (l ++ [0]) Y = rowP ok l Y := by
  unfold rowP
  rw [List.find?_append]
  cases h : l.find? (fun X => ok X Y) with
  | some X => rfl
  | none =>
    have := List.find?_eq_none.1 h 0 h0
    simp only [Option.none_or]
    have h2 : ok 0 Y = false := by simpa using this
    simp [h2]
theorem LQ.row {C L : List Int} (h : LQ C L) (h0 : (0 : Int) ∈ C) (ok : Int → Int → Bool) (Y : Int) : rowP ok (Lib.compact L) Y = rowP ok (uq C) Y := by
  rcases h.comp with e | e
  · rw [e]
  · rw [e]; exact rowP_more (uq_mem.2 h0)
/-- slices.Compact, with what stays behind in the row -/
theorem compact_row (v : Value) (B : Nat) (zs : List Int) (w : World) (h : RowH w B v zs) (hl : zs.length ≤ 1000000) (hB : B ≤ w.heap.size) :
    Calls Tryz.prog 60 #[v] w fun e w' => ∃ v', e = .returned v' ∧ SI w' v' (Lib.compact zs) ∧ RowH w' B v (padL zs) ∧ v'.ownBlock = v.ownBlock ∧ w.grownBy w' v.ownBlock ∧ ∀ n, n ≤ B → Below n w w' := by
  rcases h with ⟨rfl, rfl⟩ | ⟨g, cap, rfl, h1, h2, h3, h4, h5⟩
  · refine (Tryz.slices_Compact_int_empty none 0 w).mono ?_
    rintro e w' ⟨rfl, rfl⟩
    exact ⟨_, rfl, SI_nil _, .inl ⟨rfl, rfl⟩, rfl, World.grownBy.refl _ _, fun n _ => Below.refl _ _⟩
  · refine (Tryz.slices_Compact_int g 0 cap zs w h1 (by omega) h4).mono ?_
    rintro e w' ⟨rfl, q, rfl⟩
    have hc := compact_len zs
    have hs : (Lib.compact zs ++ List.replicate (zs.length - (Lib.compact zs).length) 0).toArray.size = zs.toArray.size := by simp; omega
    have hh := Sort.holds_putRow (Value.int .i64) (Sort.ahead w q) g 0 zs.toArray _ (Sort.holds_ahead _ w q g 0 _ h1) hs
    have hpl : (padL zs).length = zs.length := by unfold padL; simp; omega
    refine ⟨_, rfl, ⟨_, cap, rfl, by omega, h5, fun i hi => ⟨g, 0, rfl, ?_⟩⟩, .inr ⟨g, cap, by rw [hpl], hh, by rw [Sort.size_putRow]; exact h2, h3, by omega, h5⟩, rfl, ?_, fun n hn => put_below _ (by omega) q _⟩
    · have := (hh i (by simp; omega)).1
      rw [this, getElem!_pos _ i (by simp; omega), List.getElem_toArray, List.getElem_append_left hi]
      dsimp only
      rw [gi_lt hi]
    · refine ⟨rfl, rfl, rfl, by rw [Sort.size_putRow]; exact Nat.le_refl _, fun b hb hne => ?_⟩
      have hb' : b ≠ g := fun e => hne (by rw [e]; rfl)
      unfold Sort.putRow Sort.mapBlock
      simp only [Array.getElem?_modify]
      rw [if_neg (fun e => hb' e.symm)]
      rfl
end Go.Proofs.YtlmfcigabojbmaaGreatDoor

/- Contract: spot of bay. -/
namespace Go.Proofs.YtlmfcigabojbmaaGreatDoor
open Go.RowKit

/-- the closure's world: its point, then x.At stored -/
def PW (w : World) (b : Nat) (X Y : Int) : World := ((w.setCell ⟨b, 2, none⟩ (.int .i64 X)).setCell ⟨b, 3, none⟩ (.int .i64 Y)).alloc (.cells #[.int .i64 X, .int .i64 Y] 48)
theorem spotC_any (bays : List DBay) (bv lv : Value) (l : List Ber) (z : Ber) (X Y : Int) (b1 b2 b3 : Nat) (w : World) (h1 : ObjAt w b1 (syCs z) 50) (g1 : ObjAt (PW w b1 X Y) b1 (syCs (z.put X Y)) 50) (g2 : ObjAt (PW w b1 X Y) b2 #[bv] 23) (g3 : ObjAt (PW w b1 X Y) b3 #[lv] 26)
    (hb : SD (PW w b1 X Y) bv bays) (hl : SB (PW w b1 X Y) lv l) (hm : MLen (PW w b1 X Y)) (hx : z.hull.length ≤ maxLen) (hd : ∀ d ∈ bays, sideD d) (hs : ∀ y ∈ l, SmB y) :
    Calls Tryz.prog 61 #[.agg #[.int .i64 X, .int .i64 Y], .pointer (some ⟨b1, 0, none⟩), .pointer (some ⟨b2, 0, none⟩), .pointer (some ⟨b3, 0, none⟩)] w (Ret (PW w b1 X Y) (.bool (stayE bays l (z.put X Y) == 0))) := by
  have HG1 := Lib.hid g1; have HG2 := Lib.hid g2; have HG3 := Lib.hid g3; have HB := Lib.hid hb; have HL := Lib.hid hl; have HM := Lib.hid hm; have HX := Lib.hid hx; have HD := Lib.hid hd; have HS := Lib.hid hs
  obtain ⟨ba, bn, bc, rfl⟩ : ∃ a n c, bv = .slice a n c := by obtain ⟨a, cap, rfl, _⟩ := hb; exact ⟨_, _, _, rfl⟩
  obtain ⟨la, ln, lc, rfl⟩ : ∃ a n c, lv = .slice a n c := by obtain ⟨a, cap, rfl, _⟩ := hl; exact ⟨_, _, _, rfl⟩
  have hz := h1.lt
  have f2 := obj_free h1 2
  have f3 := obj_free h1 3
  obtain ⟨c0, c1, c2, c3, c4, c5, c6, c7⟩ := syC h1
  have HPW : Hid (((w.setCell ⟨b1, 2, none⟩ (.int .i64 X)).setCell ⟨b1, 3, none⟩ (.int .i64 Y)).alloc (.cells #[.int .i64 X, .int .i64 Y] 48) = PW w b1 X Y) := rfl
  clear g1 g2 g3 hb hl hm hx hd hs h1
  go_enter Tryz.func61, Tryz.ntmps61
  go_upto_region 2 with fail
  rw [HPW.out]
  obtain ⟨W2, hW2⟩ : ∃ W2, PW w b1 X Y = W2 := ⟨_, rfl⟩
  rw [hW2] at HG1 HG2 HG3 HB HL HM ⊢
  have HH2 := Lib.hid hW2
  clear c0 c1 c2 c3 c4 c5 c6 c7 f2 f3 HPW hW2 hz
  obtain ⟨c0, c1, c2, c3, c4, c5, c6, c7⟩ := syC HG1.out
  have k2 : W2.cell? ⟨b2, 0, none⟩ = some (.slice ba bn bc) := HG2.out.cell 0
  have k3 : W2.cell? ⟨b3, 0, none⟩ = some (.slice la ln lc) := HG3.out.cell 0
  go_wp2_with fail
  clear c0 c1 c2 c3 c4 c5 c6 c7 k2 k3
  refine (stay_any _ _ bays l (z.put X Y) W2 HB.out HL.out.y HM.out HX.out HD.out HS.out).mono ?_
  rintro e w3 ⟨rfl, h3⟩
  go_wp2_with fail
  go_ret
  exact ⟨rfl, by rw [HH2.out]; exact h3⟩
theorem enter_spotC : ∀ args w, (callFunc 61 args).run Tryz.prog w = .ok (.enter 61 args) w := enters_of Tryz.func61 (by kernel_rfl) rfl
theorem start_spot (w : World) (bv : Value) (x : Ber) : ∃ W0 W1, Hid (ObjAt W0 w.heap.size #[bv] 23) ∧ Hid (ObjAt W0 (w.heap.size + 1) (syCs x) 50) ∧ Hid (ObjAt W0 (w.heap.size + 1 + 1) (syCs default) 50) ∧ Hid (Below w.heap.size w W0) ∧ Hid (W0.heap.size = w.heap.size + 3) ∧
    Hid (Below W0.heap.size W0 W1) ∧ Hid (ObjAt W1 (w.heap.size + 1 + 1 + 1) #[.slice none 0 0] 26) ∧ Hid (OwnI W1 W0.heap.size (.slice (some ⟨w.heap.size + 1 + 1 + 1 + 1, 0, none⟩) 1 1) [0]) ∧ Hid (OwnI W1 W0.heap.size (.slice (some ⟨w.heap.size + 1 + 1 + 1 + 1 + 1, 0, none⟩) 1 1) [0]) ∧
    Hid ((((((w.alloc (.cells #[bv] 23)).alloc (.cells #[.string (bs x.hull), .string (bs x.dock), .int .i64 x.x, .int .i64 x.y, .int .i64 x.len, .int .i64 x.wid, .int .i64 x.a, .int .i64 x.b] 50)).alloc
      (.cells #[.string ⟨#[]⟩, .string ⟨#[]⟩, .int .i64 0, .int .i64 0, .int .i64 0, .int .i64 0, .int .i64 0, .int .i64 0] 50)).alloc (.cells #[.slice none 0 0] 26)).alloc (.cells #[.int .i64 0] 3)).alloc (.cells #[.int .i64 0] 3) = W1) := by
  have z0 : ((w.alloc (.cells #[bv] 23)).alloc (.cells (syCs x) 50)).heap.size = w.heap.size + 1 + 1 := by simp
  have z1 : (((w.alloc (.cells #[bv] 23)).alloc (.cells (syCs x) 50)).alloc (.cells (syCs default) 50)).heap.size = w.heap.size + 3 := by simp
  have z2 : ((((w.alloc (.cells #[bv] 23)).alloc (.cells (syCs x) 50)).alloc (.cells (syCs default) 50)).alloc (.cells #[.slice none 0 0] 26)).heap.size = w.heap.size + 1 + 1 + 1 + 1 := by simp
  have z3 : (((((w.alloc (.cells #[bv] 23)).alloc (.cells (syCs x) 50)).alloc (.cells (syCs default) 50)).alloc (.cells #[.slice none 0 0] 26)).alloc (.cells #[.int .i64 0] 3)).heap.size = w.heap.size + 1 + 1 + 1 + 1 + 1 := by simp
  have o1 := ObjAt.new (w.alloc (.cells #[bv] 23)) (syCs x) 50
  rw [show (w.alloc (.cells #[bv] 23)).heap.size = w.heap.size + 1 by simp] at o1
  have o2 := ObjAt.new ((w.alloc (.cells #[bv] 23)).alloc (.cells (syCs x) 50)) (syCs default) 50
  rw [z0] at o2
  refine ⟨((w.alloc (.cells #[bv] 23)).alloc (.cells (syCs x) 50)).alloc (.cells (syCs default) 50), _, (((ObjAt.new w #[bv] 23).alloc _).alloc _), o1.alloc _, o2, ?_, z1, ?_, ?_, ?_, ?_, rfl⟩
  · exact ((((Below.refl _ _).alloc (Nat.le_refl _) _).alloc (by simp) _).alloc (by first | (simp; done) | (simp; omega)) _)
  · exact ((((Below.refl _ _).alloc (Nat.le_refl _) _).alloc (by simp) _).alloc (by first | (simp; done) | (simp; omega)) _)
  · have o3 := ObjAt.new (((w.alloc (.cells #[bv] 23)).alloc (.cells (syCs x) 50)).alloc (.cells (syCs default) 50)) #[.slice none 0 0] 26
    rw [z1] at o3
    exact (o3.alloc _).alloc _
  · have := OwnI_one ((((w.alloc (.cells #[bv] 23)).alloc (.cells (syCs x) 50)).alloc (.cells (syCs default) 50)).alloc (.cells #[.slice none 0 0] 26)) (w.heap.size + 3) 0 (by rw [z2]; omega)
    rw [z2] at this
    rw [z1]
    exact OwnI.alloc this _
  · have := OwnI_one (((((w.alloc (.cells #[bv] 23)).alloc (.cells (syCs x) 50)).alloc (.cells (syCs default) 50)).alloc (.cells #[.slice none 0 0] 26)).alloc (.cells #[.int .i64 0] 3)) (w.heap.size + 3) 0 (by rw [z3]; omega)
    rw [z3] at this
    rw [z1]
    exact this
theorem Rows3.set {w : World} {B : Nat} {sb sx sy : Value} {l : List Ber} {xs ys : List Int} (h : Rows3 w B sb sx sy l xs ys) {b : Nat} {cs : Array Value} {e : TypeId} (ho : ObjAt w b cs e) (h1 : 50 ≠ e) (h2 : 3 ≠ e) (k : Nat) (u : Value) : Rows3 (w.setCell ⟨b, k, none⟩ u) B sb sx sy l xs ys :=
  ⟨ho.rowSet h.b h1 k u, ho.rowSet h.x h2 k u, ho.rowSet h.y h2 k u, h.nx, h.ny, h.ne⟩
/-- what the search works with -/
structure P3 (w w' : World) (bv : Value) (bays : List DBay) (x : Ber) (sb sl se : Value) (l : List Ber) (ys L : List Int) (X Y : Int) : Prop where
  fd : SD w' bv bays
  fl : SI w' sl ys
  fe : RowH w' (w.heap.size + 3) se L
  fb : SB w' sb l
  ml : MLen w'
  od : ObjAt w' w.heap.size #[bv] 23
  ox : ObjAt w' (w.heap.size + 1) (syCs (x.put X Y)) 50
  orr : ObjAt w' (w.heap.size + 1 + 1) (syCs default) 50
  ob : ObjAt w' (w.heap.size + 1 + 1 + 1) #[sb] 26
  bw : Below w.heap.size w w'
section
variable {w w' w'' : World} {bv : Value} {bays : List DBay} {x : Ber} {sb sl se : Value} {l : List Ber} {ys L : List Int} {X Y : Int}
theorem MLen.set {w : World} (h : MLen w) {b : Nat} (hb : b ≠ 0) (k : Nat) (u : Value) : MLen (w.setCell ⟨b, k, none⟩ u) := by
  obtain ⟨m, hm⟩ := h
  exact ⟨m, by rw [World.cell?_setCell_other (h := fun e => hb (congrArg Addr.block e))]; exact hm⟩
theorem P3.below (h : P3 w w' bv bays x sb sl se l ys L X Y) (hb : Below w'.heap.size w' w'') : P3 w w'' bv bays x sb sl se l ys L X Y :=
  ⟨h.fd.keep hb, h.fl.keep hb, h.fe.keep hb, h.fb.keep hb, h.ml.keep hb, h.od.keep hb, h.ox.keep hb, h.orr.keep hb, h.ob.keep hb, ext_trans h.bw hb⟩
theorem P3.put (h : P3 w w' bv bays x sb sl se l ys L X Y) (h0 : bays = [] ∨ bv.ownBlock ≠ some (w.heap.size + 1)) (h1 : sl.ownBlock ≠ some (w.heap.size + 1)) (h2 : se.ownBlock ≠ some (w.heap.size + 1)) (h3 : sb.ownBlock ≠ some (w.heap.size + 1)) (h4 : w.heap.size + 1 ≠ 0) (X' Y' : Int) :
    P3 w (PW w' (w.heap.size + 1) X' Y') bv bays x sb sl se l ys L X' Y' := by
  have h' : P3 w ((w'.setCell ⟨w.heap.size + 1, 2, none⟩ (.int .i64 X')).setCell ⟨w.heap.size + 1, 3, none⟩ (.int .i64 Y')) bv bays x sb sl se l ys L X' Y' :=
    ⟨(h.fd.set h0 _ _).set h0 _ _, (h.fl.set h1 _ _).set h1 _ _, (h.fe.set h2 _ _).set h2 _ _, (h.fb.set h3 _ _).set h3 _ _, (h.ml.set h4 _ _).set h4 _ _, (h.od.other (by omega) _ _).other (by omega) _ _, (h.ox.set 2 _).set 3 _, (h.orr.other (by omega) _ _).other (by omega) _ _, (h.ob.other (by omega) _ _).other (by omega) _ _, (h.bw.setCell (p := ⟨w.heap.size + 1, 2, none⟩) (Nat.le_succ _) _).setCell (p := ⟨w.heap.size + 1, 3, none⟩) (Nat.le_succ _) _⟩
  exact h'.below ((Below.refl _ _).alloc (Nat.le_refl _) _)
end
/-- the block of a slice that was there -/
theorem SD.own {w : World} {v : Value} {l : List DBay} (h : SD w v l) {b : Nat} (hb : w.heap.size ≤ b) : l = [] ∨ v.ownBlock ≠ some b := by
  by_cases hl : l = []
  · exact .inl hl
  · right
    obtain ⟨g, off, cap, rfl, _, _, hlt, _⟩ := h.form (by cases l with | nil => exact absurd rfl hl | cons a l => simp)
    intro e
    simp [Value.ownBlock] at e
    omega
theorem SI.grown {w w' : World} {v : Value} {xs : List Int} {row : Option Nat} (h : SI w v xs) (hg : w.grownBy w' row) (hne : v.ownBlock = none ∨ v.ownBlock ≠ row) : SI w' v xs := by
  obtain ⟨a, cap, rfl, h1, h2, h3⟩ := h
  refine ⟨a, cap, rfl, h1, h2, fun i hi => ?_⟩
  obtain ⟨b', off, rfl, hc⟩ := h3 i hi
  exact ⟨b', off, rfl, hg.cell hc (fun e => hne.elim (fun h => by cases h) (fun h => h e))⟩
theorem SB.grown {w w' : World} {v : Value} {l : List Ber} {row : Option Nat} (h : SB w v l) (hg : w.grownBy w' row) (hne : v.ownBlock = none ∨ v.ownBlock ≠ row) : SB w' v l := by
  obtain ⟨a, cap, rfl, h1, h2, h3⟩ := h
  refine ⟨a, cap, rfl, h1, h2, fun i hi => ?_⟩
  obtain ⟨b', off, rfl, hc⟩ := h3 i hi
  have hn : some b' ≠ row := fun e => hne.elim (fun h => by cases h) (fun h => h e)
  exact ⟨b', off, rfl, ⟨hg.cell hc.c0 hn, hg.cell hc.c1 hn, hg.cell hc.c2 hn, hg.cell hc.c3 hn, hg.cell hc.c4 hn, hg.cell hc.c5 hn, hg.cell hc.c6 hn, hg.cell hc.c7 hn⟩⟩
/-- behind slices.Compact -/
theorem P3.comp {w w' w'' : World} {bv : Value} {bays : List DBay} {x : Ber} {sb sl se : Value} {l : List Ber} {ys L L' : List Int} {X Y : Int} (h : P3 w w' bv bays x sb sl se l ys L X Y) (h0 : SD w bv bays) (hm : MLen w) (hr : RowH w'' (w.heap.size + 3) se L') (hg : w'.grownBy w'' se.ownBlock) (hb : ∀ n, n ≤ w.heap.size + 3 → Below n w' w'')
    (n1 : sl.ownBlock = none ∨ sl.ownBlock ≠ se.ownBlock) (n2 : sb.ownBlock = none ∨ sb.ownBlock ≠ se.ownBlock) (n3 : se.ownBlock ≠ some (w.heap.size + 1 + 1 + 1)) : P3 w w'' bv bays x sb sl se l ys L' X Y :=
  have hbw := h.bw.trans (hb _ (Nat.le_add_right _ 3))
  ⟨h0.keep hbw, h.fl.grown hg n1, hr, h.fb.grown hg n2, hm.keep hbw, h.od.below (hb _ (Nat.le_refl _)) (by omega), h.ox.below (hb _ (Nat.le_refl _)) (by omega), h.orr.below (hb _ (Nat.le_refl _)) (by omega), h.ob.grown hg n3, hbw⟩
/-- what spot returns -/
def spotV (bays : List DBay) (l : List Ber) (z : Ber) : Value := match spotF bays l z with
  | some p => .tuple #[.agg (syCs (z.put p.1 p.2)), .bool true]
  | none => .tuple #[.agg (syCs default), .bool false]
theorem spotV_miss {bays : List DBay} {l : List Ber} {z : Ber} (h : ∀ j, j < (uq (candY (besideL l z))).length → rowP (fun X Y => stayE bays (besideL l z) (z.put X Y) == 0) (uq (candX (besideL l z))) (gz (uq (candY (besideL l z))) j) = none) : spotV bays l z = .tuple #[.agg (syCs default), .bool false] := by
  unfold spotV spotF; rw [hitP_miss h]
theorem spotV_hit {bays : List DBay} {l : List Ber} {z : Ber} {k : Nat} {X : Int} (hk : k < (uq (candY (besideL l z))).length) (h : ∀ j, j < k → rowP (fun X Y => stayE bays (besideL l z) (z.put X Y) == 0) (uq (candX (besideL l z))) (gz (uq (candY (besideL l z))) j) = none)
    (h2 : rowP (fun X Y => stayE bays (besideL l z) (z.put X Y) == 0) (uq (candX (besideL l z))) (gz (uq (candY (besideL l z))) k) = some X) : spotV bays l z = .tuple #[.agg (syCs (z.put X (gz (uq (candY (besideL l z))) k))), .bool true] := by
  unfold spotV spotF; rw [hitP_hit hk h h2]
end Go.Proofs.YtlmfcigabojbmaaGreatDoor

/- Contract: spot of bay, the walk. -/
namespace Go.Proofs.YtlmfcigabojbmaaGreatDoor
open Go.RowKit

set_option maxRecDepth 100000 in
set_option maxHeartbeats 2000000 in
theorem spot_any (bv lv : Value) (bays : List DBay) (l : List Ber) (x : Ber) (w : World) (hb : SD w bv bays) (hl : SB w lv l) (hm : MLen w) (hn : l.length ≤ 1000) (hd : ∀ d ∈ bays, sideD d) (hs : ∀ y ∈ l, TiB y) (hx : x.hull.length ≤ maxLen) (hw : 0 < w.heap.size) :
    Calls Tryz.prog 38 #[bv, lv, syV x] w fun e w' => e = .returned (spotV bays l x) ∧ Below w.heap.size w w' := by
  have HSD := Lib.hid hb; have HM := Lib.hid hm; have HD := Lib.hid hd; have HT := Lib.hid hs; have HX := Lib.hid hx; have HW0 := Lib.hid hw
  obtain ⟨ba, bn, bc, rfl⟩ : ∃ a n c, bv = .slice a n c := by obtain ⟨a, cap, rfl, _⟩ := hb; exact ⟨_, _, _, rfl⟩
  obtain ⟨a, cap, rfl, h1, h2, h3⟩ := hl
  have H3 := Lib.hid h3
  clear h3 hb hm hd hs hx hw
  have hm : l.length ≤ 9223372036854775807 := by omega
  unfold syV
  obtain ⟨W0, W1, HD0, HX0, HR0, HB0, HZ0, HB1, HOB, HOY, HOX, HW⟩ := start_spot w (.slice ba bn bc) x
  have HR1 : Hid (Rows3 W1 W0.heap.size (.slice none 0 0) (.slice (some ⟨w.heap.size + 1 + 1 + 1 + 1, 0, none⟩) 1 1) (.slice (some ⟨w.heap.size + 1 + 1 + 1 + 1 + 1, 0, none⟩) 1 1) (besideL (l.take 0) x) (candY (besideL (l.take 0) x)) (candX (besideL (l.take 0) x))) :=
    ⟨OwnB_nil _ _, HOY.out, HOX.out, by simp [Value.ownBlock], by simp [Value.ownBlock], by simp [Value.ownBlock]⟩
  have HZW : Hid (w.heap.size + 1 + 1 + 1 = W0.heap.size) := HZ0.out.symm
  go_enter Tryz.func38, Tryz.ntmps38
  go_wp2_with fail
  rw [HW.out]
  clear HW
  go_loopw [9, 10, 22] (fun sy sx i wr => ∃ k : Nat, k ≤ l.length ∧ i = .int .i64 k ∧ Hid (Below W0.heap.size W0 wr) ∧ Hid (∃ sa sn sc, ObjAt wr (w.heap.size + 1 + 1 + 1) #[.slice sa sn sc] 26 ∧ Rows3 wr W0.heap.size (.slice sa sn sc) sy sx (besideL (l.take k) x) (candY (besideL (l.take k) x)) (candX (besideL (l.take k) x)))) (fun _ _ i _ => l.length - (intOf i).toNat)
  case atStart => exact ⟨0, Nat.zero_le _, rfl, HB1, Lib.hid ⟨_, _, _, HOB.out, HR1.out⟩⟩
  case round =>
    obtain ⟨k, hk, rfl, hb, hr0⟩ := hrel
    obtain ⟨sa, sn, sc, hob, hr1⟩ := hr0.out
    have HBX := Lib.hid hob; have hr := Lib.hid hr1
    clear hob hr1 hr0
    by_cases hlt : k < l.length
    · obtain ⟨b, off, rfl, hc⟩ := H3.out k hlt
      have HBW := Lib.hid (ext_trans HB0.out hb.out)
      obtain ⟨c0, c1, c2, c3, c4, c5, c6, c7⟩ := hc.keep HBW.out
      obtain ⟨W2, HO2, HC2, HW, HZ2⟩ := copyB wr (bri l k)
      have HB2 := Lib.hid (ext_trans hb.out HC2.out)
      have HR2 := Lib.hid (hr.out.below HC2.out)
      have HBX2 := Lib.hid (HBX.out.keep HC2.out)
      clear hc
      go_upto_region 6 with fail
      rw [HW.out]
      clear c0 c1 c2 c3 c4 c5 c6 c7 HW
      refine wp_region_et dkT dkT_ok [berO wr.heap.size 0 (bri l k), berO (w.heap.size + 1) 0 x] (fun v => v = W2) [(12, 0), (5, 1)] [] [(48, .bool ((bri l k).dock == x.dock && meetT x (bri l k)))] (by kernel_rfl) rfl (obs2 (fun v hv => by subst hv; exact range_new HO2.out) (fun v hv => by subst hv; exact range_new (HX0.out.keep HB2.out))) ⟨rfl, rfl, trivial⟩ ?_
      conv => whnf
      intro f1
      conv => whnf
      refine And.intro ?_ ?_
      · refine congrArg Value.bool ?_
        rw [bs_eq]
        unfold meetT
        rw [Bool.and_assoc]
      conv => whnf
      intro w' hw'
      subst hw'
      have HBS := Lib.hid (beside_snoc (l.take k) (bri l k) x)
      rw [← take_bri hlt] at HBS
      obtain ⟨mt, hmt⟩ : ∃ mt, ((bri l k).dock == x.dock && meetT x (bri l k)) = mt := ⟨_, rfl⟩
      rw [hmt]
      rw [hmt] at HBS
      clear hmt
      cases mt
      · have HBE : Hid (besideL (l.take (k + 1)) x = besideL (l.take k) x) := by show _ = _; rw [HBS.out, if_neg (by decide)]
        have HR3 : Hid (∃ sa sn sc, ObjAt w' (w.heap.size + 1 + 1 + 1) #[.slice sa sn sc] 26 ∧ Rows3 w' W0.heap.size (.slice sa sn sc) u9 u10 (besideL (l.take (k + 1)) x) (candY (besideL (l.take (k + 1)) x)) (candX (besideL (l.take (k + 1)) x))) := by
          show ∃ _, _; rw [HBE.out]; exact ⟨_, _, _, HBX2.out, HR2.out⟩
        clear HBX2 HR2 HBX hr
        go_wp2_with fail
        go_roundw
        case rel => exact ⟨k + 1, by omega, by go_num, HB2, HR3⟩
        case measure => simp [intOf]; omega
      have HBE : Hid (besideL (l.take (k + 1)) x = besideL (l.take k) x ++ [bri l k]) := by show _ = _; rw [HBS.out, if_pos rfl]
      obtain ⟨p0, p1, p2, p3, p4, p5, p6, p7⟩ := syC HO2.out
      have hbx : w'.cell? ⟨w.heap.size + 1 + 1 + 1, 0, none⟩ = some (.slice sa sn sc) := HBX2.out.cell 0
      have HLN := Lib.hid (show (besideL (l.take k) x).length ≤ k from Nat.le_trans (beside_len _ _) (by rw [List.length_take]; omega))
      have hzw : W0.heap.size ≤ w'.heap.size := HB2.out.size
      have HOA := Lib.hid (HR2.out.b.alloc (.cells #[.string (bs (bri l k).hull), .string (bs (bri l k).dock), .int .i64 (bri l k).x, .int .i64 (bri l k).y, .int .i64 (bri l k).len, .int .i64 (bri l k).wid, .int .i64 (bri l k).a, .int .i64 (bri l k).b] 50))
      have HSA := Lib.hid (sB_one (bAt_new w' (bri l k) 50))
      unfold syCs at HSA
      have HL1 : Hid ((besideL (l.take k) x).length + ([bri l k] : List Ber).length ≤ 1000000) := by show _ ≤ _; have := HLN.out; simp only [List.length_singleton]; omega
      have HNB := Lib.hid (HBX2.out.ne HR2.out.b (by decide))
      go_wp2_with (at_builtin; refine wpList_app_B rfl (.tmp 49) (.tmp 51) rfl W0.heap.size _ (besideL (l.take k) x) [bri l k] rfl HOA.out ⟨w'.heap.size, 0, none⟩ 1 1 rfl HSA.out HL1.out ?c4 ?_)
      case c4 => first | omega | (simp; omega)
      intro v1 w1 ho1 hg1 _
      obtain ⟨g1, n1, c1, rfl⟩ : ∃ a n c, v1 = .slice a n c := by obtain ⟨a, c, e, _⟩ := ho1.s; exact ⟨_, _, _, e⟩
      have HR3 := Lib.hid ((HR2.out.alloc _).appB ho1 hg1)
      have HB3 := Lib.hid (grown_below HB2.out (fun q hq => (OwnB.lt HR2.out.b q hq).1) _ hg1)
      have HO3 := Lib.hid ((HO2.out.alloc _).grown hg1 (fun e => by have := (OwnB.lt hr.out.b _ e).2; omega))
      have HBX3 := Lib.hid ((HBX2.out.alloc _).grown hg1 HNB.out)
      have hbl : w.heap.size + 1 + 1 + 1 < wr.heap.size := HBX.out.lt
      clear p0 p1 p2 p3 p4 p5 p6 p7 hbx ho1 hg1 HOA HSA HBX2 HR2 HO2
      have k8 : w1.cell? ⟨w.heap.size + 1 + 1 + 1, 0, none⟩ = some (.slice sa sn sc) := HBX3.out.cell 0
      have f8 : w1.frozen? ⟨w.heap.size + 1 + 1 + 1, 0, none⟩ = false := obj_free HBX3.out 0
      go_upto_region 8 with fail
      clear k8 f8
      obtain ⟨W3, hW3⟩ : ∃ W3, w1.setCell ⟨w.heap.size + 1 + 1 + 1, 0, none⟩ (.slice g1 n1 c1) = W3 := ⟨_, rfl⟩
      have HR4 : Hid (Rows3 W3 W0.heap.size (.slice g1 n1 c1) u9 u10 (besideL (l.take k) x ++ [bri l k]) (candY (besideL (l.take k) x)) (candX (besideL (l.take k) x))) := by rw [← hW3]; exact HR3.out.set HBX3.out (by decide) (by decide) 0 _
      have HO4 : Hid (ObjAt W3 wr.heap.size (syCs (bri l k)) 50) := by rw [← hW3]; exact HO3.out.other (by omega) _ _
      have HBX4 : Hid (ObjAt W3 (w.heap.size + 1 + 1 + 1) #[.slice g1 n1 c1] 26) := by rw [← hW3]; exact HBX3.out.set 0 _
      have HB4 : Hid (Below W0.heap.size W0 W3) := by rw [← hW3]; exact HB3.out.setCell (p := ⟨w.heap.size + 1 + 1 + 1, 0, none⟩) (Nat.le_of_eq HZW.out.symm) _
      rw [hW3]
      clear hW3 HR3 HO3 HBX3 HB3
      have ti := HT.out _ (bri_mem hlt)
      obtain ⟨t0, t1, t2, t3, t4, t5, t6, t7⟩ := ti
      obtain ⟨a9, n9, c9, rfl⟩ : ∃ a n c, u9 = .slice a n c := by obtain ⟨a, c, e, _⟩ := (RowH.of HR4.out.x).si; exact ⟨_, _, _, e⟩
      obtain ⟨a10, n10, c10, rfl⟩ : ∃ a n c, u10 = .slice a n c := by obtain ⟨a, c, e, _⟩ := (RowH.of HR4.out.y).si; exact ⟨_, _, _, e⟩
      refine wp_region_tw dkT dkT_ok [berO wr.heap.size 0 (bri l k)] [(12, 0)] [] [] 7 8 18 16 17 19 60 61 9 53 59 69 70 10 62 68 [60, 61, 69, 70, 9, 10] (.slice g1 n1 c1) (besideL (l.take k) x ++ [bri l k]) (.slice a9 n9 c9) (.slice a10 n10 c10) (candY (besideL (l.take k) x)) (candX (besideL (l.take k) x)) ((bri l k).y + (bri l k).wid) ((bri l k).x + (bri l k).len) W0.heap.size W0 [⟨wr.heap.size, syCs (bri l k), 50⟩, ⟨w.heap.size + 1 + 1 + 1, #[.slice g1 n1 c1], 26⟩] (by kernel_rfl) mixed (by kernel_rfl) rfl (by constructor <;> decide)
        ⟨⟨_, rfl, rfl, rfl⟩, ⟨_, rfl, rfl, rfl, ⟨7, .data⟩, by simp, rfl, rfl⟩, ⟨_, rfl, rfl, rfl, ⟨8, .data⟩, by simp, rfl, rfl⟩⟩ ⟨⟨_, rfl, rfl, rfl⟩, ⟨_, rfl, rfl, rfl, ⟨16, .data⟩, by simp, rfl, rfl⟩, ⟨_, rfl, rfl, rfl, ⟨17, .data⟩, by simp, rfl, rfl⟩⟩
        ⟨HB4.out, fun o ho => by simp only [List.mem_cons, List.not_mem_nil, or_false] at ho; exact ho.elim (fun e => by subst e; exact HO4.out) (fun e => by subst e; exact HBX4.out)⟩ rfl (fun o ho => by simp only [List.mem_cons, List.not_mem_nil, or_false] at ho; exact ho.elim (fun e => by subst e; show 3 ≠ 50; decide) (fun e => by subst e; show 3 ≠ 26; decide)) HR4.out
        (by have := HLN.out; unfold candY; simp only [List.length_cons, List.length_map]; omega) (by have := HLN.out; unfold candX; simp only [List.length_cons, List.length_map]; omega) (obs1 fun v hv => range_new (hv.2 _ (List.mem_cons_self ..))) ⟨rfl, trivial⟩ ?_
      conv => whnf
      refine And.intro (under_of (by show _ ≤ (bri l k).y + (bri l k).wid ∧ (bri l k).y + (bri l k).wid ≤ _; omega)) ?_
      conv => whnf
      refine And.intro (under_of (by show _ ≤ (bri l k).x + (bri l k).len ∧ (bri l k).x + (bri l k).len ≤ _; omega)) ?_
      conv => whnf
      refine And.intro (And.intro ⟨_, rfl⟩ ⟨_, rfl⟩) (And.intro (And.intro ⟨_, rfl⟩ ⟨_, rfl⟩) ?_)
      intro f2 v8 v9
      conv => whnf
      intro w5 hC5 hV5
      have HB5 := Lib.hid hC5.1
      have HR5 : Hid (∃ sa sn sc, ObjAt w5 (w.heap.size + 1 + 1 + 1) #[.slice sa sn sc] 26 ∧ Rows3 w5 W0.heap.size (.slice sa sn sc) v8 v9 (besideL (l.take (k + 1)) x) (candY (besideL (l.take (k + 1)) x)) (candX (besideL (l.take (k + 1)) x))) := by
        show ∃ _, _
        refine ⟨_, _, _, hC5.2 ⟨w.heap.size + 1 + 1 + 1, #[.slice g1 n1 c1], 26⟩ (by simp), ?_⟩
        rw [HBE.out]; unfold candX candY at *
        rw [List.map_append, List.map_append]
        exact hV5
      clear hC5 hV5 t0 t1 t2 t3 t4 t5 t6 t7 HR4 HO4 HBX4 HB4 HBX hr
      go_wp2_with fail
      go_roundw
      case rel => exact ⟨k + 1, by omega, by go_num, HB5, HR5⟩
      case measure => simp [intOf]; omega
    · obtain rfl : k = l.length := by omega
      have HR : Hid (Rows3 wr W0.heap.size (.slice sa sn sc) u9 u10 (besideL l x) (candY (besideL l x)) (candX (besideL l x))) := by have := hr.out; rw [List.take_length] at this; exact this
      have HLN := Lib.hid (beside_len l x)
      clear hr
      go_wp2_with fail
      refine (sort_any _ W0.heap.size _ _ (RowH.of HR.out.x) (by have := HLN.out; unfold candY; simp only [List.length_cons, List.length_map]; omega)).mono ?_
      rintro e w1 ⟨rfl, hx1, hb1, hg1⟩
      have HY1 := Lib.hid hx1
      have HX1 : Hid (OwnI w1 W0.heap.size u10 (candX (besideL l x))) := World.ownsRow.kept HR.out.y hg1 (.inr (fun e => HR.out.ne e.symm))
      have HS1 := Lib.hid (HR.out.keepB hg1)
      have N1 := Lib.hid (owns_ne HR.out.b HR.out.y (by decide))
      have N2 := Lib.hid (owns_ne HR.out.b HR.out.x (by decide))
      have N3 : Hid (u9.ownBlock ≠ u10.ownBlock) := HR.out.ne
      have N4 := Lib.hid (HBX.out.ne HR.out.y (by decide))
      have N5 := Lib.hid (HBX.out.ne HR.out.x (by decide))
      have NX : Hid (u10.ownBlock ≠ some (w.heap.size + 1)) := fun e => by have := (World.ownsRow.lt HR.out.y _ e).1; have := HZ0.out; omega
      have NY : Hid (u9.ownBlock ≠ some (w.heap.size + 1)) := fun e => by have := (World.ownsRow.lt HR.out.x _ e).1; have := HZ0.out; omega
      have NB : Hid ((Value.slice sa sn sc).ownBlock ≠ some (w.heap.size + 1)) := fun e => by have := (OwnB.lt HR.out.b _ e).1; have := HZ0.out; omega
      have HBX1 := Lib.hid (HBX.out.grown hg1 N5.out)
      have HB2 := Lib.hid (hb.out.trans (hb1 _ (Nat.le_refl _) hb.out.size))
      clear hx1 hb1 hg1 HR HBX
      go_wp2_with fail
      refine (sort_any _ W0.heap.size _ _ (RowH.of HX1.out) (by have := HLN.out; unfold candX; simp only [List.length_cons, List.length_map]; omega)).mono ?_
      rintro e w2 ⟨rfl, hy2, hb2, hg2⟩
      have HX2 := Lib.hid hy2
      have HY2 := Lib.hid (HY1.out.kept hg2 N3.out)
      have HS2 : Hid (OwnB w2 W0.heap.size (.slice sa sn sc) (besideL l x)) := World.ownsRow.kept HS1.out hg2 N1.out
      have HBX2 := Lib.hid (HBX1.out.grown hg2 N4.out)
      have HB3 := Lib.hid (HB2.out.trans (hb2 _ (Nat.le_refl _) HB2.out.size))
      clear hy2 hb2 hg2 HX1 HY1 HS1 HBX1 HB2
      go_wp2_with fail
      refine (compact_row _ W0.heap.size _ _ HY2.out (by rw [sortL_len]; have := HLN.out; unfold candY; simp only [List.length_cons, List.length_map]; omega) HB3.out.size).mono ?_
      rintro e w3 ⟨lv', rfl, hsi, _, hown, hg3, hb3⟩
      have HY3 : Hid (SI w3 lv' (uq (candY (besideL l x)))) := hsi
      have HX3 := Lib.hid (HX2.out.kept hg3 (fun e => N3.out e.symm))
      have HS3 : Hid (SB w3 (.slice sa sn sc) (besideL l x)) := OwnB.s (World.ownsRow.kept HS2.out hg3 N2.out)
      have HBX3 := Lib.hid (HBX2.out.grown hg3 N5.out)
      have HB4 := Lib.hid (HB3.out.trans (hb3 _ (Nat.le_refl _)))
      have HBW := Lib.hid (ext_trans HB0.out HB4.out)
      have HP0 : Hid (∃ L X Y, LQ (candX (besideL l x)) L ∧ P3 w w3 (.slice ba bn bc) bays x (.slice sa sn sc) lv' u10 (besideL l x) (uq (candY (besideL l x))) L X Y) :=
        ⟨_, x.x, x.y, LQ.start _, HSD.out.keep HBW.out, HY3.out, by rw [show w.heap.size + 3 = W0.heap.size from HZ0.out.symm]; exact HX3.out, HS3.out, HM.out.keep HBW.out, HD0.out.keep HB4.out, HX0.out.keep HB4.out, HR0.out.keep HB4.out, HBX3.out, HBW.out⟩
      have NL : Hid (lv'.ownBlock ≠ u10.ownBlock) := by show _; rw [hown]; exact N3.out
      have NL2 : Hid (lv'.ownBlock ≠ some (w.heap.size + 1)) := by show _; rw [hown]; exact NY.out
      have ND : Hid (bays = [] ∨ (Value.slice ba bn bc).ownBlock ≠ some (w.heap.size + 1)) := HSD.out.own (Nat.le_succ _)
      have NM : Hid (w.heap.size + 1 ≠ 0) := by show _ ≠ _; have := HW0.out; omega
      have HQX := Lib.hid (fun L h => LQ.row (C := candX (besideL l x)) (L := L) h (by unfold candX; exact List.mem_cons_self ..) (fun X Y => stayE bays (besideL l x) (x.put X Y) == 0))
      have HCL : Hid ((candX (besideL l x)).length ≤ 1001) := by show _ ≤ _; have := HLN.out; unfold candX; simp only [List.length_cons, List.length_map]; omega
      have HMISS := Lib.hid (spotV_miss (bays := bays) (l := l) (z := x))
      have HHIT := Lib.hid (fun k X => spotV_hit (bays := bays) (l := l) (z := x) (k := k) (X := X))
      have n2 : (uq (candY (besideL l x))).length ≤ 1001 := by have := uq_len (candY (besideL l x)); have := HLN.out; unfold candY at *; simp only [List.length_cons, List.length_map] at *; omega
      obtain ⟨Ys, hYs⟩ : ∃ Ys, uq (candY (besideL l x)) = Ys := ⟨_, rfl⟩
      rw [hYs] at HY3 HP0 HMISS HHIT n2
      have hy := HY3.out
      obtain ⟨ya, yc, rfl, y1, y2, y3⟩ := hy
      clear hYs HX2 HY2 HS2 HBX2 HX3 HY3 HS3 HBX3 HB3 HB4 hsi hg3 hb3 hown y3
      unfold maxLen at y2
      go_wp2_with fail
      go_loopw [80] (fun i wr => ∃ j : Nat, j ≤ Ys.length ∧ i = .int .i64 j ∧ Hid (∃ L X Y, LQ (candX (besideL l x)) L ∧ P3 w wr (.slice ba bn bc) bays x (.slice sa sn sc) (.slice ya Ys.length yc) u10 (besideL l x) Ys L X Y) ∧ Hid (∀ j', j' < j → rowP (fun X Y => stayE bays (besideL l x) (x.put X Y) == 0) (uq (candX (besideL l x))) (gz Ys j') = none)) (fun i _ => Ys.length - (intOf i).toNat)
      case atStart => exact ⟨0, Nat.zero_le _, rfl, HP0, Lib.hid fun j hj => by omega⟩
      case round =>
        obtain ⟨j, hj, rfl, hp, hf⟩ := hrel
        by_cases hlt : j < Ys.length
        · obtain ⟨L, X0, Y0, hlq, hp1⟩ := hp.out
          have hy := hp1.fl
          obtain ⟨yb, yo, rfl⟩ : ∃ b o, ya = some ⟨b, o, none⟩ := by
            obtain ⟨a', c', e', q1, q2, q3⟩ := hy
            obtain ⟨b', o', h', _⟩ := q3 j hlt
            simp only [Value.slice.injEq] at e'
            exact ⟨b', o', by rw [e'.1, h']⟩
          have hyc := hy.at' hlt
          have HP1 := Lib.hid hp1; have HLQ := Lib.hid hlq
          clear hy hp1 hlq hp
          go_wp2_with fail
          clear hyc
          refine (compact_row _ (w.heap.size + 3) L _ HP1.out.fe (by rw [HLQ.out.1]; have := HCL.out; omega) (by have := HP1.out.ob.lt; omega)).mono ?_
          rintro e w4 ⟨ev, rfl, hes, her, heo, heg, heb⟩
          have HP2 := Lib.hid (HP1.out.comp HSD.out HM.out her heg heb (.inr NL.out) N1.out N4.out)
          have HEV : Hid (SI w4 ev (Lib.compact L)) := hes
          have NE : Hid (ev.ownBlock ≠ some (w.heap.size + 1)) := by show _; rw [heo]; exact NX.out
          have HLQ2 := Lib.hid HLQ.out.next
          have HRW := Lib.hid (HQX.out L HLQ.out (gz Ys j))
          have n3 : (Lib.compact L).length ≤ 1001 := by have := compact_len L; have := HLQ.out.1; have := HCL.out; omega
          obtain ⟨Ls, hLs⟩ : ∃ Ls, Lib.compact L = Ls := ⟨_, rfl⟩
          obtain ⟨Lp, hLp⟩ : ∃ Lp, padL L = Lp := ⟨_, rfl⟩
          rw [hLs] at HEV HRW n3
          rw [hLp] at HP2 HLQ2
          obtain ⟨ea, ec, rfl, e1, e2, e3⟩ := HEV.out
          clear hLs hLp hes her heo heg heb HP1 HLQ e3
          unfold maxLen at e2
          go_wp2_with fail
          go_loopw [87] (fun i wr => ∃ i' : Nat, i' ≤ Ls.length ∧ i = .int .i64 i' ∧ Hid (∃ X Y, P3 w wr (.slice ba bn bc) bays x (.slice sa sn sc) (.slice (some ⟨yb, yo, none⟩) Ys.length yc) u10 (besideL l x) Ys Lp X Y) ∧ Hid (SI wr (.slice ea Ls.length ec) Ls) ∧ Hid (∀ j', j' < i' → (stayE bays (besideL l x) (x.put (gz Ls j') (gz Ys j)) == 0) = false)) (fun i _ => Ls.length - (intOf i).toNat)
          case atStart => exact ⟨0, Nat.zero_le _, rfl, Lib.hid ⟨_, _, HP2.out⟩, HEV, Lib.hid fun j hj => by omega⟩
          case round =>
            obtain ⟨i, hi, rfl, hp2, hev, hf2⟩ := hrel
            by_cases hlt2 : i < Ls.length
            · obtain ⟨X1, Y1, hp3⟩ := hp2.out
              have hx := hev.out
              obtain ⟨xb, xo, rfl⟩ : ∃ b o, ea = some ⟨b, o, none⟩ := by
                obtain ⟨a', c', e', q1, q2, q3⟩ := hx
                obtain ⟨b', o', h', _⟩ := q3 i hlt2
                simp only [Value.slice.injEq] at e'
                exact ⟨b', o', by rw [e'.1, h']⟩
              have hxc := hx.at' hlt2
              have HP3 := Lib.hid hp3
              clear hx hp3 hp2
              go_wp2_with fail
              clear hxc
              have HP := Lib.hid (HP3.out.put ND.out NL2.out NX.out NB.out NM.out (gi Ls i) (gi Ys j))
              have HE6 : Hid (SI (PW wr (w.heap.size + 1) (gi Ls i) (gi Ys j)) (.slice (some ⟨xb, xo, none⟩) Ls.length ec) Ls) := ((hev.out.set NE.out _ _).set NE.out _ _).keep ((Below.refl _ _).alloc (Nat.le_refl _) _)
              have HBS : Hid (∀ u ∈ besideL l x, SmB u) := fun u hu => (HT.out u (beside_mem hu)).sm
              refine (spotC_any bays _ _ (besideL l x) (x.put X1 Y1) (gi Ls i) (gi Ys j) (w.heap.size + 1) w.heap.size (w.heap.size + 1 + 1 + 1) wr HP3.out.ox HP.out.ox HP.out.od HP.out.ob HP.out.fd HP.out.fb HP.out.ml HX.out HD.out HBS.out).mono ?_
              rintro e w5 ⟨rfl, h5⟩
              rw [show (x.put X1 Y1).put (gi Ls i) (gi Ys j) = x.put (gi Ls i) (gi Ys j) from rfl]
              have HP5 := Lib.hid (HP.out.below h5)
              have HE7 := Lib.hid (HE6.out.keep h5)
              clear h5 HP HE6 HP3 hev
              obtain ⟨tk, htk⟩ : ∃ tk, (stayE bays (besideL l x) (x.put (gi Ls i) (gi Ys j)) == 0) = tk := ⟨_, rfl⟩
              rw [htk]
              have HTK := Lib.hid htk
              clear htk
              cases tk
              · have HJ := Lib.hid (upto (q := fun j' => (stayE bays (besideL l x) (x.put (gz Ls j') (gz Ys j)) == 0) = false) hf2.out HTK.out)
                have HQ : Hid (∃ X Y, P3 w w5 (.slice ba bn bc) bays x (.slice sa sn sc) (.slice (some ⟨yb, yo, none⟩) Ys.length yc) u10 (besideL l x) Ys Lp X Y) := ⟨_, _, HP5.out⟩
                clear HTK HP5
                go_wp2_with fail
                go_roundw
                case rel => exact ⟨i + 1, by omega, by go_num, HQ, HE7, HJ⟩
                case measure => simp [intOf]; omega
              · have HV : Hid (spotV bays l x = .tuple #[.agg (syCs (x.put (gi Ls i) (gi Ys j))), .bool true]) := HHIT.out j _ hlt hf.out (by rw [← HRW.out]; exact rowP_hit hlt2 hf2.out HTK.out)
                have HO := Lib.hid HP5.out.orr
                have HB := Lib.hid HP5.out.bw
                obtain ⟨c0, c1, c2, c3, c4, c5, c6, c7⟩ := syC HP5.out.ox
                clear HTK HP5
                go_wp2_with (refine wpList_store_row (o := ⟨none, .store _ _ _, _, _, _, _⟩) rfl 50 (.tmp 6) (.tmp 96) rfl (w.heap.size + 1 + 1) (syCs (x.put (gi Ls i) (gi Ys j))) rfl rfl 50 _ HO.out info_Berth rfl (one_ber _) ?_)
                refine bodyPost_ret (v := .tuple #[.agg (syCs (x.put (gi Ls i) (gi Ys j))), .bool true]) (results_two Tryz.results38 rfl rfl (load_Ber (setRow_heap _ _ _ _ _ _ HO.out))) rfl ⟨by rw [HV.out], below_setRow HB.out (by omega) _⟩
            · obtain rfl : i = Ls.length := by omega
              have HJ := Lib.hid (upto (q := fun j' => rowP (fun X Y => stayE bays (besideL l x) (x.put X Y) == 0) (uq (candX (besideL l x))) (gz Ys j') = none) hf.out (by
                rw [← HRW.out]; exact rowP_miss hf2.out))
              have HQ : Hid (∃ L X Y, LQ (candX (besideL l x)) L ∧ P3 w wr (.slice ba bn bc) bays x (.slice sa sn sc) (.slice (some ⟨yb, yo, none⟩) Ys.length yc) u10 (besideL l x) Ys L X Y) := by
                obtain ⟨X, Y, h⟩ := hp2.out
                exact ⟨Lp, X, Y, HLQ2.out, h⟩
              clear hp2
              go_wp2_with fail
              go_roundw
              case rel => exact ⟨j + 1, by omega, by go_num, HQ, HJ⟩
              case measure => simp [intOf]; omega
        · obtain rfl : j = Ys.length := by omega
          obtain ⟨L, X, Y, _, hp1⟩ := hp.out
          have HO := Lib.hid hp1.orr
          have HB := Lib.hid hp1.bw
          have HV : Hid (spotV bays l x = .tuple #[.agg (syCs default), .bool false]) := HMISS.out hf.out
          clear hp1 hp
          go_wp2_with (refine wpList_store_row (o := ⟨none, .store _ _ _, _, _, _, _⟩) rfl 50 (.tmp 6) (.tmp 99) rfl (w.heap.size + 1 + 1) (syCs default) rfl rfl 50 _ HO.out info_Berth rfl (one_ber _) ?_)
          refine bodyPost_ret (v := .tuple #[.agg (syCs default), .bool false]) (results_two Tryz.results38 rfl rfl (load_Ber (setRow_heap _ _ _ _ _ _ HO.out))) rfl ⟨by rw [HV.out], below_setRow HB.out (by omega) _⟩
end Go.Proofs.YtlmfcigabojbmaaGreatDoor

/- Contract: starts of bay, with a word on where the answer lies. -/
namespace Go.Proofs.YtlmfcigabojbmaaGreatDoor
open Go.RowKit

def RetTn (w : World) (zs : List Int) (e : Ending) (w' : World) : Prop := ∃ v, e = .returned v ∧ SI w' v (uq zs) ∧ Below w.heap.size w w' ∧ ∀ q, v.ownBlock = some q → w.heap.size ≤ q
theorem done_tn {w wr : World} {v : Value} {zs : List Int} (ho : OwnI wr w.heap.size v zs) (hb : Below w.heap.size w wr) (hl : zs.length ≤ 1000000) :
    Calls Tryz.prog 59 #[v] wr fun e w' => e = .returned (.tuple #[]) ∧ Calls Tryz.prog 60 #[v] w' (RetTn w zs) :=
  (sort_any v w.heap.size zs wr (RowH.of ho) hl).mono fun e w' ⟨he, h1, h2⟩ => ⟨he, (compact_row v w.heap.size (sortL zs) w' h1 (by rw [sortL_len]; exact hl) ((hb.trans (h2.1 _ (Nat.le_refl _) hb.size)).size)).mono fun e' w2 ⟨v', e1, e2, _, e4, _, e3⟩ => ⟨v', e1, e2, (hb.trans (h2.1 _ (Nat.le_refl _) hb.size)).trans (e3 _ (Nat.le_refl _)), fun q hq => (World.ownsRow.lt ho q (by rw [← e4]; exact hq)).1⟩⟩
set_option maxRecDepth 100000 in
set_option maxHeartbeats 1000000 in
theorem starts_new (v : Value) (l : List Ber) (first : Int) (w : World) (h : SB w v l) (hn : l.length ≤ 100000) : Calls Tryz.prog 37 #[v, .int .i64 first] w (RetTn w (endsL l first)) := by
  obtain ⟨a, cap, rfl, h1, h2, h3⟩ := h
  have H3 := Lib.hid h3; clear h3
  have hm : l.length ≤ 9223372036854775807 := by omega
  go_enter Tryz.func37, Tryz.ntmps37
  go_wp2_with fail
  have HB0 := Lib.hid ((Below.refl w.heap.size w).alloc (Nat.le_refl _) (.cells #[.int .i64 first] 3))
  have HO0 := Lib.hid (OwnI_one w w.heap.size first (Nat.le_refl _))
  go_loopw [5, 12] (fun s i wr => ∃ k : Nat, k ≤ l.length ∧ i = .int .i64 k ∧ Hid (Below w.heap.size w wr) ∧ Hid (OwnI wr w.heap.size s (endsL (l.take k) first))) (fun _ i _ => l.length - (intOf i).toNat)
  case atStart => exact ⟨0, Nat.zero_le _, rfl, HB0, HO0⟩
  case round =>
    obtain ⟨k, hk, rfl, hb, ho⟩ := hrel
    by_cases hlt : k < l.length
    · obtain ⟨b, off, rfl, hc⟩ := H3.out k hlt
      obtain ⟨c0, c1, c2, c3, c4, c5, c6, c7⟩ := hc.keep hb.out
      obtain ⟨W1, HO1, HC1, HW, HZ⟩ := copyB wr (bri l k)
      have HB1 := Lib.hid (ext_trans hb.out HC1.out)
      have HOW := Lib.hid (ho.out.below HC1.out)
      have HF : Hid (endsL (l.take (k + 1)) first = if decide (first < (bri l k).b) = true then endsL (l.take k) first ++ [(bri l k).b] else endsL (l.take k) first) := by
        show _ = _; unfold endsL; rw [take_bri hlt, filter_snoc]; split <;> rfl
      have HLEN : Hid ((endsL (l.take k) first).length + ([(bri l k).b] : List Int).length ≤ 100000000) := by
        show _ ≤ _
        have := filter_len (fun u : Ber => decide (first < u.b)) (·.b) (l.take k)
        rw [List.length_take] at this
        unfold endsL; simp only [List.length_cons, List.length_nil]; omega
      clear hc
      go_upto_region 5 with fail
      rw [HW.out]
      clear c0 c1 c2 c3 c4 c5 c6 c7 HW
      obtain ⟨p0, p1, p2, p3, p4, p5, p6, p7⟩ := syC HO1.out
      have hz1 : wr.heap.size < W1.heap.size := HZ.out
      have hz2 : w.heap.size ≤ W1.heap.size := HB1.out.size
      obtain ⟨ex, hex⟩ : ∃ ex, decide (first < (bri l k).b) = ex := ⟨_, rfl⟩
      cases ex
      · have HO' : Hid (OwnI W1 w.heap.size u5 (endsL (l.take (k + 1)) first)) := by show _; rw [HF.out, hex, if_neg (by decide)]; exact HOW.out
        go_wp2_with fail
        go_roundw
        case rel => exact ⟨k + 1, by omega, by go_num, HB1, HO'⟩
        case measure => simp [intOf]; omega
      · have HX : Hid (decide (first < (bri l k).b) = true) := hex
        have HOA := Lib.hid (HOW.out.alloc (.cells #[.int .i64 (bri l k).b] 3))
        have HSA := Lib.hid (SI_one W1 (bri l k).b 3)
        go_wp2_with (at_builtin; refine wpList_app_int rfl (.tmp 21) (.tmp 25) rfl w.heap.size _ _ (endsL (l.take k) first) [(bri l k).b] rfl rfl HOA.out HSA.out HLEN.out ?c4 ?_)
        case c4 => first | omega | (simp; omega)
        intro v' w' ho' hg' _
        have HB' := Lib.hid (grown_below HB1.out (fun q hq => (World.ownsRow.lt HOW.out q hq).1) _ hg')
        have HO' : Hid (OwnI w' w.heap.size v' (endsL (l.take (k + 1)) first)) := by show _; rw [HF.out, if_pos HX.out]; exact ho'
        clear ho' hg' hex p0 p1 p2 p3 p4 p5 p6 p7
        go_wp2_with fail
        go_roundw
        case rel => exact ⟨k + 1, by omega, by go_num, HB', HO'⟩
        case measure => simp [intOf]; omega
    · obtain rfl : k = l.length := by omega
      have HO : Hid (OwnI wr w.heap.size u5 (endsL l first)) := by have := ho.out; rw [List.take_length] at this; exact this
      have HLN : Hid ((endsL l first).length ≤ 1000000) := by show _ ≤ _; have := filter_len (fun u : Ber => decide (first < u.b)) (·.b) l; unfold endsL; simp only [List.length_cons]; omega
      go_wp2_with fail
      refine (done_tn HO.out hb.out HLN.out).mono ?_
      rintro e w1 ⟨rfl, hcmp⟩
      have HCMP := Lib.hid hcmp; clear hcmp
      go_wp2_with fail
      refine HCMP.out.mono ?_
      rintro e w2 ⟨v2, rfl, hs2, hb2, hf2⟩
      have HF2 := Lib.hid hf2; clear hf2
      have HS2 := Lib.hid hs2; have HB2 := Lib.hid hb2; clear hs2 hb2
      go_wp2_with fail
      go_ret
      exact ⟨_, rfl, HS2.out, HB2.out, HF2.out⟩
end Go.Proofs.YtlmfcigabojbmaaGreatDoor

/- Contract: Fit of bay. -/
namespace Go.Proofs.YtlmfcigabojbmaaGreatDoor
open Go.RowKit

/-- sizes and times that can be asked for -/
def askB (x : Ber) (hours : Int) : Bool := sideB x.len && sideB x.wid && (decide (1 ≤ hours) && decide (hours ≤ 1048576)) && (decide (0 ≤ x.a) && decide (x.a ≤ 1048576))
theorem ask_iff {x : Ber} {hours : Int} : askB x hours = true ↔ (1 ≤ x.len ∧ x.len ≤ 524288) ∧ (1 ≤ x.wid ∧ x.wid ≤ 524288) ∧ (1 ≤ hours ∧ hours ≤ 1048576) ∧ (0 ≤ x.a ∧ x.a ≤ 1048576) := by
  unfold askB; simp only [Bool.and_eq_true, sideB_iff, decide_eq_true_eq, and_assoc]
/-- what Fit returns for a right question -/
def fitV (bays : List DBay) (l : List Ber) (x : Ber) (hours : Int) : Value := match fitF bays l x hours with
  | some y => .tuple #[.agg (syCs y), .int .i64 0]
  | none => .tuple #[.agg (syCs default), .int .i64 18]
/-- the search in the bays from a time on -/
def bayF (bays : List DBay) (l : List Ber) (x : Ber) (hours : Int) (t : Int) : Option Ber := bays.findSome? fun b => (spotF bays l (mkBer x.hull b x.len x.wid t (t + hours))).map fun p => (mkBer x.hull b x.len x.wid t (t + hours)).put p.1 p.2
theorem fitF_eq (bays : List DBay) (l : List Ber) (x : Ber) (hours : Int) : fitF bays l x hours = (uq (endsL l x.a)).findSome? (bayF bays l x hours) := rfl
theorem bayF_miss {bays : List DBay} {l : List Ber} {x : Ber} {hours t : Int} (h : ∀ j, j < bays.length → spotF bays l (mkBer x.hull (byi bays j) x.len x.wid t (t + hours)) = none) : bayF bays l x hours t = none := by
  unfold bayF
  rw [List.findSome?_eq_none_iff]
  intro b hb
  obtain ⟨j, hj, rfl⟩ := mem_byi hb
  rw [h j hj]; rfl
theorem findSome_hit {α β : Type} {f : α → Option β} {y : β} : ∀ {l : List α} {k : Nat} (hk : k < l.length), (∀ j (hj : j < k), f (l[j]'(Nat.lt_trans hj hk)) = none) → f l[k] = some y → l.findSome? f = some y
  | [], k, hk, _, _ => by simp at hk
  | a :: l, 0, hk, _, h => by rw [List.findSome?_cons]; rw [show f a = some y from h]
  | a :: l, k + 1, hk, h, h2 => by
    rw [List.findSome?_cons, show f a = none from h 0 (by omega)]
    exact findSome_hit (l := l) (k := k) (by simpa using hk) (fun j hj => h (j + 1) (by omega)) h2
theorem bayF_hit {bays : List DBay} {l : List Ber} {x : Ber} {hours t : Int} {k : Nat} {p : Int × Int} (hk : k < bays.length) (h : ∀ j, j < k → spotF bays l (mkBer x.hull (byi bays j) x.len x.wid t (t + hours)) = none) (h2 : spotF bays l (mkBer x.hull (byi bays k) x.len x.wid t (t + hours)) = some p) : bayF bays l x hours t = some ((mkBer x.hull (byi bays k) x.len x.wid t (t + hours)).put p.1 p.2) := by
  unfold bayF
  refine findSome_hit hk (fun j hj => ?_) ?_
  · have := h j hj; rw [byi_lt (by omega)] at this; rw [this]; rfl
  · rw [← byi_lt hk, h2]; rfl
theorem fitV_miss {bays : List DBay} {l : List Ber} {x : Ber} {hours : Int} (h : ∀ j, j < (uq (endsL l x.a)).length → bayF bays l x hours (gi (uq (endsL l x.a)) j) = none) : fitV bays l x hours = .tuple #[.agg (syCs default), .int .i64 18] := by
  unfold fitV
  rw [fitF_eq, List.findSome?_eq_none_iff.2 (fun t ht => by obtain ⟨j, hj, e⟩ := mem_gi ht; rw [← e]; exact h j hj)]
theorem fitV_hit {bays : List DBay} {l : List Ber} {x : Ber} {hours : Int} {k : Nat} {y : Ber} (hk : k < (uq (endsL l x.a)).length) (h : ∀ j, j < k → bayF bays l x hours (gi (uq (endsL l x.a)) j) = none) (h2 : bayF bays l x hours (gi (uq (endsL l x.a)) k) = some y) : fitV bays l x hours = .tuple #[.agg (syCs y), .int .i64 0] := by
  unfold fitV
  rw [fitF_eq, findSome_hit hk (fun j hj => by have := h j hj; rw [gi_lt (by omega)] at this; exact this) (by rw [← gi_lt hk]; exact h2)]
/-- the stay that is asked for, whatever bay and times lie in it -/
structure SameB (z x : Ber) : Prop where
  h : z.hull = x.hull
  l : z.len = x.len
  w : z.wid = x.wid
  x0 : z.x = 0
  y0 : z.y = 0
structure P5 (w w' : World) (x : Ber) (tv : Value) (ts : List Int) : Prop where
  fx : ∃ z, SameB z x ∧ ObjAt w' w.heap.size (syCs z) 50
  orr : ObjAt w' (w.heap.size + 1) (syCs default) 50
  ft : SI w' tv ts
  bw : Below w.heap.size w w'
theorem P5.below {w w' w'' : World} {x : Ber} {tv : Value} {ts : List Int} (h : P5 w w' x tv ts) (hb : Below w'.heap.size w' w'') : P5 w w'' x tv ts := by
  obtain ⟨z, h1, h2⟩ := h.fx
  exact ⟨⟨z, h1, h2.keep hb⟩, h.orr.keep hb, h.ft.keep hb, ext_trans h.bw hb⟩
/-- the world in which bay and times are stored -/
def FW (w : World) (b : Nat) (name : List UInt8) (t e : Int) : World := ((w.setCell ⟨b, 1, none⟩ (.string (bs name))).setCell ⟨b, 6, none⟩ (.int .i64 t)).setCell ⟨b, 7, none⟩ (.int .i64 e)
theorem P5.put {w w' : World} {x : Ber} {tv : Value} {ts : List Int} (h : P5 w w' x tv ts) (h1 : tv.ownBlock ≠ some w.heap.size) (d : DBay) (t e : Int) :
    P5 w (FW w' w.heap.size d.name t e) x tv ts ∧ ObjAt (FW w' w.heap.size d.name t e) w.heap.size (syCs (mkBer x.hull d x.len x.wid t e)) 50 := by
  obtain ⟨z, h2, h3⟩ := h.fx
  have ho : ObjAt (FW w' w.heap.size d.name t e) w.heap.size (syCs (mkBer x.hull d x.len x.wid t e)) 50 := by
    have := ((h3.set 1 (.string (bs d.name))).set 6 (.int .i64 t)).set 7 (.int .i64 e)
    rw [show syCs (mkBer x.hull d x.len x.wid t e) = (((syCs z).setIfInBounds 1 (.string (bs d.name))).setIfInBounds 6 (.int .i64 t)).setIfInBounds 7 (.int .i64 e) by
      unfold syCs mkBer; dsimp only; rw [h2.h, h2.l, h2.w, h2.x0, h2.y0]; rfl]
    exact this
  refine ⟨⟨⟨mkBer x.hull d x.len x.wid t e, ⟨rfl, rfl, rfl, rfl, rfl⟩, ho⟩, ((h.orr.other (by omega) _ _).other (by omega) _ _).other (by omega) _ _, ((h.ft.set h1 _ _).set h1 _ _).set h1 _ _, ((h.bw.setCell (p := ⟨w.heap.size, 1, none⟩) (Nat.le_refl _) _).setCell (p := ⟨w.heap.size, 6, none⟩) (Nat.le_refl _) _).setCell (p := ⟨w.heap.size, 7, none⟩) (Nat.le_refl _) _⟩, ho⟩
theorem copyD (w : World) (x : DBay) : ∃ W1, Hid (ObjAt W1 w.heap.size (dyA x) 25) ∧ Hid (Below w.heap.size w W1) ∧ Hid (w.alloc (.cells #[.string (bs x.name), .int .i64 x.len, .int .i64 x.wid] 25) = W1) ∧ Hid (w.heap.size < W1.heap.size) :=
  ⟨w.alloc (.cells (dyA x) 25), ObjAt.new _ _ _, (Below.refl _ _).alloc (Nat.le_refl _) _, rfl, by show _ < _; simp⟩
theorem dyC {w : World} {b : Nat} {x : DBay} {e : TypeId} (h : ObjAt w b (dyA x) e) : w.cell? ⟨b, 0, none⟩ = some (.string (bs x.name)) ∧ w.cell? ⟨b, 1, none⟩ = some (.int .i64 x.len) ∧ w.cell? ⟨b, 2, none⟩ = some (.int .i64 x.wid) := ⟨h.cell 0, h.cell 1, h.cell 2⟩
theorem start_fit (w : World) (x : Ber) : ∃ W0, Hid (ObjAt W0 w.heap.size (syCs x) 50) ∧ Hid (ObjAt W0 (w.heap.size + 1) (syCs default) 50) ∧ Hid (Below w.heap.size w W0) ∧ Hid (W0.heap.size = w.heap.size + 2) ∧
    Hid ((w.alloc (.cells #[.string (bs x.hull), .string (bs x.dock), .int .i64 x.x, .int .i64 x.y, .int .i64 x.len, .int .i64 x.wid, .int .i64 x.a, .int .i64 x.b] 50)).alloc
      (.cells #[.string ⟨#[]⟩, .string ⟨#[]⟩, .int .i64 0, .int .i64 0, .int .i64 0, .int .i64 0, .int .i64 0, .int .i64 0] 50) = W0) :=
  ⟨(w.alloc (.cells (syCs x) 50)).alloc (.cells (syCs default) 50), (obj_two w (syCs x) (syCs default) 50 50).1, (obj_two w (syCs x) (syCs default) 50 50).2,
    (((Below.refl _ _).alloc (Nat.le_refl _) _).alloc (by simp) _), by show _ = _; simp, rfl⟩
theorem SI.ownB {w : World} {v : Value} {xs : List Int} (h : SI w v xs) {b : Nat} (hb : w.heap.size ≤ b) : xs = [] ∨ v.ownBlock ≠ some b := by
  obtain ⟨a, cap, rfl, h1, h2, h3⟩ := h
  cases xs with
  | nil => exact .inl rfl
  | cons x xs =>
    right
    obtain ⟨g, off, rfl, hc⟩ := h3 0 (by simp)
    have := World.block_lt_of_cell? w _ hc
    intro e
    simp [Value.ownBlock] at e
    dsimp only at this
    omega
theorem spotV_form (bays : List DBay) (l : List Ber) (z : Ber) : ∃ y fl, spotV bays l z = .tuple #[.agg (syCs y), .bool fl] ∧ ((fl = true ∧ ∃ p, spotF bays l z = some p ∧ y = z.put p.1 p.2) ∨ (fl = false ∧ spotF bays l z = none)) := by
  unfold spotV
  cases h : spotF bays l z with
  | some p => exact ⟨_, _, rfl, .inl ⟨rfl, p, rfl, rfl⟩⟩
  | none => exact ⟨_, _, rfl, .inr ⟨rfl, rfl⟩⟩
set_option maxRecDepth 100000 in
set_option maxHeartbeats 2000000 in
theorem Fit_any (bv lv : Value) (bays : List DBay) (l : List Ber) (x : Ber) (hours : Int) (w : World) (hb : SD w bv bays) (hl : SB w lv l) (hm : MLen w) (hsd : StrD bays maxLen) (hsb : StrB l maxLen) (hx : x.hull.length ≤ maxLen) (hn : l.length < 128) (hok : planE bays l = 0) (hid : idB x.hull = true) (hak : askB x hours = true) (hx0 : x.x = 0) (hy0 : x.y = 0) (hw : 0 < w.heap.size) :
    Calls Tryz.prog 13 #[bv, lv, syV x, .int .i64 hours] w (Ret w (fitV bays l x hours)) := by
  have HD := Lib.hid hb; have HL := Lib.hid hl; have HM := Lib.hid hm; have HSD := Lib.hid hsd; have HSB := Lib.hid hsb; have HX := Lib.hid hx; have HOK := Lib.hid hok; have HID := Lib.hid hid; have HAK := Lib.hid hak; have HX0 := Lib.hid hx0; have HY0 := Lib.hid hy0; have HWM := Lib.hid hw
  obtain ⟨da, dc, rfl, d1, d2, d3⟩ := hb
  obtain ⟨la, lc, rfl, l1, l2, l3⟩ := hl
  have D3 := Lib.hid d3
  clear hm hsd hsb d3 l3 hx hok hid hak hx0 hy0 hw
  unfold maxLen at d2 l2
  obtain ⟨W0, HXB0, HR0, HB0, HZ0, HW⟩ := start_fit w x
  unfold syV
  go_enter Tryz.func13, Tryz.ntmps13
  go_wp2_with fail
  rw [HW.out]
  clear HW
  refine (Check_any _ _ bays l W0 (HD.out.keep HB0.out) (HL.out.keep HB0.out).y (HM.out.keep HB0.out) HSD.out HSB.out).mono ?_
  rintro e w1 ⟨rfl, h1⟩
  rw [HOK.out]
  have HB1 := Lib.hid (ext_trans HB0.out h1)
  have HX1 := Lib.hid (HXB0.out.keep h1)
  have HR1 := Lib.hid (HR0.out.keep h1)
  clear h1 HXB0 HR0
  have p0 := (syC HX1.out).c0
  go_wp2_with fail
  clear p0
  refine (IsId_any _ _ (by rw [bs_size]; exact HX.out) (HM.out.keep HB1.out)).mono ?_
  rintro e w2 ⟨rfl, h2⟩
  rw [bs_list, HID.out]
  have HB2 := Lib.hid (ext_trans HB1.out h2)
  have HX2 := Lib.hid (HX1.out.keep h2)
  have HR2 := Lib.hid (HR1.out.keep h2)
  clear h2 HX1 HR1
  have HHR := Lib.hid (ask_iff.1 HAK.out)
  go_upto_region 6 with fail
  refine wp_region_et dkT dkT_ok [berO w.heap.size 0 x] (fun w' => w' = w2) [(6, 0)] [(33, .ret (.bool (sideB x.len))), (38, .ret (.bool (sideB x.wid)))] [(30, .bool false)] (by kernel_rfl) rfl (obs1 fun w' hw' => by subst hw'; exact range_new HX2.out) ⟨rfl, trivial⟩ ?_
  conv => whnf
  refine And.intro (under_of fun w' hw' => by subst hw'; exact side_any _ _) ?_
  conv => whnf
  refine And.intro (under_of fun w' hw' => by subst hw'; exact side_any _ _) ?_
  conv => whnf
  intro f
  conv => whnf
  refine And.intro (congrArg Value.bool ?_) ?_
  · obtain ⟨q1, q2, q3, q4⟩ := HHR.out
    rw [sideB_iff.2 q1, sideB_iff.2 q2]
    simp only [Bool.not_true, Bool.false_or, Bool.or_eq_false_iff, decide_eq_false_iff_not]
    omega
  conv => whnf
  intro w' hw'
  subst hw'
  have q6 := (syC HX2.out).c6
  have i0 : ¬ (128 : Int) ≤ l.length := by omega
  go_wp2_with fail
  clear q6 i0
  refine (starts_new _ l x.a _ (HL.out.keep HB2.out) (by omega)).mono ?_
  rintro e w4 ⟨tv, rfl, ht4, h4, hfr⟩
  have HB4 := Lib.hid (ext_trans HB2.out h4)
  have NT : Hid (tv.ownBlock ≠ some w.heap.size) := fun e => by have := hfr _ e; have := HX2.out.lt; omega
  have HP4 : Hid (P5 w w4 x tv (uq (endsL l x.a))) := ⟨⟨x, ⟨rfl, rfl, rfl, HX0.out, HY0.out⟩, HX2.out.keep h4⟩, HR2.out.keep h4, ht4, HB4.out⟩
  have HSM : Hid (∀ t, t ∈ uq (endsL l x.a) → 0 ≤ t ∧ t ≤ 1048576) := fun t ht => starts_small ((planE_iff bays l).1 HOK.out) (ask_iff.1 HAK.out).2.2.2 (uq_mem.1 ht)
  have HMISS := Lib.hid (fitV_miss (bays := bays) (l := l) (x := x) (hours := hours))
  have HHIT := Lib.hid (fun k y => fitV_hit (bays := bays) (l := l) (x := x) (hours := hours) (k := k) (y := y))
  have HTI := Lib.hid (tiB_of ((planE_iff bays l).1 HOK.out) (sides_plan ((planE_iff bays l).1 HOK.out)))
  have HSI := Lib.hid (sides_plan ((planE_iff bays l).1 HOK.out))
  have n0 : (uq (endsL l x.a)).length ≤ 1000 := by
    have := uq_len (endsL l x.a)
    have := filter_len (fun u : Ber => decide (x.a < u.b)) (·.b) l
    unfold endsL at *; simp only [List.length_cons] at *; omega
  obtain ⟨ts, hts⟩ : ∃ ts, uq (endsL l x.a) = ts := ⟨_, rfl⟩
  rw [hts] at HP4 HSM HMISS HHIT n0
  obtain ⟨ta, tc, rfl, t1, t2, t3⟩ := HP4.out.ft
  clear h4 ht4 hfr HX2 HR2 hts t3
  unfold maxLen at t2
  go_wp2_with fail
  go_loopw [73] (fun i wr => ∃ k : Nat, k ≤ ts.length ∧ i = .int .i64 k ∧ Hid (P5 w wr x (.slice ta ts.length tc) ts) ∧ Hid (∀ j, j < k → bayF bays l x hours (gi ts j) = none)) (fun i _ => ts.length - (intOf i).toNat)
  case atStart => exact ⟨0, Nat.zero_le _, rfl, HP4, Lib.hid fun j hj => by omega⟩
  case round =>
    obtain ⟨k, hk, rfl, hp1, hf1⟩ := hrel
    by_cases hlt : k < ts.length
    · have ht := hp1.out.ft
      obtain ⟨tb, tof, rfl⟩ : ∃ b o, ta = some ⟨b, o, none⟩ := by
        obtain ⟨a', c', e', q1, q2, q3⟩ := ht
        obtain ⟨b', o', h', _⟩ := q3 k hlt
        simp only [Value.slice.injEq] at e'
        exact ⟨b', o', by rw [e'.1, h']⟩
      have hcc := ht.at' hlt
      clear ht
      go_wp2_with fail
      go_loopw [79] (fun i wr => ∃ m : Nat, m ≤ bays.length ∧ i = .int .i64 m ∧ Hid (P5 w wr x (.slice (some ⟨tb, tof, none⟩) ts.length tc) ts) ∧ Hid (∀ j, j < m → spotF bays l (mkBer x.hull (byi bays j) x.len x.wid (gi ts k) (gi ts k + hours)) = none)) (fun i _ => bays.length - (intOf i).toNat)
      case atStart => exact ⟨0, Nat.zero_le _, rfl, hp1, Lib.hid fun j hj => by omega⟩
      case round =>
        clear hcc
        obtain ⟨m, hm, rfl, hp2, hf2⟩ := hrel
        by_cases hlt2 : m < bays.length
        · obtain ⟨db, do_, rfl, hc⟩ := D3.out m hlt2
          obtain ⟨c0, c1, c2⟩ := hc.keep hp2.out.bw
          clear hc
          have hsr := HSM.out _ (gi_mem hlt)
          have hhr := HHR.out.2.2.1
          obtain ⟨W1, HDO, HC1, HW, _⟩ := copyD wr (byi bays m)
          have HP3 := Lib.hid (hp2.out.below HC1.out)
          go_upto_region 16 with fail
          rw [HW.out]
          clear c0 c1 c2 HW
          obtain ⟨z, hz1, hz2⟩ := HP3.out.fx
          obtain ⟨d0, d1, d2⟩ := dyC HDO.out
          obtain ⟨c0, c1, c2, c3, c4, c5, c6, c7⟩ := syC hz2
          have f1 := obj_free hz2 1
          have f6 := obj_free hz2 6
          have f7 := obj_free hz2 7
          have HPP := Lib.hid (HP3.out.put NT.out (byi bays m) (gi ts k) (gi ts k + hours))
          have HFW : Hid (((W1.setCell ⟨w.heap.size, 1, none⟩ (.string (bs (byi bays m).name))).setCell ⟨w.heap.size, 6, none⟩ (.int .i64 (gi ts k))).setCell ⟨w.heap.size, 7, none⟩ (.int .i64 (gi ts k + hours)) = FW W1 w.heap.size (byi bays m).name (gi ts k) (gi ts k + hours)) := rfl
          clear hz1 hz2
          go_upto_region 17 with fail
          rw [HFW.out]
          clear c0 c1 c2 c3 c4 c5 c6 c7 d0 d1 d2 f1 f6 f7 HFW
          obtain ⟨W2, hW2⟩ : ∃ W2, FW W1 w.heap.size (byi bays m).name (gi ts k) (gi ts k + hours) = W2 := ⟨_, rfl⟩
          rw [hW2] at HPP ⊢
          obtain ⟨zz, hzz⟩ : ∃ zz, mkBer x.hull (byi bays m) x.len x.wid (gi ts k) (gi ts k + hours) = zz := ⟨_, rfl⟩
          rw [hzz] at HPP
          have HZZ := Lib.hid hzz
          have HZH : Hid (zz.hull = x.hull) := by show _ = _; rw [← hzz]; rfl
          clear hW2 hzz HP3 HDO HC1 hp2
          obtain ⟨c0, c1, c2, c3, c4, c5, c6, c7⟩ := syC HPP.out.2
          go_wp2_with fail
          clear c0 c1 c2 c3 c4 c5 c6 c7
          refine (spot_any _ _ bays l zz W2 (HD.out.keep HPP.out.1.bw) (HL.out.keep HPP.out.1.bw) (HM.out.keep HPP.out.1.bw) (by omega) HSI.out HTI.out (by rw [HZH.out]; exact HX.out) (Nat.lt_of_lt_of_le HWM.out HPP.out.1.bw.size)).mono ?_
          rintro e w7 ⟨rfl, h7⟩
          obtain ⟨y, fl, hy, hfl⟩ := spotV_form bays l zz
          rw [hy]
          have HFL := Lib.hid hfl
          have HP7 := Lib.hid (HPP.out.1.below h7)
          have HN := Lib.hid (heap_alloc_new w7 (.cells (syCs default) 50))
          obtain ⟨W8, hW8⟩ : ∃ W8, W8 = w7.alloc (.cells (syCs y) 50) := ⟨_, rfl⟩
          have HW : Hid ((w7.alloc (.cells #[.string ⟨#[]⟩, .string ⟨#[]⟩, .int .i64 0, .int .i64 0, .int .i64 0, .int .i64 0, .int .i64 0, .int .i64 0] 50)).setRow w7.heap.size (syCs y) = W8) := by
            rw [hW8]; exact World.setRow_alloc_new _ _ _ _
          have HY8 : Hid (ObjAt W8 w7.heap.size (syCs y) 50) := by rw [hW8]; exact ObjAt.new _ _ _
          have HP8 : Hid (P5 w W8 x (.slice (some ⟨tb, tof, none⟩) ts.length tc) ts) := by rw [hW8]; exact HP7.out.below ((Below.refl _ _).alloc (Nat.le_refl _) _)
          clear hW8 hfl h7 hy HPP HP7 HZH
          go_upto_region 18 with ((refine wpList_store_row (o := ⟨none, .store _ _ _, _, _, _, _⟩) rfl 50 (.tmp 15) (.tmp 97) rfl w7.heap.size (syCs y) rfl rfl 50 _ HN.out info_Berth rfl (one_ber _) ?_); (rw [HW.out]))
          clear HN HW
          cases fl
          · have HJ := Lib.hid (upto (q := fun j => spotF bays l (mkBer x.hull (byi bays j) x.len x.wid (gi ts k) (gi ts k + hours)) = none) hf2.out (by
              rw [HZZ.out]
              rcases HFL.out with ⟨h, _⟩ | ⟨_, h⟩
              · cases h
              · exact h))
            go_wp2_with fail
            go_roundw
            case rel => exact ⟨m + 1, by omega, by go_num, HP8, HJ⟩
            case measure => simp [intOf]; omega
          · have HV : Hid (fitV bays l x hours = .tuple #[.agg (syCs y), .int .i64 0]) := by
              rcases HFL.out with ⟨_, p, h1, rfl⟩ | ⟨h, _⟩
              · rw [← HZZ.out] at h1 ⊢
                exact HHIT.out k _ hlt hf1.out (bayF_hit hlt2 hf2.out h1)
              · cases h
            have HO := Lib.hid HP8.out.orr
            have HB := Lib.hid HP8.out.bw
            obtain ⟨c0, c1, c2, c3, c4, c5, c6, c7⟩ := syC HY8.out
            go_wp2_with (refine wpList_store_row (o := ⟨none, .store _ _ _, _, _, _, _⟩) rfl 50 (.tmp 8) (.tmp 100) rfl (w.heap.size + 1) (syCs y) rfl rfl 50 _ HO.out info_Berth rfl (one_ber _) ?_)
            refine bodyPost_ret (v := .tuple #[.agg (syCs y), .int .i64 0]) (results_two Tryz.results13 rfl rfl (load_Ber (setRow_heap _ _ _ _ _ _ HO.out))) rfl ⟨by rw [HV.out], below_setRow HB.out (by omega) _⟩
        · obtain rfl : m = bays.length := by omega
          have HJ := Lib.hid (upto (q := fun j => bayF bays l x hours (gi ts j) = none) hf1.out (bayF_miss hf2.out))
          go_wp2_with fail
          go_roundw
          case rel => exact ⟨k + 1, by omega, by go_num, hp2, HJ⟩
          case measure => simp [intOf]; omega
    · obtain rfl : k = ts.length := by omega
      have HO := Lib.hid hp1.out.orr
      have HB := Lib.hid hp1.out.bw
      have HV : Hid (fitV bays l x hours = .tuple #[.agg (syCs default), .int .i64 18]) := HMISS.out hf1.out
      obtain ⟨c0, c1, c2, c3, c4, c5, c6, c7⟩ := syC HO.out
      go_wp2_with (refine wpList_store_row (o := ⟨none, .store _ _ _, _, _, _, _⟩) rfl 50 (.tmp 8) (.tmp 103) rfl (w.heap.size + 1) (syCs default) rfl rfl 50 _ HO.out info_Berth rfl (one_ber _) ?_)
      refine bodyPost_ret (v := .tuple #[.agg (syCs default), .int .i64 18]) (results_two Tryz.results13 rfl rfl (load_Ber (setRow_heap _ _ _ _ _ _ HO.out))) rfl ⟨by rw [HV.out], below_setRow HB.out (by omega) _⟩
end Go.Proofs.YtlmfcigabojbmaaGreatDoor

/- Contract: put of bay's reference (printed by wip/gen_shoA.py). -/
namespace Go.Proofs.YtlmfcigabojbmaaGreatDoor
open Go.RowKit

theorem pOut_len (xs : List Int) (n : Int) (k : Nat) : (pOut xs n k).length ≤ k + 1 ∧ (pPut xs n k = false → (pOut xs n k).length ≤ k) := by
  induction k with
  | zero => exact ⟨by simp [pOut], fun _ => by simp [pOut]⟩
  | succ k ih =>
    have h2 : pPut xs n (k + 1) = (pPut xs n k || decide (n ≤ gz xs k)) := rfl
    have hO : pOut xs n (k + 1) = (if pPut xs n k = false ∧ n ≤ gz xs k then pOut xs n k ++ [n] else pOut xs n k) ++ (if gz xs k = n then [] else [gz xs k]) := rfl
    have ht : (if gz xs k = n then ([] : List Int) else [gz xs k]).length ≤ 1 := by split <;> simp
    rw [hO, List.length_append]
    by_cases h : pPut xs n k = false ∧ n ≤ gz xs k
    · rw [if_pos h]
      have := ih.2 h.1
      refine ⟨by simp; omega, fun h3 => ?_⟩
      rw [h2, decide_eq_true h.2, Bool.or_true] at h3; cases h3
    · rw [if_neg h]
      refine ⟨by have := ih.1; omega, fun h3 => ?_⟩
      have : pPut xs n k = false := by cases hq : pPut xs n k with | false => rfl | true => rw [h2, hq] at h3; cases h3
      have := ih.2 this; omega
set_option maxRecDepth 100000 in
set_option maxHeartbeats 1000000 in
theorem put_any (v : Value) (xs : List Int) (n : Int) (w : World) (h : SI w v xs) (hn : xs.length ≤ 100000) : Calls Tryz.prog 43 #[v, .int .i64 n] w (RetO w (putL xs n)) := by
  obtain ⟨a, cap, rfl, h1, h2, h3⟩ := h
  have H3 := Lib.hid h3; clear h3
  have hm : xs.length ≤ 9223372036854775807 := by omega
  go_enter Tryz.func43, Tryz.ntmps43
  go_wp2_with fail
  go_loopw [5, 6, 7] (fun s p i wr => ∃ k : Nat, k ≤ xs.length ∧ i = .int .i64 k ∧ p = .bool (pPut xs n k) ∧ Hid (Below w.heap.size w wr) ∧ Hid (OwnI wr w.heap.size s (pOut xs n k))) (fun _ _ i _ => xs.length - (intOf i).toNat)
  case atStart => exact ⟨0, Nat.zero_le _, rfl, rfl, Lib.hid (Below.refl _ _), OwnI_nil _ _⟩
  case round =>
    obtain ⟨k, hk, rfl, rfl, hb, ho⟩ := hrel
    have HP : Hid (pPut xs n (k + 1) = (pPut xs n k || decide (n ≤ gi xs k))) := rfl
    have HLEN := Lib.hid (pOut_len xs n k)
    by_cases hlt : k < xs.length
    · obtain ⟨b, off, rfl, hc0⟩ := H3.out k hlt
      have hc := cell_keep hb.out hc0
      have HCC := Lib.hid hc0
      clear hc0
      have hbz : w.heap.size ≤ wr.heap.size := hb.out.size
      have HW : Hid (pOut xs n (k + 1) = (if pPut xs n k = false ∧ n ≤ gi xs k then pOut xs n k ++ [n] else pOut xs n k) ++ (if gi xs k = n then [] else [gi xs k])) := rfl
      by_cases hp : pPut xs n k = true
      · have HP2 : Hid (pPut xs n (k + 1) = true) := by show _ = _; rw [HP.out, hp]; rfl
        have HC : Hid (¬ (pPut xs n k = false ∧ n ≤ gi xs k)) := by show ¬ _; rw [hp]; simp
        rw [hp]
        clear hp
        by_cases he : gi xs k = n
        · have hne : ((gi xs k) != n) = false := by rw [he]; simp
          have HE := Lib.hid he; clear he
          have HOF : Hid (OwnI wr w.heap.size u5 (pOut xs n (k + 1))) := by show _; rw [HW.out, if_neg HC.out, if_pos HE.out, List.append_nil]; exact ho.out
          go_wp2_with fail
          go_roundw
          case rel => exact ⟨k + 1, by omega, by go_num, by rw [HP2.out], hb, HOF⟩
          case measure => simp [intOf]; omega
        · have hne : ((gi xs k) != n) = true := bne_iff_ne.2 he
          have HE := Lib.hid he; clear he
          have HOA := Lib.hid (ho.out.alloc (.cells #[.int .i64 (gi xs k)] 3))
          have HSA := Lib.hid (SI_one wr (gi xs k) 3)
          have HL1 : Hid ((pOut xs n k).length + ([(gi xs k)] : List Int).length ≤ 100000000) := by show _ ≤ _; have := HLEN.out.1; simp; omega
          go_wp2_with (at_builtin; refine wpList_app_int rfl (.tmp 34) (.tmp 39) rfl w.heap.size _ _ (pOut xs n k) [(gi xs k)] rfl rfl HOA.out HSA.out HL1.out ?c4 ?_)
          case c4 => first | omega | (simp; omega)
          intro v1 w1 ho1 hg1 _
          have HB1 := Lib.hid (grown_below hb.out (fun q hq => (World.ownsRow.lt ho.out q hq).1) _ hg1)
          have HO1 := Lib.hid ho1
          have hz1 : w.heap.size ≤ w1.heap.size := HB1.out.size
          clear ho1 hg1 HOA HSA HL1
          have HOF : Hid (OwnI w1 w.heap.size v1 (pOut xs n (k + 1))) := by show _; rw [HW.out, if_neg HC.out, if_neg HE.out]; exact HO1.out
          go_wp2_with fail
          go_roundw
          case rel => exact ⟨k + 1, by omega, by go_num, by rw [HP2.out], HB1, HOF⟩
          case measure => simp [intOf]; omega
      have hpf : pPut xs n k = false := by cases hq : pPut xs n k with | false => rfl | true => exact absurd hq hp
      have HPF := Lib.hid hpf
      rw [hpf]
      clear hp hpf
      by_cases hle : n ≤ gi xs k
      rotate_left
      · have HP2 : Hid (pPut xs n (k + 1) = false) := by show _ = _; rw [HP.out, HPF.out, decide_eq_false hle]; rfl
        have HC : Hid (¬ (pPut xs n k = false ∧ n ≤ gi xs k)) := fun h => hle h.2
        have HE : Hid (¬ gi xs k = n) := fun h => hle (by rw [h]; exact Int.le_refl _)
        have hne : ((gi xs k) != n) = true := bne_iff_ne.2 HE.out
        have HOA := Lib.hid (ho.out.alloc (.cells #[.int .i64 (gi xs k)] 3))
        have HSA := Lib.hid (SI_one wr (gi xs k) 3)
        have HL1 : Hid ((pOut xs n k).length + ([(gi xs k)] : List Int).length ≤ 100000000) := by show _ ≤ _; have := HLEN.out.1; simp; omega
        go_wp2_with (at_builtin; refine wpList_app_int rfl (.tmp 34) (.tmp 39) rfl w.heap.size _ _ (pOut xs n k) [(gi xs k)] rfl rfl HOA.out HSA.out HL1.out ?c4 ?_)
        case c4 => first | omega | (simp; omega)
        intro v1 w1 ho1 hg1 _
        have HB1 := Lib.hid (grown_below hb.out (fun q hq => (World.ownsRow.lt ho.out q hq).1) _ hg1)
        have HO1 := Lib.hid ho1
        have hz1 : w.heap.size ≤ w1.heap.size := HB1.out.size
        clear ho1 hg1 HOA HSA HL1
        have HOF : Hid (OwnI w1 w.heap.size v1 (pOut xs n (k + 1))) := by show _; rw [HW.out, if_neg HC.out, if_neg HE.out]; exact HO1.out
        go_wp2_with fail
        go_roundw
        case rel => exact ⟨k + 1, by omega, by go_num, by rw [HP2.out], HB1, HOF⟩
        case measure => simp [intOf]; omega
      have HP2 : Hid (pPut xs n (k + 1) = true) := by show _ = _; rw [HP.out, HPF.out, decide_eq_true hle]; rfl
      have HC : Hid (pPut xs n k = false ∧ n ≤ gi xs k) := ⟨HPF.out, hle⟩
      have HOA := Lib.hid (ho.out.alloc (.cells #[.int .i64 n] 3))
      have HSA := Lib.hid (SI_one wr n 3)
      have HL1 : Hid ((pOut xs n k).length + ([n] : List Int).length ≤ 100000000) := by show _ ≤ _; have := HLEN.out.1; simp; omega
      go_wp2_with (at_builtin; refine wpList_app_int rfl (.tmp 24) (.tmp 26) rfl w.heap.size _ _ (pOut xs n k) [n] rfl rfl HOA.out HSA.out HL1.out ?c4 ?_)
      case c4 => first | omega | (simp; omega)
      intro v1 w1 ho1 hg1 _
      have HB1 := Lib.hid (grown_below hb.out (fun q hq => (World.ownsRow.lt ho.out q hq).1) _ hg1)
      have HO1 := Lib.hid ho1
      have hz1 : w.heap.size ≤ w1.heap.size := HB1.out.size
      clear ho1 hg1 HOA HSA HL1
      have hc := cell_keep HB1.out (show w.cell? ⟨b, off + k, none⟩ = some (.int .i64 (gi xs k)) from HCC.out)
      by_cases he : gi xs k = n
      · have hne : ((gi xs k) != n) = false := by rw [he]; simp
        have HE := Lib.hid he; clear he
        have HOF : Hid (OwnI w1 w.heap.size v1 (pOut xs n (k + 1))) := by show _; rw [HW.out, if_pos HC.out, if_pos HE.out, List.append_nil]; exact HO1.out
        go_wp2_with fail
        go_roundw
        case rel => exact ⟨k + 1, by omega, by go_num, by rw [HP2.out], HB1, HOF⟩
        case measure => simp [intOf]; omega
      · have hne : ((gi xs k) != n) = true := bne_iff_ne.2 he
        have HE := Lib.hid he; clear he
        have HOA := Lib.hid (HO1.out.alloc (.cells #[.int .i64 (gi xs k)] 3))
        have HSA := Lib.hid (SI_one w1 (gi xs k) 3)
        have HL1 : Hid ((pOut xs n k ++ [n]).length + ([(gi xs k)] : List Int).length ≤ 100000000) := by show _ ≤ _; have := HLEN.out.1; simp; omega
        go_wp2_with (at_builtin; refine wpList_app_int rfl (.tmp 34) (.tmp 39) rfl w.heap.size _ _ (pOut xs n k ++ [n]) [(gi xs k)] rfl rfl HOA.out HSA.out HL1.out ?c5 ?_)
        case c5 => first | omega | (simp; omega)
        intro v2 w2 ho2 hg2 _
        have HB2 := Lib.hid (grown_below HB1.out (fun q hq => (World.ownsRow.lt HO1.out q hq).1) _ hg2)
        have HO2 := Lib.hid ho2
        have hz2 : w.heap.size ≤ w2.heap.size := HB2.out.size
        clear ho2 hg2 HOA HSA HL1
        have HOF : Hid (OwnI w2 w.heap.size v2 (pOut xs n (k + 1))) := by show _; rw [HW.out, if_pos HC.out, if_neg HE.out, List.append_assoc]; exact HO2.out
        go_wp2_with fail
        go_roundw
        case rel => exact ⟨k + 1, by omega, by go_num, by rw [HP2.out], HB2, HOF⟩
        case measure => simp [intOf]; omega
    · obtain rfl : k = xs.length := by omega
      have hbz : w.heap.size ≤ wr.heap.size := hb.out.size
      by_cases hp : pPut xs n xs.length = true
      · have HV : Hid (putL xs n = pOut xs n xs.length) := by show _ = _; unfold putL; rw [if_pos hp]
        rw [hp]
        clear hp
        go_wp2_with fail
        go_ret
        exact ⟨_, rfl, by rw [HV.out]; exact ho.out, hb.out⟩
      · have HV : Hid (putL xs n = pOut xs n xs.length ++ [n]) := by show _ = _; unfold putL; rw [if_neg hp]
        have hpf : pPut xs n xs.length = false := by cases hq : pPut xs n xs.length with | false => rfl | true => exact absurd hq hp
        rw [hpf]
        clear hp hpf
        have HOA := Lib.hid (ho.out.alloc (.cells #[.int .i64 n] 3))
        have HSA := Lib.hid (SI_one wr n 3)
        have HL1 : Hid ((pOut xs n xs.length).length + ([n] : List Int).length ≤ 100000000) := by show _ ≤ _; have := HLEN.out.1; simp; omega
        go_wp2_with (at_builtin; refine wpList_app_int rfl (.tmp 43) (.tmp 45) rfl w.heap.size _ _ (pOut xs n xs.length) [n] rfl rfl HOA.out HSA.out HL1.out ?c4 ?_)
        case c4 => first | omega | (simp; omega)
        intro v1 w1 ho1 hg1 _
        have HB1 := Lib.hid (grown_below hb.out (fun q hq => (World.ownsRow.lt ho.out q hq).1) _ hg1)
        have HO1 := Lib.hid ho1
        have hz1 : w.heap.size ≤ w1.heap.size := HB1.out.size
        clear ho1 hg1 HOA HSA HL1
        have HO' : Hid (OwnI w1 w.heap.size v1 (putL xs n)) := by show _; rw [HV.out]; exact HO1.out
        go_wp2_with fail
        go_ret
        exact ⟨_, rfl, HO'.out, HB1.out⟩
theorem putL_len (xs : List Int) (n : Int) : (putL xs n).length ≤ xs.length + 1 := by
  have := pOut_len xs n xs.length
  unfold putL
  split
  · exact this.1
  · rename_i h; rw [List.length_append]; have := this.2 (by simpa using h); simp; omega
end Go.Proofs.YtlmfcigabojbmaaGreatDoor

/- Contract: spot of bay's reference. -/
namespace Go.Proofs.YtlmfcigabojbmaaGreatDoor
open Go.RowKit

theorem start_rspot (w : World) (x : Ber) : ∃ W0 W1, Hid (ObjAt W0 w.heap.size (syCs x) 50) ∧ Hid (ObjAt W0 (w.heap.size + 1) (syCs default) 50) ∧ Hid (Below w.heap.size w W0) ∧ Hid (W0.heap.size = w.heap.size + 2) ∧
    Hid (Below W0.heap.size W0 W1) ∧ Hid (OwnI W1 W0.heap.size (.slice (some ⟨w.heap.size + 1 + 1, 0, none⟩) 1 1) [0]) ∧ Hid (OwnI W1 W0.heap.size (.slice (some ⟨w.heap.size + 1 + 1 + 1, 0, none⟩) 1 1) [0]) ∧
    Hid ((((w.alloc (.cells #[.string (bs x.hull), .string (bs x.dock), .int .i64 x.x, .int .i64 x.y, .int .i64 x.len, .int .i64 x.wid, .int .i64 x.a, .int .i64 x.b] 50)).alloc
      (.cells #[.string ⟨#[]⟩, .string ⟨#[]⟩, .int .i64 0, .int .i64 0, .int .i64 0, .int .i64 0, .int .i64 0, .int .i64 0] 50)).alloc (.cells #[.int .i64 0] 3)).alloc (.cells #[.int .i64 0] 3) = W1) := by
  have z1 : ((w.alloc (.cells (syCs x) 50)).alloc (.cells (syCs default) 50)).heap.size = w.heap.size + 1 + 1 := by simp
  have z2 : (((w.alloc (.cells (syCs x) 50)).alloc (.cells (syCs default) 50)).alloc (.cells #[.int .i64 0] 3)).heap.size = w.heap.size + 1 + 1 + 1 := by simp
  have s1 := OwnI_one ((w.alloc (.cells (syCs x) 50)).alloc (.cells (syCs default) 50)) (w.heap.size + 1 + 1) 0 (Nat.le_of_eq z1.symm)
  rw [z1] at s1
  have s2 := OwnI_one (((w.alloc (.cells (syCs x) 50)).alloc (.cells (syCs default) 50)).alloc (.cells #[.int .i64 0] 3)) (w.heap.size + 1 + 1) 0 (by rw [z2]; omega)
  rw [z2] at s2
  refine ⟨(w.alloc (.cells (syCs x) 50)).alloc (.cells (syCs default) 50), _, (obj_two w (syCs x) (syCs default) 50 50).1, (obj_two w (syCs x) (syCs default) 50 50).2, ?_, z1, ?_, ?_, by rw [z1]; exact s2, rfl⟩
  · exact (((Below.refl _ _).alloc (Nat.le_refl _) _).alloc (by simp) _)
  · exact (((Below.refl _ _).alloc (Nat.le_refl _) _).alloc (by simp) _)
  · rw [z1]; exact OwnI.alloc s1 _
theorem ownI_si {w : World} {B : Nat} {v : Value} {xs : List Int} (h : OwnI w B v xs) : SI w v xs := (RowH.of h).si
/-- what the reference's search works with -/
structure P4 (w w' : World) (x : Ber) (sb sl se : Value) (l : List Ber) (ys xs : List Int) (X Y : Int) : Prop where
  fl : SI w' sl ys
  fe : SI w' se xs
  fb : SB w' sb l
  ox : ObjAt w' w.heap.size (syCs (x.put X Y)) 50
  orr : ObjAt w' (w.heap.size + 1) (syCs default) 50
  bw : Below w.heap.size w w'
section
variable {w w' w'' : World} {x : Ber} {sb sl se : Value} {l : List Ber} {ys xs : List Int} {X Y : Int}
theorem P4.below (h : P4 w w' x sb sl se l ys xs X Y) (hb : Below w'.heap.size w' w'') : P4 w w'' x sb sl se l ys xs X Y :=
  ⟨h.fl.keep hb, h.fe.keep hb, h.fb.keep hb, h.ox.keep hb, h.orr.keep hb, ext_trans h.bw hb⟩
theorem P4.put (h : P4 w w' x sb sl se l ys xs X Y) (h1 : sl.ownBlock ≠ some w.heap.size) (h2 : se.ownBlock ≠ some w.heap.size) (h3 : sb.ownBlock ≠ some w.heap.size) (X' Y' : Int) :
    P4 w ((w'.setCell ⟨w.heap.size, 2, none⟩ (.int .i64 X')).setCell ⟨w.heap.size, 3, none⟩ (.int .i64 Y')) x sb sl se l ys xs X' Y' :=
  ⟨(h.fl.set h1 _ _).set h1 _ _, (h.fe.set h2 _ _).set h2 _ _, (h.fb.set h3 _ _).set h3 _ _, (h.ox.set 2 _).set 3 _, (h.orr.other (by omega) _ _).other (by omega) _ _, (h.bw.setCell (p := ⟨w.heap.size, 2, none⟩) (Nat.le_refl _) _).setCell (p := ⟨w.heap.size, 3, none⟩) (Nat.le_refl _) _⟩
end
/-- the rows of the first loop -/
structure R4 (w : World) (B b1 : Nat) (sx sy sb : Value) (l : List Ber) (xs ys : List Int) : Prop where
  x : OwnI w B sx xs
  y : OwnI w B sy ys
  b : OwnB w B sb l
  nx : sx.ownBlock ≠ some b1
  ny : sy.ownBlock ≠ some b1
set_option maxRecDepth 100000 in
set_option maxHeartbeats 2000000 in
theorem rspot_any (bv lv : Value) (bays : List DBay) (l : List Ber) (x : Ber) (w : World) (hb : SD w bv bays) (hl : SB w lv l) (hn : l.length ≤ 1000) (hd : ∀ d ∈ bays, sideD d) (hs : ∀ y ∈ l, TiB y) (hx : x.hull.length ≤ 1100000) :
    Calls Tryz.prog 44 #[bv, lv, syV x] w fun e w' => e = .returned (spotV bays l x) ∧ Below w.heap.size w w' := by
  have HSD := Lib.hid hb; have HD := Lib.hid hd; have HT := Lib.hid hs; have HX := Lib.hid hx
  obtain ⟨ba, bn, bc, rfl⟩ : ∃ a n c, bv = .slice a n c := by obtain ⟨a, cap, rfl, _⟩ := hb; exact ⟨_, _, _, rfl⟩
  obtain ⟨a, cap, rfl, h1, h2, h3⟩ := hl
  have H3 := Lib.hid h3
  clear h3 hb hd hs hx
  have hm : l.length ≤ 9223372036854775807 := by omega
  unfold syV
  obtain ⟨W0, W1, HX0, HR0, HB0, HZ0, HB1, HOX, HOY, HW⟩ := start_rspot w x
  have HR1 : Hid (R4 W1 W0.heap.size w.heap.size (.slice (some ⟨w.heap.size + 1 + 1, 0, none⟩) 1 1) (.slice (some ⟨w.heap.size + 1 + 1 + 1, 0, none⟩) 1 1) (.slice none 0 0) (besideL (l.take 0) x) (uq (candX (besideL (l.take 0) x))) (uq (candY (besideL (l.take 0) x)))) :=
    ⟨by have := HOX.out; rw [uq_one] at this; exact this, by have := HOY.out; rw [uq_one] at this; exact this, OwnB_nil _ _, by simp [Value.ownBlock]; omega, by simp [Value.ownBlock]; omega⟩
  go_enter Tryz.func44, Tryz.ntmps44
  go_wp2_with fail
  rw [HW.out]
  clear HW
  go_loopw [8, 9, 10, 11] (fun sx sy sb i wr => ∃ k : Nat, k ≤ l.length ∧ i = .int .i64 k ∧ Hid (Below W0.heap.size W0 wr) ∧ Hid (R4 wr W0.heap.size w.heap.size sx sy sb (besideL (l.take k) x) (uq (candX (besideL (l.take k) x))) (uq (candY (besideL (l.take k) x))))) (fun _ _ _ i _ => l.length - (intOf i).toNat)
  case atStart => exact ⟨0, Nat.zero_le _, rfl, HB1, HR1⟩
  case round =>
    obtain ⟨k, hk, rfl, hb, hr⟩ := hrel
    by_cases hlt : k < l.length
    · obtain ⟨b, off, rfl, hc⟩ := H3.out k hlt
      have HBW := Lib.hid (ext_trans HB0.out hb.out)
      obtain ⟨c0, c1, c2, c3, c4, c5, c6, c7⟩ := hc.keep HBW.out
      obtain ⟨W2, HO2, HC2, HW, HZ2⟩ := copyB wr (bri l k)
      have HB2 := Lib.hid (ext_trans hb.out HC2.out)
      clear hc
      go_upto_region 7 with fail
      rw [HW.out]
      clear c0 c1 c2 c3 c4 c5 c6 c7 HW
      refine wp_region_et dkT dkT_ok [berO wr.heap.size 0 (bri l k), berO w.heap.size 0 x] (fun v => v = W2) [(12, 0), (5, 1)] [] [(49, .bool ((bri l k).dock == x.dock && meetT x (bri l k)))] (by kernel_rfl) rfl (obs2 (fun v hv => by subst hv; exact range_new HO2.out) (fun v hv => by subst hv; exact range_new (HX0.out.keep HB2.out))) ⟨rfl, rfl, trivial⟩ ?_
      conv => whnf
      intro f1
      conv => whnf
      refine And.intro ?_ ?_
      · refine congrArg Value.bool ?_
        rw [bs_eq]
        unfold meetT
        rw [Bool.and_assoc, Bool.and_comm (decide ((bri l k).a < x.b))]
      conv => whnf
      intro w' hw'
      subst hw'
      have HBS := Lib.hid (beside_snoc (l.take k) (bri l k) x)
      rw [← take_bri hlt] at HBS
      obtain ⟨mt, hmt⟩ : ∃ mt, ((bri l k).dock == x.dock && meetT x (bri l k)) = mt := ⟨_, rfl⟩
      rw [hmt]
      rw [hmt] at HBS
      clear hmt
      cases mt
      · have HBE : Hid (besideL (l.take (k + 1)) x = besideL (l.take k) x) := by show _ = _; rw [HBS.out, if_neg (by decide)]
        have HR3 : Hid (R4 w' W0.heap.size w.heap.size u8 u9 u10 (besideL (l.take (k + 1)) x) (uq (candX (besideL (l.take (k + 1)) x))) (uq (candY (besideL (l.take (k + 1)) x)))) := by
          show R4 ..; rw [HBE.out]; exact ⟨owns_below hr.out.x HC2.out, owns_below hr.out.y HC2.out, hr.out.b.below HC2.out, hr.out.nx, hr.out.ny⟩
        clear hr
        go_wp2_with fail
        go_roundw
        case rel => exact ⟨k + 1, by omega, by go_num, HB2, HR3⟩
        case measure => simp [intOf]; omega
      have HBE : Hid (besideL (l.take (k + 1)) x = besideL (l.take k) x ++ [bri l k]) := by show _ = _; rw [HBS.out, if_pos rfl]
      have HLN := Lib.hid (show (besideL (l.take k) x).length ≤ k from Nat.le_trans (beside_len _ _) (by rw [List.length_take]; omega))
      have HUX := Lib.hid (uq_len (candX (besideL (l.take k) x)))
      have HUY := Lib.hid (uq_len (candY (besideL (l.take k) x)))
      have hcx : (candX (besideL (l.take k) x)).length ≤ 1001 := by have := HLN.out; unfold candX; simp only [List.length_cons, List.length_map]; omega
      have hcy : (candY (besideL (l.take k) x)).length ≤ 1001 := by have := HLN.out; unfold candY; simp only [List.length_cons, List.length_map]; omega
      obtain ⟨p0, p1, p2, p3, p4, p5, p6, p7⟩ := syC HO2.out
      obtain ⟨t0, t1, t2, t3, t4, t5, t6, t7⟩ := HT.out _ (bri_mem hlt)
      go_wp2_with fail
      clear p0 p1 p2 p3 p4 p5 p6 p7
      refine (put_any _ _ _ _ (ownI_si (owns_below hr.out.x HC2.out)) (by have := HUX.out; omega)).mono ?_
      rintro e w3 ⟨vx, rfl, hox, h3⟩
      have HX3 : Hid (OwnI w3 W0.heap.size vx (putL (uq (candX (besideL (l.take k) x))) ((bri l k).x + (bri l k).len))) := owns_mono hox HB2.out.size
      have NX3 : Hid (vx.ownBlock ≠ some w.heap.size) := fun e => by have := (World.ownsRow.lt hox _ e).1; have := HB2.out.size; have := HZ0.out; omega
      have HB3 := Lib.hid (ext_trans HB2.out h3)
      have HO3 := Lib.hid (HO2.out.keep h3)
      have HY3 : Hid (OwnI w3 W0.heap.size u9 (uq (candY (besideL (l.take k) x)))) := owns_below (owns_below hr.out.y HC2.out) h3
      have HN3 := Lib.hid ((hr.out.b.below HC2.out).below h3)
      rw [putL_uq] at HX3
      clear hox h3 HO2
      obtain ⟨p0, p1, p2, p3, p4, p5, p6, p7⟩ := syC HO3.out
      go_wp2_with fail
      clear p0 p1 p2 p3 p4 p5 p6 p7
      refine (put_any _ _ _ _ (ownI_si HY3.out) (by have := HUY.out; omega)).mono ?_
      rintro e w4 ⟨vy, rfl, hoy, h4⟩
      have HY4 : Hid (OwnI w4 W0.heap.size vy (putL (uq (candY (besideL (l.take k) x))) ((bri l k).y + (bri l k).wid))) := owns_mono hoy HB3.out.size
      have NY4 : Hid (vy.ownBlock ≠ some w.heap.size) := fun e => by have := (World.ownsRow.lt hoy _ e).1; have := HB3.out.size; have := HZ0.out; omega
      have HB4 := Lib.hid (ext_trans HB3.out h4)
      have HO4 := Lib.hid (HO3.out.keep h4)
      have HX4 : Hid (OwnI w4 W0.heap.size vx (uq (candX (besideL (l.take k) x) ++ [(bri l k).x + (bri l k).len]))) := owns_below HX3.out h4
      have HN4 := Lib.hid (HN3.out.below h4)
      rw [putL_uq] at HY4
      clear hoy h4 HO3 HX3 HY3 HN3
      obtain ⟨p0, p1, p2, p3, p4, p5, p6, p7⟩ := syC HO4.out
      have hzw : W0.heap.size ≤ w4.heap.size := HB4.out.size
      have HOA := Lib.hid (HN4.out.alloc (.cells #[.string (bs (bri l k).hull), .string (bs (bri l k).dock), .int .i64 (bri l k).x, .int .i64 (bri l k).y, .int .i64 (bri l k).len, .int .i64 (bri l k).wid, .int .i64 (bri l k).a, .int .i64 (bri l k).b] 50))
      have HSA := Lib.hid (sB_one (bAt_new w4 (bri l k) 50))
      unfold syCs at HSA
      have HL1 : Hid ((besideL (l.take k) x).length + ([bri l k] : List Ber).length ≤ 1000000) := by show _ ≤ _; have := HLN.out; simp only [List.length_singleton]; omega
      go_wp2_with (at_builtin; refine wpList_app_B rfl (.tmp 66) (.tmp 68) rfl W0.heap.size _ (besideL (l.take k) x) [bri l k] rfl HOA.out ⟨w4.heap.size, 0, none⟩ 1 1 rfl HSA.out HL1.out ?c4 ?_)
      case c4 => first | omega | (simp; omega)
      intro v1 w1 ho1 hg1 _
      have HB5 := Lib.hid (grown_below HB4.out (fun q hq => (OwnB.lt HN4.out q hq).1) _ hg1)
      have HR5 : Hid (R4 w1 W0.heap.size w.heap.size vx vy v1 (besideL (l.take (k + 1)) x) (uq (candX (besideL (l.take (k + 1)) x))) (uq (candY (besideL (l.take (k + 1)) x)))) := by
        show R4 ..
        have e1 := World.ownsRow.kept (OwnI.alloc HX4.out (.cells (syCs (bri l k)) 50)) hg1 (owns_ne HX4.out HN4.out (by decide))
        have e2 := World.ownsRow.kept (OwnI.alloc HY4.out (.cells (syCs (bri l k)) 50)) hg1 (owns_ne HY4.out HN4.out (by decide))
        rw [HBE.out]; unfold candX candY at *
        rw [List.map_append, List.map_append]
        exact ⟨e1, e2, ho1, NX3.out, NY4.out⟩
      clear p0 p1 p2 p3 p4 p5 p6 p7 t0 t1 t2 t3 t4 t5 t6 t7 ho1 hg1 HOA HSA HX4 HY4 HN4 HO4 hr
      go_wp2_with fail
      go_roundw
      case rel => exact ⟨k + 1, by omega, by go_num, HB5, HR5⟩
      case measure => simp [intOf]; omega
    · obtain rfl : k = l.length := by omega
      have HR : Hid (R4 wr W0.heap.size w.heap.size u8 u9 u10 (besideL l x) (uq (candX (besideL l x))) (uq (candY (besideL l x)))) := by have := hr.out; rw [List.take_length] at this; exact this
      have HLN := Lib.hid (beside_len l x)
      have HBW := Lib.hid (ext_trans HB0.out hb.out)
      have NB : Hid (u10.ownBlock ≠ some w.heap.size) := fun e => by have := (OwnB.lt HR.out.b _ e).1; have := HZ0.out; omega
      have HX1 := Lib.hid (ownI_si HR.out.x)
      have HY1 := Lib.hid (ownI_si HR.out.y)
      have HS1 := Lib.hid HR.out.b.s
      have NX : Hid (u8.ownBlock ≠ some w.heap.size) := HR.out.nx
      have NY : Hid (u9.ownBlock ≠ some w.heap.size) := HR.out.ny
      have n1 : (uq (candX (besideL l x))).length ≤ 1001 := by have := uq_len (candX (besideL l x)); have := HLN.out; unfold candX at *; simp only [List.length_cons, List.length_map] at *; omega
      have n2 : (uq (candY (besideL l x))).length ≤ 1001 := by have := uq_len (candY (besideL l x)); have := HLN.out; unfold candY at *; simp only [List.length_cons, List.length_map] at *; omega
      have HP0 : Hid (∃ X Y, P4 w wr x u10 u9 u8 (besideL l x) (uq (candY (besideL l x))) (uq (candX (besideL l x))) X Y) := ⟨x.x, x.y, HY1.out, HX1.out, HS1.out, HX0.out.keep hb.out, HR0.out.keep hb.out, HBW.out⟩
      have HMISS := Lib.hid (spotV_miss (bays := bays) (l := l) (z := x))
      have HHIT := Lib.hid (fun k X => spotV_hit (bays := bays) (l := l) (z := x) (k := k) (X := X))
      obtain ⟨Xs, hXs⟩ : ∃ Xs, uq (candX (besideL l x)) = Xs := ⟨_, rfl⟩
      obtain ⟨Ys, hYs⟩ : ∃ Ys, uq (candY (besideL l x)) = Ys := ⟨_, rfl⟩
      rw [hXs] at HX1 HP0 HMISS HHIT n1
      rw [hYs] at HY1 HP0 HMISS HHIT n2
      have hx := HX1.out; have hy := HY1.out; have hs := HS1.out
      obtain ⟨xa, xc, rfl, x1, x2, x3⟩ := hx
      obtain ⟨ya, yc, rfl, y1, y2, y3⟩ := hy
      obtain ⟨sa, sc, rfl, s1, s2, s3⟩ := hs
      clear hXs hYs HX1 HY1 HS1 HR x3 y3 s3 hr
      unfold maxLen at x2 y2 s2
      go_wp2_with fail
      go_loopw [13] (fun i wr => ∃ j : Nat, j ≤ Ys.length ∧ i = .int .i64 j ∧ Hid (∃ X Y, P4 w wr x (.slice sa (besideL l x).length sc) (.slice ya Ys.length yc) (.slice xa Xs.length xc) (besideL l x) Ys Xs X Y) ∧ Hid (∀ j', j' < j → rowP (fun X Y => stayE bays (besideL l x) (x.put X Y) == 0) Xs (gz Ys j') = none)) (fun i _ => Ys.length - (intOf i).toNat)
      case atStart => exact ⟨0, Nat.zero_le _, rfl, HP0, Lib.hid fun j hj => by omega⟩
      case round =>
        obtain ⟨j, hj, rfl, hp, hf⟩ := hrel
        by_cases hlt : j < Ys.length
        · go_wp2_with fail
          go_loopw [14] (fun i wr => ∃ i' : Nat, i' ≤ Xs.length ∧ i = .int .i64 i' ∧ Hid (∃ X Y, P4 w wr x (.slice sa (besideL l x).length sc) (.slice ya Ys.length yc) (.slice xa Xs.length xc) (besideL l x) Ys Xs X Y) ∧ Hid (∀ j', j' < i' → (stayE bays (besideL l x) (x.put (gz Xs j') (gz Ys j)) == 0) = false)) (fun i _ => Xs.length - (intOf i).toNat)
          case atStart => exact ⟨0, Nat.zero_le _, rfl, hp, Lib.hid fun j hj => by omega⟩
          case round =>
            obtain ⟨i, hi, rfl, hp2, hf2⟩ := hrel
            by_cases hlt2 : i < Xs.length
            · obtain ⟨X1, Y1, hp3⟩ := hp2.out
              have hx := hp3.fe
              have hy := hp3.fl
              obtain ⟨xb, xo, rfl⟩ : ∃ b o, xa = some ⟨b, o, none⟩ := by
                obtain ⟨a', c', e', q1, q2, q3⟩ := hx
                obtain ⟨b', o', h', _⟩ := q3 i hlt2
                simp only [Value.slice.injEq] at e'
                exact ⟨b', o', by rw [e'.1, h']⟩
              obtain ⟨yb, yo, rfl⟩ : ∃ b o, ya = some ⟨b, o, none⟩ := by
                obtain ⟨a', c', e', q1, q2, q3⟩ := hy
                obtain ⟨b', o', h', _⟩ := q3 j hlt
                simp only [Value.slice.injEq] at e'
                exact ⟨b', o', by rw [e'.1, h']⟩
              have hxc := hx.at' hlt2
              have hyc := hy.at' hlt
              obtain ⟨c0, c1, c2, c3, c4, c5, c6, c7⟩ := syC hp3.ox
              have HP := Lib.hid (hp3.put NY.out NX.out NB.out (gi Xs i) (gi Ys j))
              have f2 : wr.frozen? ⟨w.heap.size, 2, none⟩ = false := obj_free hp3.ox 2
              have f3 : wr.frozen? ⟨w.heap.size, 3, none⟩ = false := obj_free hp3.ox 3
              have i1 : (i : Int) < Xs.length := by omega
              have j1 : (j : Int) < Ys.length := by omega
              clear hx hy hp3 hp2
              go_upto_region 17 with fail
              go_region
              obtain ⟨W2, HW⟩ : ∃ W2, ((wr.setCell ⟨w.heap.size, 2, none⟩ (.int .i64 (gi Xs i))).setCell ⟨w.heap.size, 3, none⟩ (.int .i64 (gi Ys j))).drew = W2 := ⟨_, rfl⟩
              have HP2 := Lib.hid (HP.out.below (Below.refl _ _).drew)
              rw [HW] at HP2 ⊢
              clear HW HP c0 c1 c2 c3 c4 c5 c6 c7 f2 f3 hxc hyc i1 j1
              have HBS : Hid (∀ u ∈ besideL l x, SmB u) := fun u hu => (HT.out u (beside_mem hu)).sm
              obtain ⟨c0, c1, c2, c3, c4, c5, c6, c7⟩ := syC HP2.out.ox
              go_wp2_with fail
              clear c0 c1 c2 c3 c4 c5 c6 c7
              refine (rstay_any _ _ bays (besideL l x) (x.put (gi Xs i) (gi Ys j)) W2 (HSD.out.keep HP2.out.bw) HP2.out.fb.y HX.out HD.out HBS.out).mono ?_
              rintro e w3 ⟨rfl, h3⟩
              have HP3 := Lib.hid (HP2.out.below h3)
              clear h3 HP2
              by_cases htk : stayE bays (besideL l x) (x.put (gi Xs i) (gi Ys j)) = 0
              rotate_left
              · have nz : (stayE bays (besideL l x) (x.put (gi Xs i) (gi Ys j)) == 0) = false := beq_eq_false_iff_ne.2 htk
                have HJ := Lib.hid (upto (q := fun j' => (stayE bays (besideL l x) (x.put (gz Xs j') (gz Ys j)) == 0) = false) hf2.out nz)
                have HQ : Hid (∃ X Y, P4 w w3 x (.slice sa (besideL l x).length sc) (.slice (some ⟨yb, yo, none⟩) Ys.length yc) (.slice (some ⟨xb, xo, none⟩) Xs.length xc) (besideL l x) Ys Xs X Y) := ⟨_, _, HP3.out⟩
                clear htk HP3
                go_wp2_with fail
                go_roundw
                case rel => exact ⟨i + 1, by omega, by go_num, HQ, HJ⟩
                case measure => simp [intOf]; omega
              · have HV : Hid (spotV bays l x = .tuple #[.agg (syCs (x.put (gi Xs i) (gi Ys j))), .bool true]) := HHIT.out j _ hlt hf.out (rowP_hit hlt2 hf2.out (by show (stayE bays (besideL l x) (x.put (gi Xs i) (gi Ys j)) == 0) = true; rw [htk]; rfl))
                have HO := Lib.hid HP3.out.orr
                have HB := Lib.hid HP3.out.bw
                obtain ⟨c0, c1, c2, c3, c4, c5, c6, c7⟩ := syC HP3.out.ox
                rw [htk]
                clear htk HP3
                go_wp2_with (refine wpList_store_row (o := ⟨none, .store _ _ _, _, _, _, _⟩) rfl 50 (.tmp 6) (.tmp 97) rfl (w.heap.size + 1) (syCs (x.put (gi Xs i) (gi Ys j))) rfl rfl 50 _ HO.out info_Berth rfl (one_ber _) ?_)
                refine bodyPost_ret (v := .tuple #[.agg (syCs (x.put (gi Xs i) (gi Ys j))), .bool true]) (results_two Tryz.results44 rfl rfl (load_Ber (setRow_heap _ _ _ _ _ _ HO.out))) rfl ⟨by rw [HV.out], below_setRow HB.out (by omega) _⟩
            · obtain rfl : i = Xs.length := by omega
              have HJ := Lib.hid (upto (q := fun j' => rowP (fun X Y => stayE bays (besideL l x) (x.put X Y) == 0) Xs (gz Ys j') = none) hf.out (rowP_miss hf2.out))
              go_wp2_with fail
              go_roundw
              case rel => exact ⟨j + 1, by omega, by go_num, hp2, HJ⟩
              case measure => simp [intOf]; omega
        · obtain rfl : j = Ys.length := by omega
          obtain ⟨X, Y, hp1⟩ := hp.out
          have HO := Lib.hid hp1.orr
          have HB := Lib.hid hp1.bw
          have HV : Hid (spotV bays l x = .tuple #[.agg (syCs default), .bool false]) := HMISS.out hf.out
          clear hp1 hp
          go_wp2_with (refine wpList_store_row (o := ⟨none, .store _ _ _, _, _, _, _⟩) rfl 50 (.tmp 6) (.tmp 98) rfl (w.heap.size + 1) (syCs default) rfl rfl 50 _ HO.out info_Berth rfl (one_ber _) ?_)
          refine bodyPost_ret (v := .tuple #[.agg (syCs default), .bool false]) (results_two Tryz.results44 rfl rfl (load_Ber (setRow_heap _ _ _ _ _ _ HO.out))) rfl ⟨by rw [HV.out], below_setRow HB.out (by omega) _⟩
end Go.Proofs.YtlmfcigabojbmaaGreatDoor

/- Contract: Fit of bay's reference. -/
namespace Go.Proofs.YtlmfcigabojbmaaGreatDoor
open Go.RowKit

theorem build_span (a b : Int) (w : World) : (Instr.build 46 #[(0, .int .i64 a), (1, .int .i64 b)]).run Tryz.prog w = .ok (.agg #[.int .i64 a, .int .i64 b]) w := by go_simp
theorem build_ber (h d : ByteArray) (len wid a b : Int) (w : World) : (Instr.build 50 #[(0, .string h), (1, .string d), (3, .int .i64 len), (4, .int .i64 wid), (5, .agg #[.int .i64 a, .int .i64 b])]).run Tryz.prog w = .ok (.agg #[.string h, .string d, .int .i64 0, .int .i64 0, .int .i64 len, .int .i64 wid, .int .i64 a, .int .i64 b]) w := by go_simp
theorem intR {w : World} {b off : Nat} {v : Value} (h : w.cell? ⟨b, off, none⟩ = some v) : w.rangeAt b off [v] := fun j u hj => by
  match j with
  | 0 => cases hj; exact h
  | j + 1 => cases hj
theorem ends_take {l : List Ber} {k : Nat} (hk : k < l.length) (a : Int) : endsL (l.take (k + 1)) a = if decide (a < (bri l k).b) = true then endsL (l.take k) a ++ [(bri l k).b] else endsL (l.take k) a := by
  unfold endsL
  rw [take_bri hk, filter_snoc (fun u : Ber => decide (a < u.b)) (·.b)]
  split
  · rfl
  · rfl
structure P6 (w w' : World) (x : Ber) (tv : Value) (ts : List Int) : Prop where
  ox : ObjAt w' w.heap.size (syCs x) 50
  orr : ObjAt w' (w.heap.size + 1) (syCs default) 50
  ft : SI w' tv ts
  bw : Below w.heap.size w w'
theorem P6.below {w w' w'' : World} {x : Ber} {tv : Value} {ts : List Int} (h : P6 w w' x tv ts) (hb : Below w'.heap.size w' w'') : P6 w w'' x tv ts := ⟨h.ox.keep hb, h.orr.keep hb, h.ft.keep hb, ext_trans h.bw hb⟩
theorem in_side {n : Int} : (decide (1 ≤ n) && decide (n ≤ 524288)) = sideB n := rfl
set_option maxRecDepth 100000 in
set_option maxHeartbeats 2000000 in
theorem rFit_any (bv lv : Value) (bays : List DBay) (l : List Ber) (x : Ber) (hours : Int) (w : World) (hb : SD w bv bays) (hl : SB w lv l) (hsd : StrD bays maxLen) (hsb : StrB l 1100000) (hx : x.hull.length ≤ 1100000) (hn : l.length < 128) (hok : planE bays l = 0) (hid : idB x.hull = true) (hak : askB x hours = true) :
    Calls Tryz.prog 18 #[bv, lv, syV x, .int .i64 hours] w (Ret w (fitV bays l x hours)) := by
  have HD := Lib.hid hb; have HL := Lib.hid hl; have HSD := Lib.hid hsd; have HSB := Lib.hid hsb; have HX := Lib.hid hx; have HOK := Lib.hid hok; have HID := Lib.hid hid; have HAK := Lib.hid hak
  obtain ⟨da, dc, rfl, d1, d2, d3⟩ := hb
  obtain ⟨la, lc, rfl, l1, l2, l3⟩ := hl
  have D3 := Lib.hid d3; have L3 := Lib.hid l3
  clear hsd hsb d3 l3 hx hok hid hak
  unfold maxLen at d2 l2
  obtain ⟨W0, HXB0, HR0, HB0, HZ0, HW⟩ := start_fit w x
  unfold syV
  go_enter Tryz.func18, Tryz.ntmps18
  go_wp2_with fail
  rw [HW.out]
  clear HW
  refine (rCheck_any _ _ bays l W0 (HD.out.keep HB0.out) (HL.out.keep HB0.out).y HSD.out HSB.out).mono ?_
  rintro e w1 ⟨rfl, h1⟩
  rw [HOK.out]
  have HB1 := Lib.hid (ext_trans HB0.out h1)
  have HX1 := Lib.hid (HXB0.out.keep h1)
  have HR1 := Lib.hid (HR0.out.keep h1)
  clear h1 HXB0 HR0
  have p0 := (syC HX1.out).c0
  go_wp2_with fail
  clear p0
  refine (rIsId_any _ _ (by rw [bs_size]; exact HX.out)).mono ?_
  rintro e w2 ⟨rfl, h2⟩
  rw [bs_list, HID.out]
  have HB2 := Lib.hid (ext_trans HB1.out h2)
  have HX2 := Lib.hid (HX1.out.keep h2)
  have HR2 := Lib.hid (HR1.out.keep h2)
  clear h2 HX1 HR1
  have HHR := Lib.hid (ask_iff.1 HAK.out)
  go_upto_region 6 with fail
  refine wp_region_et dkT dkT_ok [berO w.heap.size 0 x] (fun w' => w' = w2) [(6, 0)] [(32, .ret (.bool true)), (37, .ret (.bool true)), (42, .ret (.bool true)), (49, .ret (.bool true))] [(51, .bool false)] (by kernel_rfl) rfl (obs1 fun w' hw' => by subst hw'; exact range_new HX2.out) ⟨rfl, trivial⟩ ?_
  conv => whnf
  refine And.intro (under_of fun w' hw' => by subst hw'; refine (in41_any _ _ _ _).mono fun e v' he => ⟨?_, he.2⟩; rw [he.1]; have h := HHR.out; simp only [decide_eq_true h.1.1, decide_eq_true h.1.2, Bool.and_self]) ?_
  conv => whnf
  refine And.intro (under_of fun w' hw' => by subst hw'; refine (in41_any _ _ _ _).mono fun e v' he => ⟨?_, he.2⟩; rw [he.1]; have h := HHR.out; simp only [decide_eq_true h.2.1.1, decide_eq_true h.2.1.2, Bool.and_self]) ?_
  conv => whnf
  refine And.intro (under_of fun w' hw' => by subst hw'; refine (in41_any _ _ _ _).mono fun e v' he => ⟨?_, he.2⟩; rw [he.1]; have h := HHR.out; simp only [decide_eq_true h.2.2.1.1, decide_eq_true h.2.2.1.2, Bool.and_self]) ?_
  conv => whnf
  refine And.intro (under_of fun w' hw' => by subst hw'; refine (in41_any _ _ _ _).mono fun e v' he => ⟨?_, he.2⟩; rw [he.1]; have h := HHR.out; simp only [decide_eq_true h.2.2.2.1, decide_eq_true h.2.2.2.2, Bool.and_self]) ?_
  conv => whnf
  intro f
  conv => whnf
  refine And.intro rfl ?_
  conv => whnf
  intro w' hw'
  subst hw'
  have q6 := (syC HX2.out).c6
  have i0 : ¬ (128 : Int) ≤ l.length := by omega
  obtain ⟨W3, hW3⟩ : ∃ W3, w'.alloc (.cells #[.int .i64 x.a] 3) = W3 := ⟨_, rfl⟩
  have HT3 : Hid (SI W3 (.slice (some ⟨w'.heap.size, 0, none⟩) 1 1) (uq (endsL (l.take 0) x.a))) := by
    show SI _ _ _
    rw [← hW3, show uq (endsL (l.take 0) x.a) = [x.a] from (uq_one _).symm]; exact SI_one w' x.a 3
  have HC3 : Hid (Below w'.heap.size w' W3) := by show Below _ _ _; rw [← hW3]; exact (Below.refl _ _).alloc (Nat.le_refl _) _
  have HB3 := Lib.hid (ext_trans HB2.out HC3.out)
  have HX3 := Lib.hid (HX2.out.keep HC3.out)
  have HR3 := Lib.hid (HR2.out.keep HC3.out)
  have HW3 := Lib.hid hW3
  clear hW3
  go_wp2_with fail
  rw [HW3.out]
  clear q6 HW3 HC3 HX2 HR2 i0
  go_loopw [11, 12] (fun tv i wr => ∃ k : Nat, k ≤ l.length ∧ i = .int .i64 k ∧ Hid (Below W3.heap.size W3 wr) ∧ Hid (SI wr tv (uq (endsL (l.take k) x.a)))) (fun _ i _ => l.length - (intOf i).toNat)
  case atStart => exact ⟨0, Nat.zero_le _, rfl, Lib.hid (Below.refl _ _), HT3⟩
  case round =>
    obtain ⟨k, hk, rfl, hb1, ht1⟩ := hrel
    by_cases hlt : k < l.length
    · obtain ⟨b, off, rfl, hc⟩ := L3.out k hlt
      have HXW := Lib.hid (HX3.out.keep hb1.out)
      have HBW := Lib.hid (ext_trans HB3.out hb1.out)
      have HC := Lib.hid (bAt_range (hc.keep HBW.out))
      have HC0 := Lib.hid (hc.keep HBW.out)
      have HEN := Lib.hid (ends_take hlt x.a)
      clear hc
      go_upto_region 14 with fail
      refine wp_region_ev dkT dkT_ok [berO b (off + k * 8) (bri l k), berO w.heap.size 0 x] (Below wr.heap.size wr) [(6, 1)] [(69, .ix k 0)] [(76, .bool (decide (x.a < (bri l k).b)))] (by kernel_rfl) mixed (by kernel_rfl) ((Below.refl _ _).drew) (obs2 (fun v hv => rangeKeep HC.out hv) (fun v hv => rangeKeep (range_new HXW.out) hv)) ⟨rfl, trivial⟩ ?_
      conv => whnf
      refine And.intro (under_of ⟨rfl, hlt, rfl, rfl⟩) ?_
      conv => whnf
      intro f1
      conv => whnf
      refine And.intro rfl ?_
      conv => whnf
      intro w5 h5
      have HB5 := Lib.hid (ext_trans hb1.out h5)
      have HT5 := Lib.hid (ht1.out.keep h5)
      have HC5 := Lib.hid (HC0.out.keep h5)
      obtain ⟨ex, hex⟩ : ∃ ex, decide (x.a < (bri l k).b) = ex := ⟨_, rfl⟩
      rw [hex] at HEN ⊢
      clear h5 HC HC0 hex HXW
      cases ex
      · have HT6 : Hid (SI w5 u11 (uq (endsL (l.take (k + 1)) x.a))) := by show SI _ _ _; rw [HEN.out, if_neg (by decide)]; exact HT5.out
        clear HEN
        go_wp2_with fail
        go_roundw
        case rel => exact ⟨k + 1, by omega, by go_num, HB5, HT6⟩
        case measure => simp [intOf]; omega
      · obtain ⟨c0, c1, c2, c3, c4, c5, c6, c7⟩ := HC5.out
        have n0 : (uq (endsL (l.take k) x.a)).length ≤ 1000 := by
          have := uq_len (endsL (l.take k) x.a)
          have := filter_len (fun u : Ber => decide (x.a < u.b)) (·.b) (l.take k)
          rw [List.length_take] at this
          unfold endsL at *; simp only [List.length_cons] at *; omega
        go_wp2_with fail
        clear c0 c1 c2 c3 c4 c5 c6 c7
        refine (put_any _ _ _ _ HT5.out (by omega)).mono ?_
        rintro e w6 ⟨tv, rfl, ho, h6⟩
        have HT6 : Hid (SI w6 tv (uq (endsL (l.take (k + 1)) x.a))) := by
          show SI _ _ _; rw [HEN.out]; simp only [reduceIte]; rw [← putL_uq]; exact ownI_si ho
        have HB6 := Lib.hid (ext_trans HB5.out h6)
        clear HEN ho h6
        go_wp2_with fail
        go_roundw
        case rel => exact ⟨k + 1, by omega, by go_num, HB6, HT6⟩
        case measure => simp [intOf]; omega
    · obtain rfl : k = l.length := by omega
      have HT4 : Hid (SI wr u11 (uq (endsL l x.a))) := by have := ht1.out; rw [List.take_length] at this; exact this
      have HB4 := Lib.hid (ext_trans HB3.out hb1.out)
      have HX4 := Lib.hid (HX3.out.keep hb1.out)
      have HR4 := Lib.hid (HR3.out.keep hb1.out)
      have HSM : Hid (∀ t, t ∈ uq (endsL l x.a) → 0 ≤ t ∧ t ≤ 1048576) := fun t ht => starts_small ((planE_iff bays l).1 HOK.out) (ask_iff.1 HAK.out).2.2.2 (uq_mem.1 ht)
      have HMISS := Lib.hid (fitV_miss (bays := bays) (l := l) (x := x) (hours := hours))
      have HHIT := Lib.hid (fun k y => fitV_hit (bays := bays) (l := l) (x := x) (hours := hours) (k := k) (y := y))
      have HTI := Lib.hid (tiB_of ((planE_iff bays l).1 HOK.out) (sides_plan ((planE_iff bays l).1 HOK.out)))
      have HSI := Lib.hid (sides_plan ((planE_iff bays l).1 HOK.out))
      have n0 : (uq (endsL l x.a)).length ≤ 1000 := by
        have := uq_len (endsL l x.a)
        have := filter_len (fun u : Ber => decide (x.a < u.b)) (·.b) l
        unfold endsL at *; simp only [List.length_cons] at *; omega
      obtain ⟨ts, hts⟩ : ∃ ts, uq (endsL l x.a) = ts := ⟨_, rfl⟩
      rw [hts] at HT4 HSM HMISS HHIT n0
      have HP0 : Hid (P6 w wr x u11 ts) := ⟨HX4.out, HR4.out, HT4.out, HB4.out⟩
      obtain ⟨ta, tc, rfl, t1, t2, t3⟩ := HT4.out
      clear hts t3 ht1 HX3 HR3 HT3 HX4 HR4 HT4 HB4
      unfold maxLen at t2
      go_wp2_with fail
      go_loopw [13] (fun i wr => ∃ k : Nat, k ≤ ts.length ∧ i = .int .i64 k ∧ Hid (P6 w wr x (.slice ta ts.length tc) ts) ∧ Hid (∀ j, j < k → bayF bays l x hours (gi ts j) = none)) (fun i _ => ts.length - (intOf i).toNat)
      case atStart => exact ⟨0, Nat.zero_le _, rfl, HP0, Lib.hid fun j hj => by omega⟩
      case round =>
        obtain ⟨k, hk2, rfl, hp1, hf1⟩ := hrel
        by_cases hlt : k < ts.length
        · have ht := hp1.out.ft
          obtain ⟨tb, tof, rfl⟩ : ∃ b o, ta = some ⟨b, o, none⟩ := by
            obtain ⟨a', c', e', q1, q2, q3⟩ := ht
            obtain ⟨b', o', h', _⟩ := q3 k hlt
            simp only [Value.slice.injEq] at e'
            exact ⟨b', o', by rw [e'.1, h']⟩
          clear ht
          go_wp2_with fail
          go_loopw [14] (fun i wr => ∃ m : Nat, m ≤ bays.length ∧ i = .int .i64 m ∧ Hid (P6 w wr x (.slice (some ⟨tb, tof, none⟩) ts.length tc) ts) ∧ Hid (∀ j, j < m → spotF bays l (mkBer x.hull (byi bays j) x.len x.wid (gi ts k) (gi ts k + hours)) = none)) (fun i _ => bays.length - (intOf i).toNat)
          case atStart => exact ⟨0, Nat.zero_le _, rfl, hp1, Lib.hid fun j hj => by omega⟩
          case round =>
            obtain ⟨m, hm, rfl, hp2, hf2⟩ := hrel
            by_cases hlt2 : m < bays.length
            · obtain ⟨db, do_, rfl, hc⟩ := D3.out m hlt2
              have HXE := Lib.hid (range_new hp2.out.ox)
              have HDC := Lib.hid (dAt_range (hc.keep hp2.out.bw))
              have HTC2 := Lib.hid (intR (hp2.out.ft.at' hlt))
              have hsr := HSM.out _ (gi_mem hlt)
              have hhr := HHR.out.2.2.1
              clear hc
              go_upto_region 22 with fail
              refine wp_region_as dkT dkT_ok [berO w.heap.size 0 x, bayO db (do_ + m * 3) (byi bays m), ⟨tb, tof + k, [.int .i64 (gi ts k)]⟩] [(6, 0)] [(101, .ix m 1), (110, .ix k 2), (114, .ix k 2), (118, .ret (.agg #[.int .i64 (gi ts k), .int .i64 (gi ts k + hours)])), (119, .ret (syV (mkBer x.hull (byi bays m) x.len x.wid (gi ts k) (gi ts k + hours))))] [] 23 24 15 119 50 (syCs default) (syCs (mkBer x.hull (byi bays m) x.len x.wid (gi ts k) (gi ts k + hours))) (by kernel_rfl) mixed (by kernel_rfl) rfl ⟨_, rfl, rfl, rfl⟩ ⟨_, rfl, rfl, rfl, ⟨23, .data⟩, by simp, rfl, rfl⟩ alloc_Berth info_Berth rfl (one_ber _) (obs3 (fun v hv => rangeKeep HXE.out hv) (fun v hv => rangeKeep HDC.out hv) (fun v hv => rangeKeep HTC2.out hv)) ⟨rfl, trivial⟩ ?_
              conv => whnf
              refine And.intro (under_of ⟨rfl, hlt2, rfl, rfl⟩) ?_
              conv => whnf
              refine And.intro (under_of ⟨rfl, hlt, rfl, by show tof + k = tof + k * 1; omega⟩) ?_
              conv => whnf
              refine And.intro (under_of ⟨rfl, hlt, rfl, by show tof + k = tof + k * 1; omega⟩) ?_
              conv => whnf
              refine And.intro (under_of (by show _ ≤ gi ts k + hours ∧ gi ts k + hours ≤ _; omega)) ?_
              conv => whnf
              refine And.intro (under_of fun w => build_span _ _ w) ?_
              conv => whnf
              refine And.intro (under_of fun w => build_ber _ _ _ _ _ _ w) ?_
              conv => whnf
              refine And.intro rfl ?_
              intro f2 nb
              conv => whnf
              intro w7 h7 _ hy7
              have HP7 := Lib.hid (hp2.out.below h7)
              have HY7 := Lib.hid hy7
              obtain ⟨zz, hzz⟩ : ∃ zz, mkBer x.hull (byi bays m) x.len x.wid (gi ts k) (gi ts k + hours) = zz := ⟨_, rfl⟩
              rw [hzz] at HY7
              have HZZ := Lib.hid hzz
              have HZH : Hid (zz.hull = x.hull) := by show _ = _; rw [← hzz]; rfl
              clear h7 hy7 HXE HDC HTC2 hzz hsr hhr hp2
              obtain ⟨c0, c1, c2, c3, c4, c5, c6, c7⟩ := syC HY7.out
              go_wp2_with fail
              clear c0 c1 c2 c3 c4 c5 c6 c7
              refine (rspot_any _ _ bays l zz w7 (HD.out.keep HP7.out.bw) (HL.out.keep HP7.out.bw) (by omega) HSI.out HTI.out (by rw [HZH.out]; exact HX.out)).mono ?_
              rintro e w8 ⟨rfl, h8⟩
              obtain ⟨y, fl, hy, hfl⟩ := spotV_form bays l zz
              rw [hy]
              have HFL := Lib.hid hfl
              have HP8 := Lib.hid (HP7.out.below h8)
              have HN := Lib.hid (heap_alloc_new w8 (.cells (syCs default) 50))
              obtain ⟨W9, hW9⟩ : ∃ W9, W9 = w8.alloc (.cells (syCs y) 50) := ⟨_, rfl⟩
              have HW : Hid ((w8.alloc (.cells #[.string ⟨#[]⟩, .string ⟨#[]⟩, .int .i64 0, .int .i64 0, .int .i64 0, .int .i64 0, .int .i64 0, .int .i64 0] 50)).setRow w8.heap.size (syCs y) = W9) := by
                rw [hW9]; exact World.setRow_alloc_new _ _ _ _
              have HY9 : Hid (ObjAt W9 w8.heap.size (syCs y) 50) := by rw [hW9]; exact ObjAt.new _ _ _
              have HP9 : Hid (P6 w W9 x (.slice (some ⟨tb, tof, none⟩) ts.length tc) ts) := by rw [hW9]; exact HP8.out.below ((Below.refl _ _).alloc (Nat.le_refl _) _)
              clear hW9 hfl h8 hy HP7 HP8 HZH HY7
              go_upto_region 24 with ((refine wpList_store_row (o := ⟨none, .store _ _ _, _, _, _, _⟩) rfl 50 (.tmp 16) (.tmp 125) rfl w8.heap.size (syCs y) rfl rfl 50 _ HN.out info_Berth rfl (one_ber _) ?_); (rw [HW.out]))
              clear HN HW
              cases fl
              · have HJ := Lib.hid (upto (q := fun j => spotF bays l (mkBer x.hull (byi bays j) x.len x.wid (gi ts k) (gi ts k + hours)) = none) hf2.out (by
                  rw [HZZ.out]
                  rcases HFL.out with ⟨h, _⟩ | ⟨_, h⟩
                  · cases h
                  · exact h))
                go_wp2_with fail
                go_roundw
                case rel => exact ⟨m + 1, by omega, by go_num, HP9, HJ⟩
                case measure => simp [intOf]; omega
              · have HV : Hid (fitV bays l x hours = .tuple #[.agg (syCs y), .int .i64 0]) := by
                  rcases HFL.out with ⟨_, p, h1, rfl⟩ | ⟨h, _⟩
                  · rw [← HZZ.out] at h1 ⊢
                    exact HHIT.out k _ hlt hf1.out (bayF_hit hlt2 hf2.out h1)
                  · cases h
                have HO := Lib.hid HP9.out.orr
                have HB := Lib.hid HP9.out.bw
                obtain ⟨c0, c1, c2, c3, c4, c5, c6, c7⟩ := syC HY9.out
                go_wp2_with (refine wpList_store_row (o := ⟨none, .store _ _ _, _, _, _, _⟩) rfl 50 (.tmp 8) (.tmp 128) rfl (w.heap.size + 1) (syCs y) rfl rfl 50 _ HO.out info_Berth rfl (one_ber _) ?_)
                refine bodyPost_ret (v := .tuple #[.agg (syCs y), .int .i64 0]) (results_two Tryz.results18 rfl rfl (load_Ber (setRow_heap _ _ _ _ _ _ HO.out))) rfl ⟨by rw [HV.out], below_setRow HB.out (by omega) _⟩
            · obtain rfl : m = bays.length := by omega
              have HJ := Lib.hid (upto (q := fun j => bayF bays l x hours (gi ts j) = none) hf1.out (bayF_miss hf2.out))
              go_wp2_with fail
              go_roundw
              case rel => exact ⟨k + 1, by omega, by go_num, hp2, HJ⟩
              case measure => simp [intOf]; omega
        · obtain rfl : k = ts.length := by omega
          have HO := Lib.hid hp1.out.orr
          have HB := Lib.hid hp1.out.bw
          have HV : Hid (fitV bays l x hours = .tuple #[.agg (syCs default), .int .i64 18]) := HMISS.out hf1.out
          go_wp2_with (refine wpList_store_row (o := ⟨none, .store _ _ _, _, _, _, _⟩) rfl 50 (.tmp 8) (.tmp 129) rfl (w.heap.size + 1) (syCs default) rfl rfl 50 _ HO.out info_Berth rfl (one_ber _) ?_)
          refine bodyPost_ret (v := .tuple #[.agg (syCs default), .int .i64 18]) (results_two Tryz.results18 rfl rfl (load_Ber (setRow_heap _ _ _ _ _ _ HO.out))) rfl ⟨by rw [HV.out], below_setRow HB.out (by omega) _⟩
end Go.Proofs.YtlmfcigabojbmaaGreatDoor
