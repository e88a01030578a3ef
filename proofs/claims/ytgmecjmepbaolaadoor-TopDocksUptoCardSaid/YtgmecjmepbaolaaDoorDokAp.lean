/- Drawn regions that make a list of berths with one more: append(append([]Berth{}, l...), x). -/
import Derived.Test.YtgmecjmepbaolaaDoorDokQ
import Derived.Test.YtgmecjmepbaolaaDoorQca
set_option linter.unusedSimpArgs false
set_option linter.unusedVariables false
namespace Go.Proofs.YtgmecjmepbaolaaDoor
open Go.RowKit

theorem wp_app_nil_B {o : Oper} {a : Act} {K : Act → World → Prop} {Q : Exit → Act → World → Prop} {w : World} (s x : Operand)
    (ho : o.op = .call { callee := .builtin .append, args := #[s, x], argTypes := #[23, 23] }) (B : Nat) (v : Value) (l : List Ber) (hs : a.eval s = v) (hown : OwnB w B v l) (hx : a.eval x = .slice none 0 0)
    (h : K (a.put o.dst v) w) : o.wp Tryd.prog a w K Q := by
  obtain ⟨i, hi, hz0, hz1, hz2⟩ := info_parts Tryd_infoBerth
  have hr := run_append_owned_none (P := Tryd.prog) (w := w) B 23 o.type 29 i 8 Tryd.underlying23 hi v l.length _ hown
  unfold Oper.wp execOp
  simp only [ho, resolve, invoke, builtin, Sem.run_bind, Sem.run_pure, Result.andThen_ok, List.map_toArray, List.map_cons, List.map_nil, hs, hx, hr]
  exact h
/-- the builtin append onto a row of one's own, whatever is appended -/
theorem wp_app_SB {o : Oper} {a : Act} {K : Act → World → Prop} {Q : Exit → Act → World → Prop} {w : World} (s x : Operand)
    (ho : o.op = .call { callee := .builtin .append, args := #[s, x], argTypes := #[23, 23] }) (B : Nat) (v u : Value) (l m : List Ber) (hs : a.eval s = v) (hown : OwnB w B v l)
    (hx : a.eval x = u) (hy : SB w u m) (hnil : u = .slice none 0 0 ∨ ∃ ad n c, u = .slice (some ad) n c) (hlen : l.length + m.length ≤ 1000000) (hb : B ≤ w.heap.size)
    (h : ∀ v' w', OwnB w' B v' (l ++ m) → w.grownBy w' v.ownBlock → (v'.ownBlock = v.ownBlock ∨ v'.ownBlock = some w.heap.size) → K (a.put o.dst v') w') : o.wp Tryd.prog a w K Q := by
  rcases hnil with rfl | ⟨ad, n, c, rfl⟩
  · have hm : m = [] := by
      obtain ⟨a', c', e, h1, _⟩ := hy
      simp only [Value.slice.injEq] at e
      exact List.eq_nil_of_length_eq_zero e.2.1.symm
    subst hm
    refine wp_app_nil_B s x ho B v l hs hown hx (h v w ?_ (World.grownBy.refl _ _) (.inl rfl))
    rw [List.append_nil]; exact hown
  · exact wp_app_B s x ho B v l m hs hown ad n c hx hy hlen hb h
theorem run_lit0 {o : Oper} {a : Act} (ho : o.op = .buildSlice 23 0 #[]) (w : World) : (execOp a.eval o).run Tryd.prog w = .ok (.value (.slice (some ⟨w.heap.size, 0, none⟩) 0 0)) (w.alloc (.cells #[] 29)) := by
  unfold execOp; rw [ho]; go_simp
theorem run_lit1 {o : Oper} {a : Act} {n : Nat} {x : Ber} (ho : o.op = .buildSlice 23 1 #[(0, .tmp n)]) (hv : a.eval (.tmp n) = .agg (syCs x)) (w : World) : (execOp a.eval o).run Tryd.prog w = .ok (.value (.slice (some ⟨w.heap.size, 0, none⟩) 1 1)) (w.alloc (.cells (syCs x) 29)) := by
  unfold execOp; simp only [ho, List.map_toArray, List.map_cons, List.map_nil, hv]; unfold syCs; go_simp
/-- the list so far: A the empty one, P those appended, O the one more, R both -/
structure JAP (A P O R : Nat) (B : Nat) (l : List Ber) (x : Ber) (s : Nat → Option Value) (w : World) : Prop where
  bz : B ≤ w.heap.size
  oA : s A = none → s P = none
  oP : s P = none → s R = none
  oO : s O = none → s R = none
  e1 : ∀ v, s A = some v → s P = none → OwnB w B v []
  e2 : ∀ v, s P = some v → s R = none → OwnB w B v l
  e4 : ∀ v, s O = some v → s R = none → ∃ g, v = .slice (some ⟨g, 0, none⟩) 1 1 ∧ BAt w g 0 x ∧ g < w.heap.size ∧ (∀ u, s A = some u → s P = none → u.ownBlock ≠ some g) ∧ ∀ u, s P = some u → u.ownBlock ≠ some g
  e5 : ∀ v, s R = some v → OwnB w B v (l ++ [x])
section
variable {A P O R B : Nat} {l : List Ber} {x : Ber} {s : Nat → Option Value} {w w' : World}
theorem JAP.start (h : B ≤ w.heap.size) : JAP A P O R B l x (fun _ => none) w := ⟨h, fun _ => rfl, fun _ => rfl, fun _ => rfl, fun v h => (by cases h), fun v h => (by cases h), fun v h => (by cases h), fun v h => (by cases h)⟩
theorem JAP.keep (h : JAP A P O R B l x s w) (hb : Below w.heap.size w w') : JAP A P O R B l x s w' :=
  ⟨Nat.le_trans h.bz hb.size, h.oA, h.oP, h.oO, fun v a b => (h.e1 v a b).below hb, fun v a b => (h.e2 v a b).below hb, fun v a b => by
    obtain ⟨g, e1, e2, e3, e4, e5⟩ := h.e4 v a b
    exact ⟨g, e1, e2.keep hb, Nat.lt_of_lt_of_le e3 hb.size, e4, e5⟩, fun v a => (h.e5 v a).below hb⟩
theorem JAP.other (h : JAP A P O R B l x s w) {i : Nat} (v : Value) (hA : A ≠ i) (hP : P ≠ i) (hO : O ≠ i) (hR : R ≠ i) : JAP A P O R B l x (updS s i v) w := by
  obtain ⟨h0, h1, h2, h3, h4, h5, h6, h7⟩ := h
  refine ⟨h0, ?_, ?_, ?_, ?_, ?_, ?_, ?_⟩ <;> simp only [updS_other hA, updS_other hP, updS_other hO, updS_other hR] <;> assumption
structure Apart (A P O R : Nat) : Prop where
  ap : A ≠ P
  ao : A ≠ O
  ar : A ≠ R
  po : P ≠ O
  pr : P ≠ R
  or_ : O ≠ R
theorem JAP.stepA (h : JAP A P O R B l x s w) (hd : Apart A P O R) (hn : s A = none) : JAP A P O R B l x (updS s A (.slice (some ⟨w.heap.size, 0, none⟩) 0 0)) (w.alloc (.cells #[] 29)) := by
  have hb : Below w.heap.size w (w.alloc (.cells #[] 29)) := (Below.refl _ _).alloc (Nat.le_refl _) _
  have hP := h.oA hn
  have hR := h.oP hP
  refine ⟨Nat.le_trans h.bz hb.size, fun e => (by rw [updS_same] at e; cases e), ?_, ?_, fun v e _ => ?_, fun v e => ?_, fun v e e' => ?_, fun v e => ?_⟩
  · rw [updS_other (Ne.symm hd.ap), updS_other (Ne.symm hd.ar)]; exact h.oP
  · rw [updS_other (Ne.symm hd.ao), updS_other (Ne.symm hd.ar)]; exact h.oO
  · rw [updS_same] at e; cases e; exact OwnB_empty w _ h.bz
  · rw [updS_other (Ne.symm hd.ap), hP] at e; cases e
  · rw [updS_other (Ne.symm hd.ao)] at e
    obtain ⟨g, e1, e2, e3, e4, e5⟩ := h.e4 v e hR
    refine ⟨g, e1, e2.keep hb, Nat.lt_of_lt_of_le e3 hb.size, fun u hu _ => ?_, fun u hu => ?_⟩
    · rw [updS_same] at hu; cases hu; simp [Value.ownBlock]; omega
    · rw [updS_other (Ne.symm hd.ap)] at hu; exact e5 u hu
  · rw [updS_other (Ne.symm hd.ar), hR] at e; cases e
theorem JAP.stepO (h : JAP A P O R B l x s w) (hd : Apart A P O R) (hn : s O = none) : JAP A P O R B l x (updS s O (.slice (some ⟨w.heap.size, 0, none⟩) 1 1)) (w.alloc (.cells (syCs x) 29)) := by
  have hb : Below w.heap.size w (w.alloc (.cells (syCs x) 29)) := (Below.refl _ _).alloc (Nat.le_refl _) _
  have hR := h.oO hn
  refine ⟨Nat.le_trans h.bz hb.size, ?_, ?_, fun e => (by rw [updS_same] at e; cases e), fun v e e' => ?_, fun v e e' => ?_, fun v e e' => ?_, fun v e => ?_⟩
  · rw [updS_other hd.ao, updS_other hd.po]; exact h.oA
  · rw [updS_other hd.po, updS_other (Ne.symm hd.or_)]; exact h.oP
  · rw [updS_other hd.ao] at e; rw [updS_other hd.po] at e'; exact (h.e1 v e e').below hb
  · rw [updS_other hd.po] at e; exact (h.e2 v e hR).below hb
  · rw [updS_same] at e; cases e
    refine ⟨w.heap.size, rfl, bAt_new w x 29, by simp, fun u hu hp => ?_, fun u hu => ?_⟩
    · rw [updS_other hd.ao] at hu; rw [updS_other hd.po] at hp
      intro e; have := ((h.e1 u hu hp).lt _ e).2; omega
    · rw [updS_other hd.po] at hu
      intro e; have := ((h.e2 u hu hR).lt _ e).2; omega
  · rw [updS_other (Ne.symm hd.or_), hR] at e; cases e
theorem bAt_grown {row : Option Nat} {g off : Nat} (h : BAt w g off x) (hg : w.grownBy w' row) (hne : some g ≠ row) : BAt w' g off x := ⟨hg.cell h.c0 hne, hg.cell h.c1 hne, hg.cell h.c2 hne, hg.cell h.c3 hne, hg.cell h.c4 hne, hg.cell h.c5 hne, hg.cell h.c6 hne, hg.cell h.c7 hne⟩
theorem JAP.stepP {u t : Value} (h : JAP A P O R B l x s w) (hd : Apart A P O R) (ha : s A = some u) (hn : s P = none) (ho : OwnB w' B t l) (hg : w.grownBy w' u.ownBlock) (hat : t.ownBlock = u.ownBlock ∨ t.ownBlock = some w.heap.size) : JAP A P O R B l x (updS s P t) w' := by
  have hR := h.oP hn
  refine ⟨Nat.le_trans h.bz hg.size, ?_, fun e => (by rw [updS_same] at e; cases e), ?_, fun v e e' => ?_, fun v e e' => ?_, fun v e e' => ?_, fun v e => ?_⟩
  · rw [updS_other hd.ap, ha]; intro e; cases e
  · rw [updS_other (Ne.symm hd.po), updS_other (Ne.symm hd.pr)]; exact h.oO
  · rw [updS_same] at e'; cases e'
  · rw [updS_same] at e; cases e; exact ho
  · rw [updS_other (Ne.symm hd.po)] at e
    obtain ⟨g, e1, e2, e3, e4, e5⟩ := h.e4 v e hR
    have hne := e4 u ha hn
    refine ⟨g, e1, bAt_grown e2 hg (fun e => hne e.symm), Nat.lt_of_lt_of_le e3 hg.size, fun u' hu hp => ?_, fun u' hu => ?_⟩
    · rw [updS_same] at hp; cases hp
    · rw [updS_same] at hu; cases hu
      rcases hat with e | e
      · rw [e]; exact hne
      · rw [e]; intro e'; have := Option.some.inj e'; omega
  · rw [updS_other (Ne.symm hd.pr), hR] at e; cases e
theorem JAP.stepR {u t : Value} (h : JAP A P O R B l x s w) (hd : Apart A P O R) (ha : s P = some u) (hO : s O ≠ none) (ho : OwnB w' B t (l ++ [x])) (hz : B ≤ w'.heap.size) : JAP A P O R B l x (updS s R t) w' := by
  refine ⟨hz, ?_, ?_, ?_, fun v e e' => ?_, fun v e e' => ?_, fun v e e' => ?_, fun v e => ?_⟩
  · rw [updS_other hd.ar, updS_other hd.pr]; exact h.oA
  · rw [updS_other hd.pr, ha]; intro e; cases e
  · rw [updS_other hd.or_]; intro e; exact absurd e hO
  · rw [updS_other hd.pr, ha] at e'; cases e'
  · rw [updS_same] at e'; cases e'
  · rw [updS_same] at e'; cases e'
  · rw [updS_same] at e; cases e; exact ho
end
end Go.Proofs.YtgmecjmepbaolaaDoor
