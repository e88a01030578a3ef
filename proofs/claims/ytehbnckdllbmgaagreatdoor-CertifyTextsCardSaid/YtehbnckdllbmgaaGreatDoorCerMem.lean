/- Cuts in memory; rows, some of which another world made; appending rows and cuts. -/
import Derived.Test.YtehbnckdllbmgaaGreatDoorGen
import Derived.Test.YtehbnckdllbmgaaGreatDoorCerSpec4
set_option linter.unusedSimpArgs false
set_option linter.unusedVariables false
namespace Go.Proofs.YtehbnckdllbmgaaGreatDoor
open Go.RowKit

/-! slices of rows -/
theorem SS.take {w : World} {a : Option Addr} {n cap : Nat} {rs : List (List Int)} (h : SS w (.slice a n cap) rs) (k : Nat) (hk : k ≤ rs.length) : SS w (.slice a k cap) (rs.take k) := by
  obtain ⟨vs, ⟨a', cap', he, h1, h2, h3⟩, h4⟩ := h
  simp at he
  obtain ⟨rfl, rfl, rfl⟩ := he
  have hl : (rs.take k).length = k := by simp; omega
  refine ⟨vs, ⟨a, cap, by rw [hl], by omega, h2, fun i hi => ?_⟩, fun i hi => ?_⟩
  · rw [hl] at hi; exact h3 i (by omega)
  · rw [hl] at hi; rw [ri_take hi]; exact h4 i (by omega)
theorem SS.drop {w : World} {b off cap n : Nat} {rs : List (List Int)} (h : SS w (.slice (some ⟨b, off, none⟩) n cap) rs) (k : Nat) (hk : k ≤ rs.length) : SS w (.slice (some ⟨b, off + k, none⟩) (n - k) (cap - k)) (rs.drop k) := by
  obtain ⟨vs, ⟨a', cap', he, h1, h2, h3⟩, h4⟩ := h
  simp at he
  obtain ⟨rfl, rfl, rfl⟩ := he
  have hl : (rs.drop k).length = rs.length - k := by simp
  refine ⟨fun i => vs (k + i), ⟨some ⟨b, off + k, none⟩, cap - k, by rw [hl], by omega, by omega, fun i hi => ?_⟩, fun i hi => ?_⟩
  · rw [hl] at hi
    obtain ⟨b', off', ha, hc⟩ := h3 (k + i) (by omega)
    simp at ha
    obtain ⟨rfl, rfl⟩ := ha
    exact ⟨b, off + k, rfl, by rw [Nat.add_assoc]; exact hc⟩
  · rw [hl] at hi; rw [ri_drop]; exact h4 (k + i) (by omega)
theorem SS.form {w : World} {v : Value} {rs : List (List Int)} (h : SS w v rs) (hl : 1 ≤ rs.length) : ∃ b off cap, v = .slice (some ⟨b, off, none⟩) rs.length cap ∧ rs.length ≤ cap ∧ cap ≤ maxLen ∧ b < w.heap.size := by
  obtain ⟨vs, ⟨a, cap, rfl, h1, h2, h3⟩, h4⟩ := h
  obtain ⟨b, off, rfl, hc⟩ := h3 0 (by omega)
  exact ⟨b, off, cap, rfl, h1, h2, World.block_lt_of_cell? w _ hc⟩
theorem SS.n {w : World} {a : Option Addr} {n cap : Nat} {rs : List (List Int)} (h : SS w (.slice a n cap) rs) : n = rs.length := by
  obtain ⟨vs, ⟨a', cap', he, _⟩, _⟩ := h
  simp at he
  exact he.2.1
theorem SS.row {w : World} {b off cap n : Nat} {rs : List (List Int)} (h : SS w (.slice (some ⟨b, off, none⟩) n cap) rs) {i : Nat} (hi : i < rs.length) : ∃ u, w.cell? ⟨b, off + i, none⟩ = some u ∧ SI w u (ri rs i) := by
  obtain ⟨vs, ⟨a', cap', he, h1, h2, h3⟩, h4⟩ := h
  simp at he
  obtain ⟨rfl, rfl, rfl⟩ := he
  obtain ⟨b', off', ha, hc⟩ := h3 i hi
  simp at ha
  obtain ⟨rfl, rfl⟩ := ha
  exact ⟨_, hc, h4 i hi⟩
theorem SI.form {w : World} {v : Value} {xs : List Int} (h : SI w v xs) (hl : 1 ≤ xs.length) : ∃ b off cap, v = .slice (some ⟨b, off, none⟩) xs.length cap ∧ xs.length ≤ cap ∧ cap ≤ maxLen ∧ b < w.heap.size ∧ ∀ i, i < xs.length → w.cell? ⟨b, off + i, none⟩ = some (.int .i64 (gi xs i)) := by
  obtain ⟨a, cap, rfl, h1, h2, h3⟩ := h
  obtain ⟨b, off, rfl, hc⟩ := Sl.at h3 (i := 0) (by omega)
  exact ⟨b, off, cap, rfl, h1, h2, World.block_lt_of_cell? w _ (hc 0 (by omega)), hc⟩
theorem SI.sl {w : World} {v : Value} {xs : List Int} (h : SI w v xs) : ∃ a cap, v = .slice a xs.length cap ∧ xs.length ≤ cap ∧ cap ≤ maxLen := by
  obtain ⟨a, cap, rfl, h1, h2, _⟩ := h; exact ⟨a, cap, rfl, h1, h2⟩
theorem SI.one {w : World} {v : Value} {xs : List Int} (h : SI w v xs) : v.oneCell' = true := by
  obtain ⟨a, cap, rfl, _⟩ := h; rfl

/-! rows, some of another world -/
/-- a row of world W0, or of the call's own -/
def RowOk (W0 w : World) (B : Nat) (u : Value) (r : List Int) : Prop := SI W0 u r ∨ OwnI w B u r
theorem RowOk.si {W0 w : World} {B : Nat} {u : Value} {r : List Int} (h : RowOk W0 w B u r) (hb : Below W0.heap.size W0 w) : SI w u r := h.elim (fun h => h.keep hb) fun h => h.si
theorem RowOk.below {W0 w w' : World} {B : Nat} {u : Value} {r : List Int} (h : RowOk W0 w B u r) (hb : Below w.heap.size w w') : RowOk W0 w' B u r := h.elim .inl fun h => .inr (h.below hb)
theorem RowOk.one {W0 w : World} {B : Nat} {u : Value} {r : List Int} (h : RowOk W0 w B u r) : u.oneCell' = true := h.elim SI.one fun h => h.si.one
def OwnR (W0 w : World) (B : Nat) (t : Value) (rs : List (List Int)) : Prop :=
  ∃ vs : List Value, w.ownsRow B 24 1 t rs.length vs ∧ ∀ i, i < rs.length → RowOk W0 w B (vs.getD i undef) (ri rs i)
theorem OwnR_nil (W0 w : World) (B : Nat) : OwnR W0 w B (.slice none 0 0) [] := ⟨[], World.ownsRow_nil _ _ _ _, fun i hi => by simp at hi⟩
theorem OwnR_empty (W0 w : World) (B : Nat) (h : B ≤ w.heap.size) : OwnR W0 (w.alloc (.cells #[] 24)) B (.slice (some ⟨w.heap.size, 0, none⟩) 0 0) [] :=
  ⟨[], World.ownsRow_lit w #[] 0 h (Nat.zero_le _) rfl, fun i hi => by simp at hi⟩
theorem OwnR.below {W0 w w' : World} {B : Nat} {t : Value} {rs : List (List Int)} (h : OwnR W0 w B t rs) (hb : Below w.heap.size w w') : OwnR W0 w' B t rs := by
  obtain ⟨vs, h1, h2⟩ := h
  exact ⟨vs, owns_below h1 hb, fun i hi => (h2 i hi).below hb⟩
theorem OwnR.alloc {W0 w : World} {B : Nat} {t : Value} {rs : List (List Int)} (h : OwnR W0 w B t rs) (o : Obj) : OwnR W0 (w.alloc o) B t rs := h.below ((Below.refl _ _).alloc (Nat.le_refl _) _)
theorem OwnR.lt {W0 w : World} {B : Nat} {t : Value} {rs : List (List Int)} (h : OwnR W0 w B t rs) (k : Nat) (hk : t.ownBlock = some k) : B ≤ k ∧ k < w.heap.size := by
  obtain ⟨vs, h1, _⟩ := h; exact World.ownsRow.lt h1 k hk
theorem OwnR.ss {W0 w : World} {B : Nat} {t : Value} {rs : List (List Int)} (h : OwnR W0 w B t rs) (hb : Below W0.heap.size W0 w) : SS w t rs := by
  obtain ⟨vs, h1, h2⟩ := h
  exact SS_of_owns h1 rfl fun i hi => (h2 i hi).si hb
theorem run_app_rows {W0 w : World} {B : Nat} {v u : Value} {rs xs : List (List Int)} (ty : TypeId) (hown : OwnR W0 w B v rs) {C : Nat → Value} (hs : Sl w u xs.length C) (hc : ∀ i, i < xs.length → RowOk W0 w B (C i) (ri xs i))
    (hlen : rs.length + xs.length ≤ 1000000) (hb : B ≤ w.heap.size) :
    ∃ v' w', (Builtin.append_ #[22, 22] ty #[v, u]).run Tryz.prog w = .ok v' w' ∧ OwnR W0 w' B v' (rs ++ xs) ∧ w.grownBy w' v.ownBlock ∧ (v'.ownBlock = v.ownBlock ∨ v'.ownBlock = some w.heap.size) := by
  obtain ⟨i, hi, hz0, hz1, hz2⟩ := info_parts Tryz_infoInts
  obtain ⟨a, cap, rfl, h1, h2, h3⟩ := hs
  obtain ⟨vs, o1, o2⟩ := hown
  have hvl : vs.length = rs.length := by have := o1.1; simpa using this
  cases a with
  | none =>
    have hx : xs = [] := by
      cases xs with
      | nil => rfl
      | cons x xs => obtain ⟨b, off, ha, _⟩ := h3 0 (by simp); cases ha
    subst hx
    refine ⟨v, w, run_append_zero _ _ i Tryz.underlying22 hi o1 cap, by rw [List.append_nil]; exact ⟨vs, o1, o2⟩, World.grownBy.refl _ _, .inl rfl⟩
  | some ad =>
    have hnews : ∀ j x, ((List.range xs.length).map C)[j]? = some x → w.cell? (ad.add j) = some x := by
      intro j x hj
      have hjl : j < xs.length := by
        have := (List.getElem?_eq_some_iff.1 hj).1; simpa using this
      obtain ⟨b, off, ha, hcc⟩ := h3 j hjl
      simp at ha
      subst ha
      have hadd : (⟨b, off, none⟩ : Addr).add j = ⟨b, off + j, none⟩ := by unfold Addr.add; split <;> simp_all
      rw [hadd, hcc]
      simp [hjl] at hj
      rw [← hj]
    obtain ⟨v', w', hr, ho, hg, _, hat⟩ := run_append_own_at (P := Tryz.prog) w B 22 ty 24 i (.slice none 0 0) 1 24 Tryz.underlying22 hi hz0 hz1 hz2 rfl (by decide) v rs.length vs o1 ad xs.length cap ((List.range xs.length).map C) (by simp) hnews
      (fun u hu => by obtain ⟨j, hj, rfl⟩ := List.mem_map.1 hu; exact (hc j (List.mem_range.1 hj)).one) (by unfold maxLen; omega) (by omega) hb
    refine ⟨v', w', hr, ⟨vs ++ (List.range xs.length).map C, by rw [List.length_append]; exact ho, fun k hk => ?_⟩, hg, hat⟩
    have keep : ∀ u q, RowOk W0 w B u q → RowOk W0 w' B u q := fun u q hu => hu.elim .inl fun hu => .inr (World.ownsRow.kept hu hg (owns_ne hu o1 (by decide)))
    by_cases hk' : k < rs.length
    · rw [ri_append_left hk', show (vs ++ (List.range xs.length).map C).getD k undef = vs.getD k undef by simp [List.getElem?_append_left (show k < vs.length by omega)]]
      exact keep _ _ (o2 k hk')
    · rw [List.length_append] at hk
      have e1 : ri (rs ++ xs) k = ri xs (k - rs.length) := by unfold ri; simp [List.getElem?_append_right (show rs.length ≤ k by omega)]
      have e2 : (vs ++ (List.range xs.length).map C).getD k undef = C (k - rs.length) := by
        have hk2 : k - rs.length < xs.length := by omega
        simp [List.getElem?_append_right (show vs.length ≤ k by omega), hvl, hk2]
      rw [e1, e2]
      exact keep _ _ (hc _ (by omega))
theorem wp_app_rows {o : Oper} {a : Act} {K : Act → World → Prop} {Q : Exit → Act → World → Prop} {w : World} (s x : Operand)
    (ho : o.op = .call { callee := .builtin .append, args := #[s, x], argTypes := #[22, 22] })
    {W0 : World} (B : Nat) (v u : Value) (rs xs : List (List Int)) (hs : a.eval s = v) (hx : a.eval x = u) (hown : OwnR W0 w B v rs) {C : Nat → Value} (hsrc : Sl w u xs.length C) (hc : ∀ i, i < xs.length → RowOk W0 w B (C i) (ri xs i)) (hlen : rs.length + xs.length ≤ 1000000) (hb : B ≤ w.heap.size)
    (h : ∀ v' w', OwnR W0 w' B v' (rs ++ xs) → w.grownBy w' v.ownBlock → (v'.ownBlock = v.ownBlock ∨ v'.ownBlock = some w.heap.size) → K (a.put o.dst v') w') : o.wp Tryz.prog a w K Q := by
  obtain ⟨v', w', hr, h2, h3, h4⟩ := run_app_rows o.type hown hsrc hc hlen hb
  unfold Oper.wp execOp
  simp only [ho, resolve, invoke, builtin, Sem.run_bind, Sem.run_pure, Result.andThen_ok, List.map_toArray, List.map_cons, List.map_nil, hs, hx, hr]
  exact h v' w' h2 h3 h4
theorem wpList_app_rows {ops : Array Oper} {rest : List Oper} {o : Oper} {a : Act} {Q : Exit → Act → World → Prop} {w : World} (hw : Region.wanted o (yielded ops a.tmps) = true) (s x : Operand)
    (ho : o.op = .call { callee := .builtin .append, args := #[s, x], argTypes := #[22, 22] })
    {W0 : World} (B : Nat) (v u : Value) (rs xs : List (List Int)) (hs : a.eval s = v) (hx : a.eval x = u) (hown : OwnR W0 w B v rs) {C : Nat → Value} (hsrc : Sl w u xs.length C) (hc : ∀ i, i < xs.length → RowOk W0 w B (C i) (ri xs i)) (hlen : rs.length + xs.length ≤ 1000000) (hb : B ≤ w.heap.size)
    (h : ∀ v' w', OwnR W0 w' B v' (rs ++ xs) → w.grownBy w' v.ownBlock → (v'.ownBlock = v.ownBlock ∨ v'.ownBlock = some w.heap.size) → wpList Tryz.prog ops Q rest (a.put o.dst v') w') : wpList Tryz.prog ops Q (o :: rest) a w :=
  wpList_step fun K hK => by
    rw [if_pos hw]
    exact wp_app_rows s x ho B v u rs xs hs hx hown hsrc hc hlen hb fun v' w' a1 a2 a3 => hK _ _ (h v' w' a1 a2 a3)
/-- one value in a new cell, as a slice -/
theorem Sl_one (w : World) (u : Value) (e : TypeId) : Sl (w.alloc (.cells #[u] e)) (.slice (some ⟨w.heap.size, 0, none⟩) 1 1) 1 fun _ => u := by
  refine ⟨_, 1, rfl, Nat.le_refl _, by unfold maxLen; omega, fun i hi => ⟨w.heap.size, 0, rfl, ?_⟩⟩
  have : i = 0 := by omega
  subst this
  simp

/-! cuts -/
def pcCells (x : Value × Cut) : List Value := [x.1, .int .i64 x.2.2]
theorem pcCells_len (x : Value × Cut) : (pcCells x).length = 2 := rfl
/-- the cells of a cut at an address -/
structure CAt (w : World) (b off : Nat) (u : Value) (c : Cut) : Prop where
  c0 : w.cell? ⟨b, off, none⟩ = some u
  c1 : w.cell? ⟨b, off + 1, none⟩ = some (.int .i64 c.2)
  s : SI w u c.1
theorem CAt.keep {w w' : World} {b off : Nat} {u : Value} {c : Cut} (h : CAt w b off u c) (hb : Below w.heap.size w w') : CAt w' b off u c := ⟨cell_keep hb h.c0, cell_keep hb h.c1, h.s.keep hb⟩
/-- a slice that reads as cuts -/
def SC (w : World) (v : Value) (l : List Cut) : Prop :=
  ∃ a cap, v = .slice a l.length cap ∧ l.length ≤ cap ∧ cap ≤ maxLen ∧ ∀ i, i < l.length → ∃ b off u, a = some ⟨b, off, none⟩ ∧ CAt w b (off + i * 2) u (ci l i)
theorem SC.keep {w w' : World} {v : Value} {l : List Cut} (h : SC w v l) (hb : Below w.heap.size w w') : SC w' v l := by
  obtain ⟨a, cap, rfl, h1, h2, h3⟩ := h
  exact ⟨a, cap, rfl, h1, h2, fun i hi => by obtain ⟨b, off, u, ha, hc⟩ := h3 i hi; exact ⟨b, off, u, ha, hc.keep hb⟩⟩
theorem SC.drewN {w : World} {v : Value} {l : List Cut} (h : SC w v l) (m : Nat) : SC (w.drewN m) v l := h.keep (below_drewN' (Below.refl _ _) m)
theorem SC.len {w : World} {v : Value} {l : List Cut} (h : SC w v l) : l.length ≤ maxLen := by obtain ⟨a, cap, _, h1, h2, _⟩ := h; omega
theorem SC_nil (w : World) : SC w (.slice none 0 0) [] := ⟨none, 0, rfl, Nat.le_refl _, Nat.zero_le _, fun i hi => by simp at hi⟩
theorem SC.form {w : World} {v : Value} {l : List Cut} (h : SC w v l) (hl : 1 ≤ l.length) : ∃ b off cap, v = .slice (some ⟨b, off, none⟩) l.length cap ∧ l.length ≤ cap ∧ cap ≤ maxLen ∧ b < w.heap.size ∧ ∀ i, i < l.length → ∃ u, CAt w b (off + i * 2) u (ci l i) := by
  obtain ⟨a, cap, rfl, h1, h2, h3⟩ := h
  obtain ⟨b, off, u, rfl, hc⟩ := h3 0 (by omega)
  refine ⟨b, off, cap, rfl, h1, h2, World.block_lt_of_cell? w _ hc.c0, fun i hi => ?_⟩
  obtain ⟨b', off', u', ha, hc'⟩ := h3 i hi
  have ha := Option.some.inj ha
  simp only [Addr.mk.injEq] at ha
  obtain ⟨rfl, rfl, _⟩ := ha
  exact ⟨_, hc'⟩
theorem ci_take {l : List Cut} {k n : Nat} (h : k < n) : ci (l.take n) k = ci l k := by simp [ci, List.getElem?_take, h]
theorem take_ci {l : List Cut} {k : Nat} (h : k < l.length) : l.take (k + 1) = l.take k ++ [ci l k] := by rw [List.take_succ_eq_append_getElem h, ci_lt h]
theorem SC.take {w : World} {a : Option Addr} {n cap : Nat} {l : List Cut} (h : SC w (.slice a n cap) l) (k : Nat) (hk : k ≤ l.length) : SC w (.slice a k cap) (l.take k) := by
  obtain ⟨a', cap', he, h1, h2, h3⟩ := h
  simp at he
  obtain ⟨rfl, rfl, rfl⟩ := he
  have hl : (l.take k).length = k := by simp; omega
  refine ⟨a, cap, by rw [hl], by omega, h2, fun i hi => ?_⟩
  rw [hl] at hi
  obtain ⟨b, off, u, ha, hc⟩ := h3 i (by omega)
  exact ⟨b, off, u, ha, by rw [ci_take hi]; exact hc⟩
theorem SC.n {w : World} {a : Option Addr} {n cap : Nat} {l : List Cut} (h : SC w (.slice a n cap) l) : n = l.length := by
  obtain ⟨a', cap', he, _⟩ := h
  simp at he
  exact he.2.1
/-- cuts that a call owns, with their beginnings -/
def OwnC (w : World) (B : Nat) (v : Value) (l : List Cut) : Prop :=
  ∃ ps : List (Value × Cut), ps.map Prod.snd = l ∧ w.ownsRow B 54 2 v ps.length (ps.flatMap pcCells) ∧ ∀ p ∈ ps, OwnI w B p.1 p.2.1
theorem OwnC_nil (w : World) (B : Nat) : OwnC w B (.slice none 0 0) [] := ⟨[], rfl, World.ownsRow_nil _ _ _ _, fun p hp => by simp at hp⟩
theorem OwnC.below {w w' : World} {B : Nat} {v : Value} {l : List Cut} (h : OwnC w B v l) (hb : Below w.heap.size w w') : OwnC w' B v l := by
  obtain ⟨ps, h1, h2, h3⟩ := h
  exact ⟨ps, h1, owns_below h2 hb, fun p hp => (h3 p hp).below hb⟩
theorem OwnC.alloc {w : World} {B : Nat} {v : Value} {l : List Cut} (h : OwnC w B v l) (o : Obj) : OwnC (w.alloc o) B v l := h.below ((Below.refl _ _).alloc (Nat.le_refl _) _)
theorem OwnC.mono {w : World} {B B' : Nat} {v : Value} {l : List Cut} (h : OwnC w B v l) (hb : B' ≤ B) : OwnC w B' v l := by
  obtain ⟨ps, h1, h2, h3⟩ := h
  exact ⟨ps, h1, owns_mono h2 hb, fun p hp => (h3 p hp).mono hb⟩
theorem OwnC.lt {w : World} {B : Nat} {v : Value} {l : List Cut} (h : OwnC w B v l) (k : Nat) (hk : v.ownBlock = some k) : B ≤ k ∧ k < w.heap.size := by
  obtain ⟨ps, _, h2, _⟩ := h; exact World.ownsRow.lt h2 k hk
theorem OwnC.sc {w : World} {B : Nat} {v : Value} {l : List Cut} (h : OwnC w B v l) : SC w v l := by
  obtain ⟨ps, rfl, h2, h3⟩ := h
  rcases own_flat_form h2 with ⟨rfl, rfl⟩ | ⟨g, cap, rfl, _, _, hn, hm, hc⟩
  · exact SC_nil w
  · refine ⟨_, cap, by simp, by simpa using hn, hm, fun i hi => ⟨g, 0, (ps.getD i (undef, ([], 0))).1, rfl, ?_⟩⟩
    have hi' : i < ps.length := by simpa using hi
    have key : ∀ j, j < 2 → w.cell? ⟨g, i * 2 + j, none⟩ = (pcCells ps[i])[j]? := fun j hj => by
      rw [hc (i * 2 + j) (by omega), flat_get pcCells pcCells_len ps i j hi' hj]
    have e1 : ps.getD i (undef, ([], 0)) = ps[i] := by simp [hi']
    have e2 : ci (ps.map Prod.snd) i = ps[i].2 := by rw [ci_lt hi, List.getElem_map]
    rw [Nat.zero_add, e1, e2]
    exact ⟨key 0 (by omega), key 1 (by omega), (h3 _ (List.getElem_mem hi')).si⟩
theorem Tryz_infoCut : (Tryz.prog.info? 54).map (fun i => (i.zero, i.size, i.bytes)) = some (some (.agg #[.slice none 0 0, .int .i64 0]), 2, 32) := by kernel_rfl
/-- one cut more -/
theorem wp_app_cut {o : Oper} {a : Act} {K : Act → World → Prop} {Q : Exit → Act → World → Prop} {w : World} (s x : Operand)
    (ho : o.op = .call { callee := .builtin .append, args := #[s, x], argTypes := #[26, 26] }) (B : Nat) (v : Value) (l : List Cut) (hs : a.eval s = v) (hown : OwnC w B v l)
    (g : Nat) (c : Nat) (u : Value) (y : Cut) (hx : a.eval x = .slice (some ⟨g, 0, none⟩) 1 c) (hy0 : w.cell? ⟨g, 0, none⟩ = some u) (hy1 : w.cell? ⟨g, 1, none⟩ = some (.int .i64 y.2)) (hu : OwnI w B u y.1) (hlen : l.length ≤ 1000000) (hb : B ≤ w.heap.size)
    (h : ∀ v' w', OwnC w' B v' (l ++ [y]) → w.grownBy w' v.ownBlock → (v'.ownBlock = v.ownBlock ∨ v'.ownBlock = some w.heap.size) → K (a.put o.dst v') w') : o.wp Tryz.prog a w K Q := by
  obtain ⟨i, hi, hz0, hz1, hz2⟩ := info_parts Tryz_infoCut
  obtain ⟨ps, rfl, o2, o3⟩ := hown
  have hl : ps.length ≤ 1000000 := by simpa using hlen
  refine wp_app_gen s x 26 54 ho i (.agg #[.slice none 0 0, .int .i64 0]) 2 32 Tryz.underlying26 hi hz0 hz1 hz2 rfl (by decide) B v ps.length (ps.flatMap pcCells) hs o2 ⟨g, 0, none⟩ 1 c hx [u, .int .i64 y.2] rfl (fun j z hj => ?_) (fun z hz => ?_) (by unfold maxLen; omega) (by omega) hb fun v' w' h1 h2 h3 => h v' w' ⟨ps ++ [(u, y)], by simp, ?_, fun p hp => ?_⟩ h2 h3
  · match j, hj with
    | 0, hj => simp at hj; subst hj; simpa [Addr.add] using hy0
    | 1, hj => simp at hj; subst hj; simpa [Addr.add] using hy1
  · simp at hz
    rcases hz with rfl | rfl
    · exact hu.si.one
    · rfl
  · rw [List.length_append, List.flatMap_append]
    exact h1
  · have hp' : OwnI w B p.1 p.2.1 := by
      rcases List.mem_append.1 hp with hp | hp
      · exact o3 p hp
      · simp at hp; subst hp; exact hu
    exact World.ownsRow.kept hp' h2 (owns_ne hp' o2 (by decide))
theorem wpList_app_cut {ops : Array Oper} {rest : List Oper} {o : Oper} {a : Act} {Q : Exit → Act → World → Prop} {w : World} (hw : Region.wanted o (yielded ops a.tmps) = true) (s x : Operand)
    (ho : o.op = .call { callee := .builtin .append, args := #[s, x], argTypes := #[26, 26] }) (B : Nat) (v : Value) (l : List Cut) (hs : a.eval s = v) (hown : OwnC w B v l)
    (g : Nat) (c : Nat) (u : Value) (y : Cut) (hx : a.eval x = .slice (some ⟨g, 0, none⟩) 1 c) (hy0 : w.cell? ⟨g, 0, none⟩ = some u) (hy1 : w.cell? ⟨g, 1, none⟩ = some (.int .i64 y.2)) (hu : OwnI w B u y.1) (hlen : l.length ≤ 1000000) (hb : B ≤ w.heap.size)
    (h : ∀ v' w', OwnC w' B v' (l ++ [y]) → w.grownBy w' v.ownBlock → (v'.ownBlock = v.ownBlock ∨ v'.ownBlock = some w.heap.size) → wpList Tryz.prog ops Q rest (a.put o.dst v') w') : wpList Tryz.prog ops Q (o :: rest) a w :=
  wpList_step fun K hK => by
    rw [if_pos hw]
    exact wp_app_cut s x ho B v l hs hown g c u y hx hy0 hy1 hu hlen hb fun v' w' a1 a2 a3 => hK _ _ (h v' w' a1 a2 a3)
end Go.Proofs.YtehbnckdllbmgaaGreatDoor
