/- A table of rows and a slice of integers beside it, all in blocks of their own. -/
import Derived.Test.YtlgepggmgfnneaaTab
import Derived.Deep.RegionHeld3
namespace Go.Proofs.Ytlgepggmgfnneaa
open Go.RowKit

structure Two (w : World) (B : Nat) (t : Value) (rs : List (List Int)) (vs : List Value) (fv : Value) (fr : List Int) : Prop where
  tab : TabV w B t rs vs
  own : OwnI w B fv fr
  sep : ∀ i, i < rs.length → Sep (vs.getD i undef) fv

variable {w w' : World} {B : Nat} {t fv : Value} {rs : List (List Int)} {vs : List Value} {fr : List Int}

theorem Two.below (h : Two w B t rs vs fv fr) (hb : Below w.heap.size w w') : Two w' B t rs vs fv fr := ⟨h.tab.below hb, h.own.below hb, h.sep⟩
theorem Two.alloc (h : Two w B t rs vs fv fr) (o : Obj) : Two (w.alloc o) B t rs vs fv fr := h.below ((Below.refl _ _).alloc (Nat.le_refl _) _)
theorem Two.dn (h : Two w B t rs vs fv fr) (m : Nat) : Two (w.drewN m) B t rs vs fv fr := ⟨⟨h.tab.own, h.tab.row, h.tab.sep⟩, h.own, h.sep⟩
theorem Two.nil (w : World) (B : Nat) : Two w B (.slice none 0 0) [] [] (.slice none 0 0) [] := ⟨TabV.nil _ _, OwnI_nil _ _, fun i hi => by simp at hi⟩
theorem Two.tlt (h : Two w B t rs vs fv fr) {n : Nat} (hn : w.heap.size ≤ n) : t.ownBlock ≠ some n := fun e => by have := (h.tab.own.lt n e).2; omega
theorem Two.flt (h : Two w B t rs vs fv fr) {n : Nat} (hn : w.heap.size ≤ n) : fv.ownBlock ≠ some n := fun e => by have := (World.ownsRow.lt h.own n e).2; omega
theorem Two.tf (h : Two w B t rs vs fv fr) : Sep t fv := sep_of_types h.tab.own h.own (by decide)
theorem Two.below_t {w0 : World} (h : Two w B t rs vs fv fr) (hb : Below B w0 w) (hg : w.grownBy w' t.ownBlock) (hB : B ≤ w.heap.size) : Below B w0 w' := hb.grown hg hB (fun k hk => (h.tab.own.lt k hk).1)
theorem Two.below_f {w0 : World} (h : Two w B t rs vs fv fr) (hb : Below B w0 w) (hg : w.grownBy w' fv.ownBlock) (hB : B ≤ w.heap.size) : Below B w0 w' := hb.grown hg hB (fun k hk => (World.ownsRow.lt h.own k hk).1)

theorem SI_grown {n : Nat} {y : Int} {row : Option Nat} (h : SI w (.slice (some ⟨n, 0, none⟩) 1 1) [y]) (hg : w.grownBy w' row) (hn : row ≠ some n) : SI w' (.slice (some ⟨n, 0, none⟩) 1 1) [y] := by
  obtain ⟨a, cap, he, h1, h2, h3⟩ := h
  simp at he
  obtain ⟨rfl, rfl⟩ := he
  refine ⟨some ⟨n, 0, none⟩, 1, rfl, h1, h2, fun i hi => ?_⟩
  obtain ⟨b, off, ha, hc⟩ := h3 i hi
  simp at ha
  obtain ⟨rfl, rfl⟩ := ha
  exact ⟨n, 0, rfl, hg.cell hc (fun e => hn e.symm)⟩
theorem SI_new {n : Nat} (h : n = w.heap.size) (x : Int) (e : TypeId) : SI (w.alloc (.cells #[.int .i64 x] e)) (.slice (some ⟨n, 0, none⟩) 1 1) [x] := by
  subst h; exact SI_one w x e
/-- the literal slice that is the source of an append: one row -/
def Lit1 (w : World) (n : Nat) (v : Value) : Prop := w.cell? ⟨n, 0, none⟩ = some v
theorem Lit1_new {n : Nat} {v : Value} {e : TypeId} (h : n = w.heap.size) : Lit1 (w.alloc (.cells #[v] e)) n v := by subst h; unfold Lit1; simp
theorem Lit1.alloc {n : Nat} {v : Value} (h : Lit1 w n v) (o : Obj) : Lit1 (w.alloc o) n v := cell_keep ((Below.refl _ _).alloc (Nat.le_refl _) _) h
theorem Lit1.grown {n : Nat} {v : Value} {row : Option Nat} (h : Lit1 w n v) (hg : w.grownBy w' row) (hn : row ≠ some n) : Lit1 w' n v := hg.cell h (fun e => hn e.symm)

/-- one number more -/
theorem Two.pushF {fv' : Value} {y : Int} (h : Two w B t rs vs fv fr) (ho : OwnI w' B fv' (fr ++ [y])) (hg : w.grownBy w' fv.ownBlock) (hat : fv'.ownBlock = fv.ownBlock ∨ fv'.ownBlock = some w.heap.size) : Two w' B t rs vs fv' (fr ++ [y]) := by
  refine ⟨h.tab.kept hg h.tf.row (fun i hi => (h.sep i hi).row), ho, fun i hi g h1 h2 => ?_⟩
  rcases hat with e | e
  · exact h.sep i hi g h1 (e ▸ h2)
  · have := (World.ownsRow.lt (h.tab.row i hi) g h1).2
    rw [e] at h2; simp at h2; omega

theorem step_two_free {ops : Array Oper} {o : Oper} {a : Act} {K : Act → World → Prop} {Q : Exit → Act → World → Prop} {E : Prop} (hw : Region.wanted o (yielded ops a.tmps) = true) (s x : Operand)
    (ho : o.op = .call { callee := .builtin .append, args := #[s, x], argTypes := #[36, 36] }) (n : Nat) (y : Int) (hs : a.eval s = fv) (hx : a.eval x = .slice (some ⟨n, 0, none⟩) 1 1)
    (h2 : Two w B t rs vs fv fr) (hsrc : SI w (.slice (some ⟨n, 0, none⟩) 1 1) [y]) (hlen : fr.length ≤ 1000000) (hb : B ≤ w.heap.size)
    (h : ∀ fv' w', Two w' B t rs vs fv' (fr ++ [y]) → w.grownBy w' fv.ownBlock → K (a.put o.dst fv') w') : if Region.wanted o (yielded ops a.tmps) = true then Oper.wp Try.prog o a w K Q else E := by
  rw [if_pos hw]
  exact wp_app_int s x ho B fv _ fr [y] hs hx h2.own hsrc (by simp; omega) hb fun fv' w' h3 h4 h5 => h fv' w' (h2.pushF h3 h4 h5) h4

/-- one row more: one that lies apart from all -/
theorem Two.pushT {t' v : Value} {r : List Int} (h : Two w B t rs vs fv fr) (hr : OwnI w B v r) (hsf : Sep v fv) (hsr : ∀ i, i < rs.length → Sep (vs.getD i undef) v) (hg : w.grownBy w' t.ownBlock) (hown' : w'.ownsRow B 36 1 t' (rs.length + 1) (vs ++ [v])) :
    Two w' B t' (rs ++ [r]) (vs ++ [v]) fv fr := by
  have hl := h.tab.len
  have keep : ∀ u q, OwnI w B u q → OwnI w' B u q := fun u q hu => World.ownsRow.kept hu hg (owns_ne hu h.tab.own (by decide))
  refine ⟨⟨by simpa using hown', fun i hi => ?_, fun i k hi hk hne => ?_⟩, keep _ _ h.own, fun i hi => ?_⟩
  · by_cases hi' : i < rs.length
    · rw [ri_append_left hi', getD_append_left (by omega)]
      exact keep _ _ (h.tab.row i hi')
    · have : i = rs.length := by simp at hi; omega
      subst this
      rw [ri_append_one, ← hl, getD_append_one]
      exact keep _ _ hr
  · simp only [List.length_append, List.length_singleton] at hi hk
    by_cases hi' : i < rs.length
    · rw [getD_append_left (show i < vs.length by omega)]
      by_cases hk' : k < rs.length
      · rw [getD_append_left (show k < vs.length by omega)]; exact h.tab.sep i k hi' hk' hne
      · obtain rfl : k = vs.length := by omega
        rw [getD_append_one]; exact hsr i hi'
    · obtain rfl : i = vs.length := by omega
      rw [getD_append_one, getD_append_left (show k < vs.length by omega)]
      exact (hsr k (by omega)).symm
  · simp only [List.length_append, List.length_singleton] at hi
    by_cases hi' : i < rs.length
    · rw [getD_append_left (by omega)]; exact h.sep i hi'
    · obtain rfl : i = vs.length := by omega
      rw [getD_append_one]; exact hsf

theorem step_two_tab {ops : Array Oper} {o : Oper} {a : Act} {K : Act → World → Prop} {Q : Exit → Act → World → Prop} {E : Prop} (hgd : o.guard = none) (s x : Operand)
    (ho : o.op = .call { callee := .builtin .append, args := #[s, x], argTypes := #[40, 40] }) (n : Nat) (v : Value) (r : List Int) (hs : a.eval s = t) (hx : a.eval x = .slice (some ⟨n, 0, none⟩) 1 1)
    (h2 : Two w B t rs vs fv fr) (hsrc : Lit1 w n v) (h1c : v.oneCell' = true) (hr : OwnI w B v r) (hsf : Sep v fv) (hsr : ∀ i, i < rs.length → Sep (vs.getD i undef) v) (hlen : rs.length ≤ 1000000) (hb : B ≤ w.heap.size)
    (h : ∀ t' w', Two w' B t' (rs ++ [r]) (vs ++ [v]) fv fr → w.grownBy w' t.ownBlock → K (a.put o.dst t') w') : if Region.wanted o (yielded ops a.tmps) = true then Oper.wp Try.prog o a w K Q else E := by
  have hw : Region.wanted o (yielded ops a.tmps) = true := by simp [Region.wanted, hgd]
  rw [if_pos hw]
  obtain ⟨i, hi, hz0, hz1, hz2⟩ := info_parts Try_infoInts
  have hnews : ∀ j u, [v][j]? = some u → w.cell? ((⟨n, 0, none⟩ : Addr).add j) = some u := by
    intro j u hj
    match j, hj with
    | 0, hj =>
      simp at hj; subst hj
      have hs' : w.cell? ⟨n, 0, none⟩ = some v := hsrc
      simpa [Addr.add] using hs'
  obtain ⟨t', w', hrun, hown', hg, _, _⟩ := run_append_own_at (P := Try.prog) w B 40 o.type 36 i (.slice none 0 0) 1 24 Try.underlying40 hi hz0 hz1 hz2 rfl (by decide) t rs.length vs h2.tab.own ⟨n, 0, none⟩ 1 1 [v] rfl hnews (one_ok _ h1c) (by unfold maxLen; omega) (by omega) hb
  unfold Oper.wp execOp
  simp only [ho, resolve, invoke, builtin, Sem.run_bind, Sem.run_pure, Result.andThen_ok, List.map_toArray, List.map_cons, List.map_nil, hs, hx, hrun]
  exact h t' w' (h2.pushT hr hsf hsr hg (by simpa using hown')) hg

/-- a row is replaced by one in the same block or in a new one -/
theorem Two.put {gt capt n : Nat} {v' : Value} {r' : List Int} (h : Two w B t rs vs fv fr) (ht : t = .slice (some ⟨gt, 0, none⟩) n capt) {k : Nat} (hk : k < rs.length) (hg : w.grownBy w' (vs.getD k undef).ownBlock) (ho : OwnI w' B v' r')
    (hv : v'.ownBlock = (vs.getD k undef).ownBlock ∨ v'.ownBlock = some w.heap.size) : Two (w'.setCell ⟨gt, k, none⟩ v') B t (rs.set k r') (vs.set k v') fv fr := by
  have hl := h.tab.len
  have hf : OwnI w' B fv fr := World.ownsRow.kept h.own hg ((h.sep k hk).symm.row)
  have ht' : t.ownBlock = some gt := by rw [ht]; rfl
  refine ⟨h.tab.put ht hk hg ho (by rcases hv with e | e; exact .inl e; exact .inr (.inl e)), ?_, fun i hi => ?_⟩
  · refine World.ownsRow.kept hf (row := some gt) ⟨rfl, rfl, rfl, by simp [World.setCell], fun j hj hne => Below.heap_setCell _ _ _ _ (fun e => hne (by simp [e]))⟩ ?_
    have := h.tf.symm.row
    rwa [ht'] at this
  · rw [List.length_set] at hi
    rw [getD_set (by omega)]
    split
    · intro g e1 e2
      rcases hv with e | e
      · exact h.sep k hk g (e ▸ e1) e2
      · rw [e] at e1
        simp at e1
        have := (World.ownsRow.lt h.own g e2).2
        omega
    · exact h.sep i hi
/-- a number of the slice is stored anew -/
theorem Two.setF {gf n cap : Nat} (h : Two w B t rs vs fv fr) (hf : fv = .slice (some ⟨gf, 0, none⟩) n cap) (j : Nat) (x : Int) : Two (w.setCell ⟨gf, j, none⟩ (.int .i64 x)) B t rs vs fv (fr.set j x) := by
  subst hf
  have hn : n = fr.length := by obtain ⟨a, c, he, _⟩ := h.own.si; simp at he; exact he.2.1
  subst hn
  have hst := World.ownsRow.stored h.own j (.int .i64 x)
  refine ⟨h.tab.kept hst.2 (h.tf.row) (fun i hi => (h.sep i hi).row), ?_, h.sep⟩
  unfold OwnI
  rw [List.length_set, List.map_set]
  exact hst.1
theorem step_row_app {ops : Array Oper} {o : Oper} {a : Act} {K : Act → World → Prop} {Q : Exit → Act → World → Prop} {E : Prop} (hw : Region.wanted o (yielded ops a.tmps) = true) (s x : Operand)
    (ho : o.op = .call { callee := .builtin .append, args := #[s, x], argTypes := #[36, 36] }) (n : Nat) (y : Int) (v : Value) (r : List Int) (hs : a.eval s = v) (hx : a.eval x = .slice (some ⟨n, 0, none⟩) 1 1)
    (h2 : OwnI w B v r) (hsrc : SI w (.slice (some ⟨n, 0, none⟩) 1 1) [y]) (hlen : r.length ≤ 1000000) (hb : B ≤ w.heap.size)
    (h : ∀ v' w', OwnI w' B v' (r ++ [y]) → w.grownBy w' v.ownBlock → (v'.ownBlock = v.ownBlock ∨ v'.ownBlock = some w.heap.size) → K (a.put o.dst v') w') : if Region.wanted o (yielded ops a.tmps) = true then Oper.wp Try.prog o a w K Q else E := by
  rw [if_pos hw]
  exact wp_app_int s x ho B v _ r [y] hs hx h2 hsrc (by simp; omega) hb h
end Go.Proofs.Ytlgepggmgfnneaa
