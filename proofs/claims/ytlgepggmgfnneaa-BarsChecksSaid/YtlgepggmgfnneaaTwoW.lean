/- A table and a slice of integers beside it, with a box that they keep clear of: steps in regions that draw their order. -/
import Derived.Test.YtlgepggmgfnneaaTwo
namespace Go.Proofs.Ytlgepggmgfnneaa
open Go.RowKit

structure TW (w0 w : World) (B I : Nat) (x : Value) (t : Value) (rs : List (List Int)) (vs : List Value) (fv : Value) (fr : List Int) : Prop where
  two : Two w B t rs vs fv fr
  bel : Below B w0 w
  le : B ≤ w.heap.size
  box : w.cell? ⟨I, 0, none⟩ = some x
  at_ : t.ownBlock ≠ some I
  af : fv.ownBlock ≠ some I
  ar : ∀ j, j < rs.length → (vs.getD j undef).ownBlock ≠ some I

variable {w0 w w' : World} {B I : Nat} {x t fv : Value} {rs : List (List Int)} {vs : List Value} {fr : List Int}

theorem TW.lt (h : TW w0 w B I x t rs vs fv fr) : I < w.heap.size := World.block_lt_of_cell? w _ h.box
theorem TW.alloc (h : TW w0 w B I x t rs vs fv fr) (o : Obj) : TW w0 (w.alloc o) B I x t rs vs fv fr :=
  ⟨h.two.alloc o, h.bel.alloc h.le o, by have := h.le; simp; omega, cell_keep ((Below.refl _ _).alloc (Nat.le_refl _) _) h.box, h.at_, h.af, h.ar⟩
theorem TW.dn (h : TW w0 w B I x t rs vs fv fr) (m : Nat) : TW w0 (w.drewN m) B I x t rs vs fv fr := ⟨h.two.dn m, below_drewN' h.bel m, h.le, h.box, h.at_, h.af, h.ar⟩
theorem TW.drew (h : TW w0 w B I x t rs vs fv fr) : TW w0 w.drew B I x t rs vs fv fr := h.dn 1
theorem TW.pushF {fv' : Value} {y : Int} (h : TW w0 w B I x t rs vs fv fr) (ho : OwnI w' B fv' (fr ++ [y])) (hg : w.grownBy w' fv.ownBlock) (hat : fv'.ownBlock = fv.ownBlock ∨ fv'.ownBlock = some w.heap.size) : TW w0 w' B I x t rs vs fv' (fr ++ [y]) := by
  have hl := h.lt
  refine ⟨h.two.pushF ho hg hat, h.two.below_f h.bel hg h.le, Nat.le_trans h.le hg.size, hg.cell h.box (fun e => h.af e.symm), h.at_, ?_, h.ar⟩
  rcases hat with e | e
  · rw [e]; exact h.af
  · rw [e]; simp; omega
theorem TW.pushT {t' v : Value} {r : List Int} (h : TW w0 w B I x t rs vs fv fr) (hr : OwnI w B v r) (hsf : Sep v fv) (hsr : ∀ i, i < rs.length → Sep (vs.getD i undef) v) (hvi : v.ownBlock ≠ some I) (hg : w.grownBy w' t.ownBlock) (hown' : w'.ownsRow B 36 1 t' (rs.length + 1) (vs ++ [v]))
    (hat : t'.ownBlock = t.ownBlock ∨ t'.ownBlock = some w.heap.size) : TW w0 w' B I x t' (rs ++ [r]) (vs ++ [v]) fv fr := by
  have hl := h.lt
  have hvl := h.two.tab.len
  refine ⟨h.two.pushT hr hsf hsr hg hown', h.two.below_t h.bel hg h.le, Nat.le_trans h.le hg.size, hg.cell h.box (fun e => h.at_ e.symm), ?_, h.af, fun j hj => ?_⟩
  · rcases hat with e | e
    · rw [e]; exact h.at_
    · rw [e]; simp; omega
  · simp only [List.length_append, List.length_singleton] at hj
    by_cases e : j < rs.length
    · rw [getD_append_left (by omega)]; exact h.ar j e
    · obtain rfl : j = vs.length := by omega
      rw [getD_append_one]; exact hvi
theorem TW.put {gt capt n : Nat} {v' : Value} {r' : List Int} (h : TW w0 w B I x t rs vs fv fr) (ht : t = .slice (some ⟨gt, 0, none⟩) n capt) {k : Nat} (hk : k < rs.length) (hg : w.grownBy w' (vs.getD k undef).ownBlock) (ho : OwnI w' B v' r')
    (hv : v'.ownBlock = (vs.getD k undef).ownBlock ∨ v'.ownBlock = some w.heap.size) : TW w0 (w'.setCell ⟨gt, k, none⟩ v') B I x t (rs.set k r') (vs.set k v') fv fr := by
  have hl := h.lt
  have hvl := h.two.tab.len
  have ht' : t.ownBlock = some gt := by rw [ht]; rfl
  have hgt := (h.two.tab.own.lt gt ht').1
  refine ⟨h.two.put ht hk hg ho hv, (h.bel.grown hg h.le (fun j hj => (World.ownsRow.lt (h.two.tab.row k hk) j hj).1)).setCell hgt _, by have := hg.size; have := h.le; simp [World.setCell]; omega, ?_, h.at_, h.af, fun j hj => ?_⟩
  · have h1 : w'.cell? ⟨I, 0, none⟩ = some x := hg.cell h.box (fun e => h.ar k hk e.symm)
    have h2 : (w'.setCell ⟨gt, k, none⟩ v').heap[I]? = w'.heap[I]? := Below.heap_setCell _ _ _ _ (fun e => h.at_ (by rw [ht']; simp; exact e.symm))
    exact (World.cell?_of_block (a := ⟨I, 0, none⟩) h2).trans h1
  · rw [List.length_set] at hj
    rw [getD_set (by omega)]
    split
    · rcases hv with e | e
      · rw [e]; exact h.ar k hk
      · rw [e]; simp; omega
    · exact h.ar j hj
theorem TW.setF {gf n cap : Nat} (h : TW w0 w B I x t rs vs fv fr) (hf : fv = .slice (some ⟨gf, 0, none⟩) n cap) (j : Nat) (y : Int) : TW w0 (w.setCell ⟨gf, j, none⟩ (.int .i64 y)) B I x t rs vs fv (fr.set j y) := by
  have hf' : fv.ownBlock = some gf := by rw [hf]; rfl
  have hgf := (World.ownsRow.lt h.two.own gf hf').1
  refine ⟨h.two.setF hf j y, h.bel.setCell hgf _, by have := h.le; simp [World.setCell]; omega, ?_, h.at_, h.af, h.ar⟩
  have h2 : (w.setCell ⟨gf, j, none⟩ (.int .i64 y)).heap[I]? = w.heap[I]? := Below.heap_setCell _ _ _ _ (fun e => h.af (by rw [hf']; simp; exact e.symm))
  exact (World.cell?_of_block (a := ⟨I, 0, none⟩) h2).trans h.box

theorem step_tw_free {ops : Array Oper} {o : Oper} {a : Act} {K : Act → World → Prop} {Q : Exit → Act → World → Prop} {E : Prop} (hw : Region.wanted o (yielded ops a.tmps) = true) (s z : Operand)
    (ho : o.op = .call { callee := .builtin .append, args := #[s, z], argTypes := #[36, 36] }) (n : Nat) (y : Int) (hs : a.eval s = fv) (hx : a.eval z = .slice (some ⟨n, 0, none⟩) 1 1)
    (h2 : TW w0 w B I x t rs vs fv fr) (hsrc : SI w (.slice (some ⟨n, 0, none⟩) 1 1) [y]) (hlen : fr.length ≤ 1000000)
    (h : ∀ fv' w', TW w0 w' B I x t rs vs fv' (fr ++ [y]) → w.grownBy w' fv.ownBlock → K (a.put o.dst fv') w') : if Region.wanted o (yielded ops a.tmps) = true then Oper.wp Try.prog o a w K Q else E := by
  rw [if_pos hw]
  exact wp_app_int s z ho B fv _ fr [y] hs hx h2.two.own hsrc (by simp; omega) h2.le fun fv' w' h3 h4 h5 => h fv' w' (h2.pushF h3 h4 h5) h4

theorem step_tw_tab {ops : Array Oper} {o : Oper} {a : Act} {K : Act → World → Prop} {Q : Exit → Act → World → Prop} {E : Prop} (hw : Region.wanted o (yielded ops a.tmps) = true) (s z : Operand)
    (ho : o.op = .call { callee := .builtin .append, args := #[s, z], argTypes := #[40, 40] }) (n : Nat) (v : Value) (r : List Int) (hs : a.eval s = t) (hx : a.eval z = .slice (some ⟨n, 0, none⟩) 1 1)
    (h2 : TW w0 w B I x t rs vs fv fr) (hsrc : Lit1 w n v) (h1c : v.oneCell' = true) (hr : OwnI w B v r) (hsf : Sep v fv) (hsr : ∀ i, i < rs.length → Sep (vs.getD i undef) v) (hvi : v.ownBlock ≠ some I) (hlen : rs.length ≤ 1000000)
    (h : ∀ t' w', TW w0 w' B I x t' (rs ++ [r]) (vs ++ [v]) fv fr → w.grownBy w' t.ownBlock → K (a.put o.dst t') w') : if Region.wanted o (yielded ops a.tmps) = true then Oper.wp Try.prog o a w K Q else E := by
  rw [if_pos hw]
  obtain ⟨i, hi, hz0, hz1, hz2⟩ := info_parts Try_infoInts
  have hnews : ∀ j u, [v][j]? = some u → w.cell? ((⟨n, 0, none⟩ : Addr).add j) = some u := by
    intro j u hj
    match j, hj with
    | 0, hj =>
      simp at hj; subst hj
      have hs' : w.cell? ⟨n, 0, none⟩ = some v := hsrc
      simpa [Addr.add] using hs'
  obtain ⟨t', w', hrun, hown', hg, _, hat⟩ := run_append_own_at (P := Try.prog) w B 40 o.type 36 i (.slice none 0 0) 1 24 Try.underlying40 hi hz0 hz1 hz2 rfl (by decide) t rs.length vs h2.two.tab.own ⟨n, 0, none⟩ 1 1 [v] rfl hnews (one_ok _ h1c) (by unfold maxLen; omega) (by omega) h2.le
  unfold Oper.wp execOp
  simp only [ho, resolve, invoke, builtin, Sem.run_bind, Sem.run_pure, Result.andThen_ok, List.map_toArray, List.map_cons, List.map_nil, hs, hx, hrun]
  exact h t' w' (h2.pushT hr hsf hsr hvi hg (by simpa using hown') hat) hg

theorem OwnI_drew' {v : Value} {r : List Int} (h : OwnI w B v r) : OwnI w.drew B v r := h
theorem OwnI_alloc' {v : Value} {r : List Int} (h : OwnI w B v r) (o : Obj) : OwnI (w.alloc o) B v r := World.ownsRow.alloc h o
/-- what stands behind an append onto a row -/
theorem TW.after {gt capt n k : Nat} (h : TW w0 w B I x t rs vs fv fr) (ht : t = .slice (some ⟨gt, 0, none⟩) n capt) (hk : k < rs.length) (hg : w.grownBy w' (vs.getD k undef).ownBlock) :
    w'.cell? ⟨gt, k, none⟩ = some (vs.getD k undef) ∧ w'.frozen? ⟨gt, k, none⟩ = false ∧ w'.cell? ⟨I, 0, none⟩ = some x := by
  have ht' : t.ownBlock = some gt := by rw [ht]; rfl
  have hs : Sep t (vs.getD k undef) := sep_of_types h.two.tab.own (h.two.tab.row k hk) (by decide)
  have hne : some gt ≠ (vs.getD k undef).ownBlock := fun e => hs gt ht' e.symm
  obtain ⟨gt', capt', e, _, _, _, hlt, hc, hf⟩ := h.two.tab.form (by omega)
  rw [ht] at e
  simp at e
  obtain ⟨rfl, rfl, rfl⟩ := e
  refine ⟨hg.cell (hc k hk) hne, ?_, hg.cell h.box (fun e => h.ar k hk e.symm)⟩
  have := World.frozen?_of_block (a := ⟨gt, k, none⟩) (hg.block gt hlt hne)
  rw [this]; exact hf k
theorem SI_grownH {n : Nat} {y : Int} {row : Option Nat} (hg : w.grownBy w' row) (h : SI w (.slice (some ⟨n, 0, none⟩) 1 1) [y]) (hn : row ≠ some n) : SI w' (.slice (some ⟨n, 0, none⟩) 1 1) [y] := SI_grown h hg hn
theorem Lit1_grownH {n : Nat} {v : Value} {row : Option Nat} (hg : w.grownBy w' row) (h : Lit1 w n v) (hn : row ≠ some n) : Lit1 w' n v := h.grown hg hn
theorem SI_drew {v : Value} {xs : List Int} (h : SI w v xs) : SI w.drew v xs := h
theorem SI_alloc {v : Value} {xs : List Int} (h : SI w v xs) (o : Obj) : SI (w.alloc o) v xs := h.keep ((Below.refl _ _).alloc (Nat.le_refl _) _)
theorem Lit1_drew {n : Nat} {v : Value} (h : Lit1 w n v) : Lit1 w.drew n v := h
theorem cell_drew' {p : Addr} {v : Value} (h : w.cell? p = some v) : w.drew.cell? p = some v := h
theorem cell_alloc' {p : Addr} {v : Value} (h : w.cell? p = some v) (o : Obj) : (w.alloc o).cell? p = some v := cell_keep ((Below.refl _ _).alloc (Nat.le_refl _) _) h
theorem SI_new0 {x : Int} {e : TypeId} : SI (w.alloc (.cells #[.int .i64 x] e)) (.slice (some ⟨w.heap.size, 0, none⟩) 1 1) [x] := SI_new rfl x e
theorem SI_new1 {o : Obj} {x : Int} {e : TypeId} : SI ((w.alloc o).alloc (.cells #[.int .i64 x] e)) (.slice (some ⟨w.heap.size + 1, 0, none⟩) 1 1) [x] := SI_new (by simp) x e
theorem SI_new1d {o : Obj} {x : Int} {e : TypeId} : SI ((w.alloc o).drew.alloc (.cells #[.int .i64 x] e)) (.slice (some ⟨w.heap.size + 1, 0, none⟩) 1 1) [x] := SI_new (by simp) x e
theorem Lit1_new0 {v : Value} {e : TypeId} : Lit1 (w.alloc (.cells #[v] e)) w.heap.size v := Lit1_new rfl
theorem Lit1_new1 {o : Obj} {v : Value} {e : TypeId} : Lit1 ((w.alloc o).alloc (.cells #[v] e)) (w.heap.size + 1) v := Lit1_new (by simp)
theorem Lit1_new1d {o : Obj} {v : Value} {e : TypeId} : Lit1 ((w.alloc o).drew.alloc (.cells #[v] e)) (w.heap.size + 1) v := Lit1_new (by simp)
theorem SI_gA0 {y : Int} (hg : w.grownBy w' t.ownBlock) (h : SI w (.slice (some ⟨w0.heap.size, 0, none⟩) 1 1) [y]) (h2 : Two w0 B t rs vs fv fr) : SI w' (.slice (some ⟨w0.heap.size, 0, none⟩) 1 1) [y] := SI_grown h hg (h2.tlt (by omega))
theorem SI_gA1 {y : Int} (hg : w.grownBy w' t.ownBlock) (h : SI w (.slice (some ⟨w0.heap.size + 1, 0, none⟩) 1 1) [y]) (h2 : Two w0 B t rs vs fv fr) : SI w' (.slice (some ⟨w0.heap.size + 1, 0, none⟩) 1 1) [y] := SI_grown h hg (h2.tlt (by omega))
theorem SI_gA2 {y : Int} (hg : w.grownBy w' t.ownBlock) (h : SI w (.slice (some ⟨w0.heap.size + 1 + 1, 0, none⟩) 1 1) [y]) (h2 : Two w0 B t rs vs fv fr) : SI w' (.slice (some ⟨w0.heap.size + 1 + 1, 0, none⟩) 1 1) [y] := SI_grown h hg (h2.tlt (by omega))
theorem Lit1_gF0 {v : Value} (hg : w.grownBy w' fv.ownBlock) (h : Lit1 w w0.heap.size v) (h2 : Two w0 B t rs vs fv fr) : Lit1 w' w0.heap.size v := h.grown hg (h2.flt (by omega))
theorem Lit1_gF1 {v : Value} (hg : w.grownBy w' fv.ownBlock) (h : Lit1 w (w0.heap.size + 1) v) (h2 : Two w0 B t rs vs fv fr) : Lit1 w' (w0.heap.size + 1) v := h.grown hg (h2.flt (by omega))
theorem Lit1_gF2 {v : Value} (hg : w.grownBy w' fv.ownBlock) (h : Lit1 w (w0.heap.size + 1 + 1) v) (h2 : Two w0 B t rs vs fv fr) : Lit1 w' (w0.heap.size + 1 + 1) v := h.grown hg (h2.flt (by omega))
theorem sep_nil_left (v : Value) : Sep (.slice none 0 0) v := fun g h => by simp [Value.ownBlock] at h
theorem sep_nil_right (v : Value) : Sep v (.slice none 0 0) := fun g _ h => by simp [Value.ownBlock] at h
theorem Two.slice_t {w : World} {B : Nat} {t fv : Value} {rs : List (List Int)} {vs : List Value} {fr : List Int} (h : Two w B t rs vs fv fr) : ∃ a c, t = .slice a rs.length c ∧ rs.length ≤ c := by
  rcases h.tab.own.2 with ⟨e, hn⟩ | ⟨g, cap, cur, e, _, _, hc, _⟩
  · exact ⟨none, 0, by rw [e, hn], by omega⟩
  · exact ⟨_, cap, e, hc⟩
theorem Two.slice_f {w : World} {B : Nat} {t fv : Value} {rs : List (List Int)} {vs : List Value} {fr : List Int} (h : Two w B t rs vs fv fr) : ∃ a c, fv = .slice a fr.length c ∧ fr.length ≤ c := by
  rcases World.ownsRow.lt h.own with _
  rcases h.own.2 with ⟨e, hn⟩ | ⟨g, cap, cur, e, _, _, hc, _⟩
  · exact ⟨none, 0, by rw [e, hn], by omega⟩
  · exact ⟨_, cap, e, hc⟩
end Go.Proofs.Ytlgepggmgfnneaa
