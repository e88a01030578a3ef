/- bars.divide: its captured variables in memory. -/
import Derived.Test.YtlgepggmgfnneaaTwoW
import Derived.Test.YtlgepggmgfnneaaRowSpec
import Derived.Test.YtlgepggmgfnneaaBarC
namespace Go.Proofs.Ytlgepggmgfnneaa
open Go.RowKit

/-- the closure -/
def divF (X : Nat) : Value := .func (.func 53) #[] #[.pointer (some ⟨X, 0, none⟩), .pointer (some ⟨X + 2, 0, none⟩), .pointer (some ⟨X + 4, 0, none⟩), .pointer (some ⟨X + 5, 0, none⟩), .pointer (some ⟨X + 6, 0, none⟩), .pointer (some ⟨X + 3, 0, none⟩), .pointer (some ⟨X + 1, 0, none⟩)]
/-- the captured variables lie in blocks X .. X + 6: the lengths, the stock, the kerf, the number of bars, the bars, what is left of them, the closure -/
structure Boxes (w : World) (X : Nat) (lv : Value) (s k n : Int) (t fv : Value) : Prop where
  b0 : w.heap[X]? = some (.cells #[lv] 36 (0, 0))
  b1 : w.heap[X + 1]? = some (.cells #[.int .i64 s] 3 (0, 0))
  b2 : w.heap[X + 2]? = some (.cells #[.int .i64 k] 3 (0, 0))
  b3 : w.heap[X + 3]? = some (.cells #[.int .i64 n] 3 (0, 0))
  b4 : w.heap[X + 4]? = some (.cells #[t] 40 (0, 0))
  b5 : w.heap[X + 5]? = some (.cells #[fv] 36 (0, 0))
  b6 : w.heap[X + 6]? = some (.cells #[divF X] 67 (0, 0))

theorem set_othr {w : World} {b k : Nat} {v : Value} (h : k ≠ b) : (w.setCell ⟨b, 0, none⟩ v).heap[k]? = w.heap[k]? := Below.heap_setCell _ _ _ _ h
theorem owns_hi {w w' : World} {B : Nat} {e : TypeId} {s : Nat} {v : Value} {n : Nat} {xs : List Value} (h : w.ownsRow B e s v n xs) (hh : ∀ g, B ≤ g → g < w.heap.size → w'.heap[g]? = w.heap[g]?) : w'.ownsRow B e s v n xs := by
  refine ⟨h.1, ?_⟩
  rcases h.2 with hn | ⟨g, cap, cur, hv, hb, hg, rest⟩
  · exact .inl hn
  · exact .inr ⟨g, cap, cur, hv, hb, by rw [hh g hb (lt_of_block hg)]; exact hg, rest⟩
theorem Two.hi {w w' : World} {B : Nat} {t fv : Value} {rs : List (List Int)} {vs : List Value} {fr : List Int} (h : Two w B t rs vs fv fr) (hh : ∀ g, B ≤ g → g < w.heap.size → w'.heap[g]? = w.heap[g]?) : Two w' B t rs vs fv fr :=
  ⟨⟨owns_hi h.tab.own hh, fun i hi => owns_hi (h.tab.row i hi) hh, h.tab.sep⟩, owns_hi h.own hh, h.sep⟩

section
variable {w w' : World} {X : Nat} {lv t fv : Value} {s k n : Int}
theorem Boxes.below (h : Boxes w X lv s k n t fv) (hb : Below (X + 7) w w') : Boxes w' X lv s k n t fv :=
  ⟨by rw [hb.block _ (by omega)]; exact h.b0, by rw [hb.block _ (by omega)]; exact h.b1, by rw [hb.block _ (by omega)]; exact h.b2, by rw [hb.block _ (by omega)]; exact h.b3,
    by rw [hb.block _ (by omega)]; exact h.b4, by rw [hb.block _ (by omega)]; exact h.b5, by rw [hb.block _ (by omega)]; exact h.b6⟩
theorem Boxes.setT (h : Boxes w X lv s k n t fv) (t' : Value) : Boxes (w.setCell ⟨X + 4, 0, none⟩ t') X lv s k n t' fv :=
  ⟨by rw [set_othr (by omega)]; exact h.b0, by rw [set_othr (by omega)]; exact h.b1, by rw [set_othr (by omega)]; exact h.b2, by rw [set_othr (by omega)]; exact h.b3,
    one_setCell h.b4, by rw [set_othr (by omega)]; exact h.b5, by rw [set_othr (by omega)]; exact h.b6⟩
theorem Boxes.setV (h : Boxes w X lv s k n t fv) (fv' : Value) : Boxes (w.setCell ⟨X + 5, 0, none⟩ fv') X lv s k n t fv' :=
  ⟨by rw [set_othr (by omega)]; exact h.b0, by rw [set_othr (by omega)]; exact h.b1, by rw [set_othr (by omega)]; exact h.b2, by rw [set_othr (by omega)]; exact h.b3,
    by rw [set_othr (by omega)]; exact h.b4, one_setCell h.b5, by rw [set_othr (by omega)]; exact h.b6⟩
theorem Boxes.lt (h : Boxes w X lv s k n t fv) : X + 7 ≤ w.heap.size := lt_of_block h.b6
theorem Boxes.c0 (h : Boxes w X lv s k n t fv) : w.cell? ⟨X, 0, none⟩ = some lv := cell_of_one h.b0
theorem Boxes.c1 (h : Boxes w X lv s k n t fv) : w.cell? ⟨X + 1, 0, none⟩ = some (.int .i64 s) := cell_of_one h.b1
theorem Boxes.c2 (h : Boxes w X lv s k n t fv) : w.cell? ⟨X + 2, 0, none⟩ = some (.int .i64 k) := cell_of_one h.b2
theorem Boxes.c3 (h : Boxes w X lv s k n t fv) : w.cell? ⟨X + 3, 0, none⟩ = some (.int .i64 n) := cell_of_one h.b3
theorem Boxes.c4 (h : Boxes w X lv s k n t fv) : w.cell? ⟨X + 4, 0, none⟩ = some t := cell_of_one h.b4
theorem Boxes.c5 (h : Boxes w X lv s k n t fv) : w.cell? ⟨X + 5, 0, none⟩ = some fv := cell_of_one h.b5
theorem Boxes.c6 (h : Boxes w X lv s k n t fv) : w.cell? ⟨X + 6, 0, none⟩ = some (.func (.func 53) #[] #[.pointer (some ⟨X, 0, none⟩), .pointer (some ⟨X + 2, 0, none⟩), .pointer (some ⟨X + 4, 0, none⟩), .pointer (some ⟨X + 5, 0, none⟩), .pointer (some ⟨X + 6, 0, none⟩), .pointer (some ⟨X + 3, 0, none⟩), .pointer (some ⟨X + 1, 0, none⟩)]) := cell_of_one h.b6
theorem Boxes.f4 (h : Boxes w X lv s k n t fv) : w.frozen? ⟨X + 4, 0, none⟩ = false := free_of_one h.b4
theorem Boxes.f5 (h : Boxes w X lv s k n t fv) : w.frozen? ⟨X + 5, 0, none⟩ = false := free_of_one h.b5
end

/-- the state of the search -/
structure RepD (w : World) (X : Nat) (lv : Value) (s k n : Int) (t fv : Value) (rs : List (List Int)) (vs : List Value) (fr : List Int) : Prop where
  box : Boxes w X lv s k n t fv
  two : Two w (X + 7) t rs vs fv fr

section
variable {w w' : World} {X : Nat} {lv t fv : Value} {s k n : Int} {rs : List (List Int)} {vs : List Value} {fr : List Int}
theorem RepD.below (h : RepD w X lv s k n t fv rs vs fr) (hb : Below w.heap.size w w') : RepD w' X lv s k n t fv rs vs fr := ⟨h.box.below (hb.mono h.box.lt), h.two.below hb⟩
theorem RepD.dn (h : RepD w X lv s k n t fv rs vs fr) (m : Nat) : RepD (w.drewN m) X lv s k n t fv rs vs fr := h.below (below_drewN' (Below.refl _ _) m)
theorem RepD.drew (h : RepD w X lv s k n t fv rs vs fr) : RepD w.drew X lv s k n t fv rs vs fr := h.dn 1
theorem RepD.alloc (h : RepD w X lv s k n t fv rs vs fr) (o : Obj) : RepD (w.alloc o) X lv s k n t fv rs vs fr := h.below ((Below.refl _ _).alloc (Nat.le_refl _) _)
theorem RepD.lt (h : RepD w X lv s k n t fv rs vs fr) : X + 7 ≤ w.heap.size := h.box.lt
theorem below_set {w : World} {B b : Nat} (h : B ≤ b) (o : Nat) (v : Value) : Below B w (w.setCell ⟨b, o, none⟩ v) := (Below.refl _ _).setCell h v
/-- what is left of a bar is stored anew -/
theorem RepD.setF {gf m cap : Nat} (h : RepD w X lv s k n t fv rs vs fr) (hf : fv = .slice (some ⟨gf, 0, none⟩) m cap) (j : Nat) (y : Int) : RepD (w.setCell ⟨gf, j, none⟩ (.int .i64 y)) X lv s k n t fv rs vs (fr.set j y) := by
  have hgf := (World.ownsRow.lt h.two.own gf (by rw [hf]; rfl)).1
  exact ⟨h.box.below (below_set hgf _ _), h.two.setF hf j y⟩
theorem RepD.setF_below {gf m cap : Nat} (h : RepD w X lv s k n t fv rs vs fr) (hf : fv = .slice (some ⟨gf, 0, none⟩) m cap) (j : Nat) (y : Value) : Below (X + 7) w (w.setCell ⟨gf, j, none⟩ y) :=
  below_set (World.ownsRow.lt h.two.own gf (by rw [hf]; rfl)).1 _ _
/-- a row is replaced -/
theorem RepD.put {gt capt m : Nat} {v' : Value} {r' : List Int} (h : RepD w X lv s k n t fv rs vs fr) (ht : t = .slice (some ⟨gt, 0, none⟩) m capt) {j : Nat} (hj : j < rs.length) (hg : w.grownBy w' (vs.getD j undef).ownBlock) (ho : OwnI w' (X + 7) v' r')
    (hv : v'.ownBlock = (vs.getD j undef).ownBlock ∨ v'.ownBlock = some w.heap.size) : RepD (w'.setCell ⟨gt, j, none⟩ v') X lv s k n t fv (rs.set j r') (vs.set j v') fr ∧ Below (X + 7) w (w'.setCell ⟨gt, j, none⟩ v') := by
  have hgt := (h.two.tab.own.lt gt (by rw [ht]; rfl)).1
  have hb : Below (X + 7) w (w'.setCell ⟨gt, j, none⟩ v') := ((Below.refl _ _).grown hg h.lt (fun i hi => (World.ownsRow.lt (h.two.tab.row j hj) i hi).1)).trans (below_set hgt _ _)
  exact ⟨⟨h.box.below hb, h.two.put ht hj hg ho hv⟩, hb⟩
/-- what stands behind an append onto a row -/
theorem RepD.after {gt capt m j : Nat} (h : RepD w X lv s k n t fv rs vs fr) (ht : t = .slice (some ⟨gt, 0, none⟩) m capt) (hj : j < rs.length) (hg : w.grownBy w' (vs.getD j undef).ownBlock) :
    w'.cell? ⟨X + 4, 0, none⟩ = some t ∧ w'.cell? ⟨gt, j, none⟩ = some (vs.getD j undef) ∧ w'.frozen? ⟨gt, j, none⟩ = false := by
  have ht' : t.ownBlock = some gt := by rw [ht]; rfl
  have hs : Sep t (vs.getD j undef) := sep_of_types h.two.tab.own (h.two.tab.row j hj) (by decide)
  have hne : some gt ≠ (vs.getD j undef).ownBlock := fun e => hs gt ht' e.symm
  obtain ⟨gt', capt', e, _, _, _, hlt, hc, hf⟩ := h.two.tab.form (by omega)
  rw [ht] at e
  simp at e
  obtain ⟨rfl, rfl, rfl⟩ := e
  refine ⟨hg.cell h.box.c4 (fun e => ?_), hg.cell (hc j hj) hne, ?_⟩
  · have := (World.ownsRow.lt (h.two.tab.row j hj) _ e.symm).1; dsimp only at this; omega
  · have := World.frozen?_of_block (a := ⟨gt, j, none⟩) (hg.block gt hlt hne)
    rw [this]; exact hf j
/-- both lists have been lengthened, and stored -/
theorem RepD.setBoth {t' fv' : Value} {rs' : List (List Int)} {vs' : List Value} {fr' : List Int} (h : RepD w X lv s k n t fv rs vs fr) (hb : Below (X + 7) w w') (h2 : Two w' (X + 7) t' rs' vs' fv' fr') :
    RepD ((w'.setCell ⟨X + 4, 0, none⟩ t').setCell ⟨X + 5, 0, none⟩ fv') X lv s k n t' fv' rs' vs' fr' ∧ RepD ((w'.setCell ⟨X + 5, 0, none⟩ fv').setCell ⟨X + 4, 0, none⟩ t') X lv s k n t' fv' rs' vs' fr' := by
  have h1 := h.box.below hb
  refine ⟨⟨(h1.setT t').setV fv', h2.hi fun g hg _ => ?_⟩, ⟨(h1.setV fv').setT t', h2.hi fun g hg _ => ?_⟩⟩
  · rw [set_othr (by omega), set_othr (by omega)]
  · rw [set_othr (by omega), set_othr (by omega)]
/-- the last row and the last number are left out -/
theorem Two.pop {B gt gf capt capf m : Nat} {r : List Int} {v : Value} {y : Int} (h : Two w B (.slice (some ⟨gt, 0, none⟩) (m + 1) capt) (rs ++ [r]) (vs ++ [v]) (.slice (some ⟨gf, 0, none⟩) (m + 1) capf) (fr ++ [y])) (hn : rs.length = m) (hf : fr.length = m) (hv : vs.length = m) :
    Two w B (.slice (some ⟨gt, 0, none⟩) m capt) rs vs (.slice (some ⟨gf, 0, none⟩) m capf) fr := by
  refine ⟨h.tab.pop hn, ?_, fun i hi => ?_⟩
  · have ho : w.ownsRow B 3 1 _ (fr ++ [y]).length ((fr ++ [y]).map (Value.int .i64)) := h.own
    rw [List.length_append, List.length_singleton, hf, List.map_append, List.map_singleton] at ho
    have := ownsRow_pop (by simp [hf]) ho
    show w.ownsRow B 3 1 _ fr.length (fr.map (Value.int .i64))
    rw [hf]; exact this
  · have := h.sep i (by simp; omega)
    rw [getD_append_left (by omega)] at this
    exact this
end

/-- what the search leaves -/
def PostD (w : World) (X : Nat) (lv : Value) (s k : Int) (n : Nat) (xs fr : List Int) (bar : List Nat) (e : Ending) (w' : World) : Prop :=
  Below X w w' ∧ match dv (s + k) n xs fr with
    | some r => e = .returned (.bool true) ∧ ∃ t fv vs fr', RepD w' X lv s k n t fv (rowsB (bar ++ r.1) r.2) vs fr'
    | none => e = .returned (.bool false) ∧ ∃ t fv vs, RepD w' X lv s k n t fv (rowsB bar fr.length) vs fr
theorem contains_no (v : Value) (x : Int) (xs : List Int) (w : World) (h : SI w v xs) (hn : xs.any (fun y => x == y) = false) :
    Calls Try.prog 54 #[v, .int .i64 x] w fun e w' => e = .returned (.bool false) ∧ ∃ m, w' = w.drewN m := by
  have := contains_int v x xs w h
  rw [hn] at this; exact this
theorem contains_yes (v : Value) (x : Int) (xs : List Int) (w : World) (h : SI w v xs) (hn : xs.any (fun y => x == y) = true) :
    Calls Try.prog 54 #[v, .int .i64 x] w fun e w' => e = .returned (.bool true) ∧ ∃ m, w' = w.drewN m := by
  have := contains_int v x xs w h
  rw [hn] at this; exact this
end Go.Proofs.Ytlgepggmgfnneaa
