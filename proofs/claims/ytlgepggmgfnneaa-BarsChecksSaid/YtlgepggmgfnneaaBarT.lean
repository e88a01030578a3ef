/- The reference's search for the best plan: its record in memory. -/
import Derived.Test.YtlgepggmgfnneaaTwoW
import Derived.Test.YtlgepggmgfnneaaRowSpec
import Derived.Test.YtlgepggmgfnneaaBarC
namespace Go.Proofs.Ytlgepggmgfnneaa
open Go.RowKit

def natL (l : List Nat) : List Int := l.map fun j : Nat => (j : Int)
def usL (s : Int) (fr : List Int) : List Int := fr.map fun y => s - y
theorem natL_length (l) : (natL l).length = l.length := by simp [natL]
theorem usL_length (s fr) : (usL s fr).length = fr.length := by simp [usL]
theorem natL_app (l : List Nat) (j : Nat) : natL (l ++ [j]) = natL l ++ [(j : Int)] := by simp [natL]
theorem usL_app (s : Int) (fr : List Int) (y : Int) : usL s (fr ++ [y]) = usL s fr ++ [s - y] := by simp [usL]
theorem usL_set (s : Int) (fr : List Int) (j : Nat) (y : Int) : usL s (fr.set j y) = (usL s fr).set j (s - y) := by simp [usL, List.map_set]
theorem gi_usL {s : Int} {fr : List Int} {j : Nat} (h : j < fr.length) : gi (usL s fr) j = s - gi fr j := by
  rw [gi_lt (by rw [usL_length]; exact h), gi_lt h]; simp [usL]
theorem gi_natL {l : List Nat} {j : Nat} (h : j < l.length) : gi (natL l) j = (l.getD j 0 : Nat) := by
  rw [gi_lt (by rw [natL_length]; exact h)]; simp [natL, h]

def blkP (lv : Value) (s k : Int) (bv uv ov : Value) (n : Int) : Obj := .cells #[lv, .int .i64 s, .int .i64 k, bv, uv, ov, .int .i64 n] 77 (0, 0)
structure RepP (w : World) (X : Nat) (lv : Value) (s k : Int) (bv uv ov : Value) (bar : List Nat) (fr : List Int) (st : BestS) : Prop where
  blk : w.heap[X]? = some (blkP lv s k bv uv ov st.2)
  bo : OwnI w (X + 1) bv (natL bar)
  uo : OwnI w (X + 1) uv (usL s fr)
  oo : OwnI w (X + 1) ov (natL st.1)
  s1 : Sep bv uv
  s2 : Sep bv ov
  s3 : Sep uv ov

theorem own_hi {w w' : World} {B : Nat} {v : Value} {r : List Int} (h : OwnI w B v r) (hh : ∀ g, B ≤ g → g < w.heap.size → w'.heap[g]? = w.heap[g]?) : OwnI w' B v r := by
  have h' : w.ownsRow B 3 1 v r.length (r.map (Value.int .i64)) := h
  refine ⟨h'.1, ?_⟩
  rcases h'.2 with hn | ⟨g, cap, cur, hv, hb, hg, rest⟩
  · exact .inl hn
  · exact .inr ⟨g, cap, cur, hv, hb, by rw [hh g hb (lt_of_block hg)]; exact hg, rest⟩
theorem set_far {w : World} {b o k : Nat} {v : Value} (h : k ≠ b) : (w.setCell ⟨b, o, none⟩ v).heap[k]? = w.heap[k]? := Below.heap_setCell _ _ _ _ h
theorem own_form0 {w : World} {B : Nat} {v : Value} {r : List Int} (h : OwnI w B v r) : ∃ a c, v = .slice a r.length c ∧ r.length ≤ c := by
  obtain ⟨a, c, e, h1, _⟩ := h.si
  exact ⟨a, c, e, h1⟩

section
variable {w w' : World} {X : Nat} {lv bv uv ov : Value} {s k : Int} {bar : List Nat} {fr : List Int} {st : BestS}
theorem RepP.lt (h : RepP w X lv s k bv uv ov bar fr st) : X + 1 ≤ w.heap.size := lt_of_block h.blk
theorem RepP.below (h : RepP w X lv s k bv uv ov bar fr st) (hb : Below w.heap.size w w') : RepP w' X lv s k bv uv ov bar fr st :=
  ⟨by rw [hb.block X (lt_of_block h.blk)]; exact h.blk, h.bo.below hb, h.uo.below hb, h.oo.below hb, h.s1, h.s2, h.s3⟩
theorem RepP.dn (h : RepP w X lv s k bv uv ov bar fr st) (m : Nat) : RepP (w.drewN m) X lv s k bv uv ov bar fr st := h.below (below_drewN' (Below.refl _ _) m)
theorem RepP.drew (h : RepP w X lv s k bv uv ov bar fr st) : RepP w.drew X lv s k bv uv ov bar fr st := h.dn 1
theorem RepP.alloc (h : RepP w X lv s k bv uv ov bar fr st) (o : Obj) : RepP (w.alloc o) X lv s k bv uv ov bar fr st := h.below ((Below.refl _ _).alloc (Nat.le_refl _) _)
theorem RepP.c0 (h : RepP w X lv s k bv uv ov bar fr st) : w.cell? ⟨X, 0, none⟩ = some lv := by simp [World.cell?, h.blk, blkP]
theorem RepP.c1 (h : RepP w X lv s k bv uv ov bar fr st) : w.cell? ⟨X, 1, none⟩ = some (.int .i64 s) := by simp [World.cell?, h.blk, blkP]
theorem RepP.c2 (h : RepP w X lv s k bv uv ov bar fr st) : w.cell? ⟨X, 2, none⟩ = some (.int .i64 k) := by simp [World.cell?, h.blk, blkP]
theorem RepP.c3 (h : RepP w X lv s k bv uv ov bar fr st) : w.cell? ⟨X, 3, none⟩ = some bv := by simp [World.cell?, h.blk, blkP]
theorem RepP.c4 (h : RepP w X lv s k bv uv ov bar fr st) : w.cell? ⟨X, 4, none⟩ = some uv := by simp [World.cell?, h.blk, blkP]
theorem RepP.c5 (h : RepP w X lv s k bv uv ov bar fr st) : w.cell? ⟨X, 5, none⟩ = some ov := by simp [World.cell?, h.blk, blkP]
theorem RepP.c6 (h : RepP w X lv s k bv uv ov bar fr st) : w.cell? ⟨X, 6, none⟩ = some (.int .i64 st.2) := by simp [World.cell?, h.blk, blkP]
theorem RepP.fz (h : RepP w X lv s k bv uv ov bar fr st) (i : Nat) : w.frozen? ⟨X, i, none⟩ = false := by simp [World.frozen?, h.blk, blkP]

theorem far_of {B : Nat} {v : Value} {r : List Int} (h : OwnI w B v r) {b : Nat} (hne : v.ownBlock ≠ some b) (hg : w.grownBy w' (some b)) : OwnI w' B v r := World.ownsRow.kept h hg (.inr hne)
theorem grownBy_set (w : World) (b o : Nat) (v : Value) : w.grownBy (w.setCell ⟨b, o, none⟩ v) (some b) :=
  ⟨rfl, rfl, rfl, by simp [World.setCell], fun k hk hn => Below.heap_setCell _ _ _ _ (fun e => hn (by simp [e]))⟩
theorem blk_kept {B : Nat} {v : Value} {r : List Int} {o : Obj} (hx : w.heap[X]? = some o) (h : OwnI w B v r) (hB : X < B) (hg : w.grownBy w' v.ownBlock) : w'.heap[X]? = some o := by
  rw [hg.block X (lt_of_block hx) (fun e => ?_)]
  · exact hx
  · have := (World.ownsRow.lt h X e.symm).1; omega

theorem bset {w w' : World} {B b : Nat} (h : Below B w w') (hb : B ≤ b) (o : Nat) (v : Value) : Below B w (w'.setCell ⟨b, o, none⟩ v) := h.setCell hb v
/-- a number of the used lengths is stored anew -/
theorem RepP.setU {gu m cap : Nat} (h : RepP w X lv s k bv uv ov bar fr st) (hu : uv = .slice (some ⟨gu, 0, none⟩) m cap) (j : Nat) (y y' : Int) (hy : y' = s - y) :
    RepP (w.setCell ⟨gu, j, none⟩ (.int .i64 y')) X lv s k bv uv ov bar (fr.set j y) st ∧ Below (X + 1) w (w.setCell ⟨gu, j, none⟩ (.int .i64 y')) := by
  subst hy
  have hgu := (World.ownsRow.lt h.uo gu (by rw [hu]; rfl)).1
  have e : uv.ownBlock = some gu := by rw [hu]; rfl
  have hb : Below (X + 1) w (w.setCell ⟨gu, j, none⟩ (.int .i64 (s - y))) := (Below.refl _ _).setCell hgu _
  refine ⟨⟨?_, far_of h.bo (fun e2 => h.s1 gu e2 e) (grownBy_set _ _ _ _), ?_, far_of h.oo (fun e2 => h.s3 gu e e2) (grownBy_set _ _ _ _), h.s1, h.s2, h.s3⟩, hb⟩
  · rw [set_far (by omega)]; exact h.blk
  · have hn : m = (usL s fr).length := by obtain ⟨a, c, he, _⟩ := h.uo.si; rw [hu] at he; simp at he; exact he.2.1
    rw [usL_set]
    have ho := h.uo
    rw [hu, hn] at ho ⊢
    have hst := World.ownsRow.stored ho j (.int .i64 (s - y))
    unfold OwnI
    rw [List.length_set, List.map_set]
    exact hst.1
/-- one bar more -/
theorem RepP.pushB {bv' : Value} {j : Nat} (h : RepP w X lv s k bv uv ov bar fr st) (ho : OwnI w' (X + 1) bv' (natL bar ++ [(j : Int)])) (hg : w.grownBy w' bv.ownBlock) (hat : bv'.ownBlock = bv.ownBlock ∨ bv'.ownBlock = some w.heap.size) :
    RepP (w'.setCell ⟨X, 3, none⟩ bv') X lv s k bv' uv ov (bar ++ [j]) fr st ∧ Below X w (w'.setCell ⟨X, 3, none⟩ bv') := by
  have hx := blk_kept h.blk h.bo (Nat.lt_succ_self _) hg
  have hh := heap_setCell_same w' X 3 _ _ bv' hx
  have hi : ∀ g, X + 1 ≤ g → g < w'.heap.size → (w'.setCell ⟨X, 3, none⟩ bv').heap[g]? = w'.heap[g]? := fun g hg _ => set_far (by omega)
  have sep : ∀ u r, OwnI w (X + 1) u r → Sep bv u → Sep bv' u := fun u r hu hs g h1 h2 => by
    rcases hat with e | e
    · exact hs g (e ▸ h1) h2
    · rw [e] at h1; simp at h1; have := (World.ownsRow.lt hu g h2).2; omega
  refine ⟨⟨hh, by rw [natL_app]; exact own_hi ho hi, own_hi (World.ownsRow.kept h.uo hg h.s1.symm.row) hi, own_hi (World.ownsRow.kept h.oo hg h.s2.symm.row) hi, sep _ _ h.uo h.s1, sep _ _ h.oo h.s2, h.s3⟩, ?_⟩
  exact bset ((Below.refl _ _).grown hg (by have := h.lt; omega) (fun i hi => by have := (World.ownsRow.lt h.bo i hi).1; omega)) (Nat.le_refl _) _ _
theorem RepP.popB {g cap j : Nat} (h : RepP w X lv s k (.slice (some ⟨g, 0, none⟩) (bar.length + 1) cap) uv ov (bar ++ [j]) fr st) :
    RepP (w.setCell ⟨X, 3, none⟩ (.slice (some ⟨g, 0, none⟩) bar.length cap)) X lv s k (.slice (some ⟨g, 0, none⟩) bar.length cap) uv ov bar fr st ∧ Below X w (w.setCell ⟨X, 3, none⟩ (.slice (some ⟨g, 0, none⟩) bar.length cap)) := by
  have hh := heap_setCell_same w X 3 _ _ (.slice (some ⟨g, 0, none⟩) bar.length cap) h.blk
  have hi : ∀ q, X + 1 ≤ q → q < w.heap.size → (w.setCell ⟨X, 3, none⟩ (.slice (some ⟨g, 0, none⟩) bar.length cap)).heap[q]? = w.heap[q]? := fun q hq _ => set_far (by omega)
  have ho : OwnI w (X + 1) (.slice (some ⟨g, 0, none⟩) bar.length cap) (natL bar) := by
    have ho := h.bo
    rw [natL_app] at ho
    have ho' : w.ownsRow (X + 1) 3 1 _ (natL bar ++ [(j : Int)]).length ((natL bar ++ [(j : Int)]).map (Value.int .i64)) := ho
    rw [List.length_append, List.length_singleton, List.map_append, List.map_singleton, natL_length] at ho'
    have := ownsRow_pop (by simp [natL_length]) ho'
    show w.ownsRow (X + 1) 3 1 _ (natL bar).length ((natL bar).map (Value.int .i64))
    rw [natL_length]; exact this
  exact ⟨⟨hh, own_hi ho hi, own_hi h.uo hi, own_hi h.oo hi, h.s1, h.s2, h.s3⟩, bset (Below.refl _ _) (Nat.le_refl _) _ _⟩
theorem RepP.pushU {uv' : Value} {y : Int} (h : RepP w X lv s k bv uv ov bar fr st) (ho : OwnI w' (X + 1) uv' (usL s fr ++ [s - y])) (hg : w.grownBy w' uv.ownBlock) (hat : uv'.ownBlock = uv.ownBlock ∨ uv'.ownBlock = some w.heap.size) :
    RepP (w'.setCell ⟨X, 4, none⟩ uv') X lv s k bv uv' ov bar (fr ++ [y]) st ∧ Below X w (w'.setCell ⟨X, 4, none⟩ uv') := by
  have hx := blk_kept h.blk h.uo (Nat.lt_succ_self _) hg
  have hh := heap_setCell_same w' X 4 _ _ uv' hx
  have hi : ∀ g, X + 1 ≤ g → g < w'.heap.size → (w'.setCell ⟨X, 4, none⟩ uv').heap[g]? = w'.heap[g]? := fun g hg _ => set_far (by omega)
  have sep : ∀ u r, OwnI w (X + 1) u r → Sep uv u → Sep uv' u := fun u r hu hs g h1 h2 => by
    rcases hat with e | e
    · exact hs g (e ▸ h1) h2
    · rw [e] at h1; simp at h1; have := (World.ownsRow.lt hu g h2).2; omega
  refine ⟨⟨hh, own_hi (World.ownsRow.kept h.bo hg h.s1.row) hi, by rw [usL_app]; exact own_hi ho hi, own_hi (World.ownsRow.kept h.oo hg h.s3.symm.row) hi, (sep _ _ h.bo h.s1.symm).symm, h.s2, sep _ _ h.oo h.s3⟩, ?_⟩
  exact bset ((Below.refl _ _).grown hg (by have := h.lt; omega) (fun i hi => by have := (World.ownsRow.lt h.uo i hi).1; omega)) (Nat.le_refl _) _ _
theorem RepP.popU {g cap : Nat} {y : Int} (h : RepP w X lv s k bv (.slice (some ⟨g, 0, none⟩) (fr.length + 1) cap) ov bar (fr ++ [y]) st) :
    RepP (w.setCell ⟨X, 4, none⟩ (.slice (some ⟨g, 0, none⟩) fr.length cap)) X lv s k bv (.slice (some ⟨g, 0, none⟩) fr.length cap) ov bar fr st ∧ Below X w (w.setCell ⟨X, 4, none⟩ (.slice (some ⟨g, 0, none⟩) fr.length cap)) := by
  have hh := heap_setCell_same w X 4 _ _ (.slice (some ⟨g, 0, none⟩) fr.length cap) h.blk
  have hi : ∀ q, X + 1 ≤ q → q < w.heap.size → (w.setCell ⟨X, 4, none⟩ (.slice (some ⟨g, 0, none⟩) fr.length cap)).heap[q]? = w.heap[q]? := fun q hq _ => set_far (by omega)
  have ho : OwnI w (X + 1) (.slice (some ⟨g, 0, none⟩) fr.length cap) (usL s fr) := by
    have ho := h.uo
    rw [usL_app] at ho
    have ho' : w.ownsRow (X + 1) 3 1 _ (usL s fr ++ [s - y]).length ((usL s fr ++ [s - y]).map (Value.int .i64)) := ho
    rw [List.length_append, List.length_singleton, List.map_append, List.map_singleton, usL_length] at ho'
    have := ownsRow_pop (by simp [usL_length]) ho'
    show w.ownsRow (X + 1) 3 1 _ (usL s fr).length ((usL s fr).map (Value.int .i64))
    rw [usL_length]; exact this
  exact ⟨⟨hh, own_hi h.bo hi, own_hi ho hi, own_hi h.oo hi, h.s1, h.s2, h.s3⟩, bset (Below.refl _ _) (Nat.le_refl _) _ _⟩
/-- a new best list -/
theorem RepP.setO {ov' : Value} (h : RepP w X lv s k bv uv ov bar fr st) (hb : Below w.heap.size w w') (ho : OwnI w' w.heap.size ov' (natL bar)) :
    RepP ((w'.setCell ⟨X, 5, none⟩ ov').setCell ⟨X, 6, none⟩ (.int .i64 (fr.length : Int))) X lv s k bv uv ov' bar fr (bar, fr.length) ∧ Below X w ((w'.setCell ⟨X, 5, none⟩ ov').setCell ⟨X, 6, none⟩ (.int .i64 (fr.length : Int))) := by
  have h1 := h.below hb
  have hh := heap_setCell_same _ X 6 _ _ (.int .i64 (fr.length : Int)) (heap_setCell_same w' X 5 _ _ ov' h1.blk)
  have hi : ∀ g, X + 1 ≤ g → g < w'.heap.size → ((w'.setCell ⟨X, 5, none⟩ ov').setCell ⟨X, 6, none⟩ (.int .i64 (fr.length : Int))).heap[g]? = w'.heap[g]? := fun g hg _ => by rw [set_far (by omega), set_far (by omega)]
  have sep : ∀ u r, OwnI w (X + 1) u r → Sep u ov' := fun u r hu g h2 h3 => by
    have := (World.ownsRow.lt hu g h2).2
    have := (World.ownsRow.lt ho g h3).1
    omega
  refine ⟨⟨hh, own_hi h1.bo hi, own_hi h1.uo hi, own_hi (ho.mono h.lt) hi, h.s1, sep _ _ h.bo, sep _ _ h.uo⟩, ?_⟩
  exact bset (bset (hb.mono (by have := h.lt; omega)) (Nat.le_refl _) _ _) (Nat.le_refl _) _ _
end
/-- what the search leaves -/
def PostP (w : World) (X : Nat) (lv : Value) (s k : Int) (xs fr : List Int) (bar : List Nat) (st : BestS) (e : Ending) (w' : World) : Prop :=
  e = .returned (.tuple #[]) ∧ Below X w w' ∧ ∃ bv uv ov, RepP w' X lv s k bv uv ov bar fr (plB (s + k) xs fr bar st)
end Go.Proofs.Ytlgepggmgfnneaa
