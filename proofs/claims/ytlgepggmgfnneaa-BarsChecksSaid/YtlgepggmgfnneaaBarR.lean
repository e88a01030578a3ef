/- The statement of bars.divide that lengthens two lists: what stands in memory, whatever its order. -/
import Derived.Test.YtlgepggmgfnneaaBarN
import Derived.Test.YtlgepggmgfnneaaOps
namespace Go.Proofs.Ytlgepggmgfnneaa
open Go.RowKit

structure H17s (w0 : World) (X : Nat) (lv : Value) (s k n : Int) (t fv : Value) (rs : List (List Int)) (fr : List Int) (i y : Int) (b2 b3 b4 b11 b12 b13 b14 : Bool) (e92 e93 e94 e101 e102 : Value) (w : World)
    (tC : Value) (rC : List (List Int)) (vC : List Value) (fC : Value) (frC : List Int) : Prop where
  two : Two w (X + 7) tC rC vC fC frC
  ht : b4 = false → tC = t ∧ rC = rs
  ht' : b4 = true → e94 = tC ∧ rC = rs ++ [[i]]
  hf : b12 = false → fC = fv ∧ frC = fr
  hf' : b12 = true → e102 = fC ∧ frC = fr ++ [y]
  row : b2 = true → b4 = false → ∃ g, e92 = .slice (some ⟨g, 0, none⟩) 1 1 ∧ OwnI w (X + 7) e92 [i] ∧ Sep e92 fC ∧ ∀ j, j < rC.length → Sep (vC.getD j undef) e92
  lit : b3 = true → b4 = false → ∃ m, e93 = .slice (some ⟨m, 0, none⟩) 1 1 ∧ Lit1 w m e92 ∧ fC.ownBlock ≠ some m
  num : b11 = true → b12 = false → ∃ m, e101 = .slice (some ⟨m, 0, none⟩) 1 1 ∧ SI w e101 [y] ∧ tC.ownBlock ≠ some m ∧ X + 7 ≤ m
  box : Boxes w X lv s k n (if b13 = true then e94 else t) (if b14 = true then e102 else fv)
  bel : Below (X + 4) w0 w
def H17 (w0 : World) (X : Nat) (lv : Value) (s k n : Int) (t fv : Value) (rs : List (List Int)) (fr : List Int) (i y : Int) (b2 b3 b4 b11 b12 b13 b14 : Bool) (e92 e93 e94 e101 e102 : Value) (w : World) : Prop :=
  ∃ tC rC vC fC frC, H17s w0 X lv s k n t fv rs fr i y b2 b3 b4 b11 b12 b13 b14 e92 e93 e94 e101 e102 w tC rC vC fC frC

section
variable {w0 w w' : World} {X : Nat} {lv t fv : Value} {s k n : Int} {rs : List (List Int)} {fr : List Int} {i y : Int} {b2 b3 b4 b11 b12 b13 b14 : Bool} {e92 e93 e94 e101 e102 : Value}
  {tC : Value} {rC : List (List Int)} {vC : List Value} {fC : Value} {frC : List Int}
theorem grownBy_setCell' (w : World) (b o : Nat) (v : Value) : w.grownBy (w.setCell ⟨b, o, none⟩ v) (some b) :=
  ⟨rfl, rfl, rfl, by simp [World.setCell], fun k hk hn => Below.heap_setCell _ _ _ _ (fun e => hn (by simp [e]))⟩
theorem SI_one_lt {m : Nat} {y : Int} {w : World} (h : SI w (.slice (some ⟨m, 0, none⟩) 1 1) [y]) : m < w.heap.size := by
  obtain ⟨a, cap, he, h1, h2, h3⟩ := h
  simp at he
  obtain ⟨rfl, rfl⟩ := he
  obtain ⟨b, off, ha, hc⟩ := h3 0 (by simp)
  simp at ha
  obtain ⟨rfl, rfl⟩ := ha
  exact World.block_lt_of_cell? w _ hc
theorem OwnI_new (w : World) {B : Nat} (hB : B ≤ w.heap.size) (i : Int) : OwnI (w.alloc (.cells #[.int .i64 i] 3)) B (.slice (some ⟨w.heap.size, 0, none⟩) 1 1) [i] :=
  World.ownsRow_lit w #[.int .i64 i] 1 hB (by unfold maxLen; omega) rfl

theorem H17s.new2 (h : H17s w0 X lv s k n t fv rs fr i y false false b4 b11 b12 b13 b14 e92 e93 e94 e101 e102 w tC rC vC fC frC) (h4 : b4 = false) :
    H17s w0 X lv s k n t fv rs fr i y true false b4 b11 b12 b13 b14 (.slice (some ⟨w.heap.size, 0, none⟩) 1 1) e93 e94 e101 e102 (w.alloc (.cells #[.int .i64 i] 3)) tC rC vC fC frC := by
  have hb : Below w.heap.size w (w.alloc (.cells #[.int .i64 i] 3)) := (Below.refl _ _).alloc (Nat.le_refl _) _
  refine ⟨h.two.alloc _, h.ht, h.ht', h.hf, h.hf', fun _ _ => ⟨_, rfl, OwnI_new w h.box.lt i, fun g h1 h2 => ?_, fun j hj g h1 h2 => ?_⟩, fun h3 => (by cases h3), fun h11 h12 => ?_, h.box.below (hb.mono h.box.lt), h.bel.trans (hb.mono (by have := h.box.lt; omega))⟩
  · simp [Value.ownBlock] at h1; subst h1; exact h.two.flt (Nat.le_refl _) h2
  · simp [Value.ownBlock] at h2; subst h2; exact absurd (World.ownsRow.lt (h.two.tab.row j hj) _ h1).2 (by omega)
  · obtain ⟨m, e, h1, h2⟩ := h.num h11 h12
    exact ⟨m, e, h1.keep hb, h2⟩
theorem H17s.new3 (h : H17s w0 X lv s k n t fv rs fr i y true false b4 b11 b12 b13 b14 e92 e93 e94 e101 e102 w tC rC vC fC frC) (h4 : b4 = false) :
    H17s w0 X lv s k n t fv rs fr i y true true b4 b11 b12 b13 b14 e92 (.slice (some ⟨w.heap.size, 0, none⟩) 1 1) e94 e101 e102 (w.alloc (.cells #[e92] 36)) tC rC vC fC frC := by
  have hb : Below w.heap.size w (w.alloc (.cells #[e92] 36)) := (Below.refl _ _).alloc (Nat.le_refl _) _
  refine ⟨h.two.alloc _, h.ht, h.ht', h.hf, h.hf', fun h2 h3 => ?_, fun _ _ => ⟨_, rfl, Lit1_new rfl, h.two.flt (Nat.le_refl _)⟩, fun h11 h12 => ?_, h.box.below (hb.mono h.box.lt), h.bel.trans (hb.mono (by have := h.box.lt; omega))⟩
  · obtain ⟨g, e, h5, h6, h7⟩ := h.row h2 h3
    exact ⟨g, e, h5.alloc _, h6, h7⟩
  · obtain ⟨m, e, h1, h2⟩ := h.num h11 h12
    exact ⟨m, e, h1.keep hb, h2⟩
theorem H17s.new11 (h : H17s w0 X lv s k n t fv rs fr i y b2 b3 b4 false b12 b13 b14 e92 e93 e94 e101 e102 w tC rC vC fC frC) :
    H17s w0 X lv s k n t fv rs fr i y b2 b3 b4 true b12 b13 b14 e92 e93 e94 (.slice (some ⟨w.heap.size, 0, none⟩) 1 1) e102 (w.alloc (.cells #[.int .i64 y] 3)) tC rC vC fC frC := by
  have hb : Below w.heap.size w (w.alloc (.cells #[.int .i64 y] 3)) := (Below.refl _ _).alloc (Nat.le_refl _) _
  refine ⟨h.two.alloc _, h.ht, h.ht', h.hf, h.hf', fun h2 h3 => ?_, fun h2 h3 => ?_, fun _ _ => ⟨_, rfl, SI_new rfl _ _, h.two.tlt (Nat.le_refl _), h.box.lt⟩, h.box.below (hb.mono h.box.lt), h.bel.trans (hb.mono (by have := h.box.lt; omega))⟩
  · obtain ⟨g, e, h5, h6, h7⟩ := h.row h2 h3
    exact ⟨g, e, h5.alloc _, h6, h7⟩
  · obtain ⟨m, e, h5, h6⟩ := h.lit h2 h3
    exact ⟨m, e, h5.alloc _, h6⟩
theorem H17s.pushT {t' : Value} (h : H17s w0 X lv s k n t fv rs fr i y true true false b11 b12 b13 b14 e92 e93 e94 e101 e102 w tC rC vC fC frC) (hg : w.grownBy w' tC.ownBlock) (ho : w'.ownsRow (X + 7) 36 1 t' (rC.length + 1) (vC ++ [e92]))
    (hat : t'.ownBlock = tC.ownBlock ∨ t'.ownBlock = some w.heap.size) (h13 : b13 = false) : H17s w0 X lv s k n t fv rs fr i y true true true b11 b12 b13 b14 e92 e93 t' e101 e102 w' t' (rC ++ [[i]]) (vC ++ [e92]) fC frC := by
  subst h13
  obtain ⟨g, e, h5, h6, h7⟩ := h.row rfl rfl
  have hb : Below (X + 7) w w' := (Below.refl _ _).grown hg h.box.lt (fun j hj => (h.two.tab.own.lt j hj).1)
  refine ⟨h.two.pushT h5 h6 h7 hg ho, fun h => (by cases h), fun _ => ⟨rfl, by rw [(h.ht rfl).2]⟩, h.hf, h.hf', fun _ h => (by cases h), fun _ h => (by cases h), fun h11 h12 => ?_, h.box.below hb, h.bel.trans (hb.mono (by omega))⟩
  obtain ⟨m, e2, h1, h2, h2'⟩ := h.num h11 h12
  subst e2
  refine ⟨m, rfl, SI_grown h1 hg h2, ?_, h2'⟩
  rcases hat with e3 | e3
  · rw [e3]; exact h2
  · rw [e3]; have := SI_one_lt h1; simp; omega
theorem H17s.pushF {fv' : Value} (h : H17s w0 X lv s k n t fv rs fr i y b2 b3 b4 true false b13 b14 e92 e93 e94 e101 e102 w tC rC vC fC frC) (hg : w.grownBy w' fC.ownBlock) (ho : OwnI w' (X + 7) fv' (frC ++ [y]))
    (hat : fv'.ownBlock = fC.ownBlock ∨ fv'.ownBlock = some w.heap.size) (h14 : b14 = false) : H17s w0 X lv s k n t fv rs fr i y b2 b3 b4 true true b13 b14 e92 e93 e94 e101 fv' w' tC rC vC fv' (frC ++ [y]) := by
  subst h14
  have hb : Below (X + 7) w w' := (Below.refl _ _).grown hg h.box.lt (fun j hj => (World.ownsRow.lt h.two.own j hj).1)
  refine ⟨h.two.pushF ho hg hat, h.ht, h.ht', fun h => (by cases h), fun _ => ⟨rfl, by rw [(h.hf rfl).2]⟩, fun h2 h3 => ?_, fun h2 h3 => ?_, fun _ h => (by cases h), h.box.below hb, h.bel.trans (hb.mono (by omega))⟩
  · obtain ⟨g, e, h5, h6, h7⟩ := h.row h2 h3
    refine ⟨g, e, World.ownsRow.kept h5 hg h6.row, fun q h8 h9 => ?_, h7⟩
    rcases hat with e3 | e3
    · rw [e3] at h9; exact h6 q h8 h9
    · rw [e3] at h9; simp at h9; have := (World.ownsRow.lt h5 q h8).2; omega
  · obtain ⟨m, e, h5, h6⟩ := h.lit h2 h3
    refine ⟨m, e, h5.grown hg h6, ?_⟩
    rcases hat with e3 | e3
    · rw [e3]; exact h6
    · rw [e3]; have := World.block_lt_of_cell? w _ h5; simp at this ⊢; omega
theorem H17s.set13 (h : H17s w0 X lv s k n t fv rs fr i y b2 b3 true b11 b12 false b14 e92 e93 e94 e101 e102 w tC rC vC fC frC) :
    H17s w0 X lv s k n t fv rs fr i y b2 b3 true b11 b12 true b14 e92 e93 e94 e101 e102 (w.setCell ⟨X + 4, 0, none⟩ e94) tC rC vC fC frC := by
  refine ⟨h.two.hi fun g hg _ => set_othr (by omega), h.ht, h.ht', h.hf, h.hf', fun _ h => (by cases h), fun _ h => (by cases h), fun h11 h12 => ?_, ?_, h.bel.trans (below_set (Nat.le_refl _) _ _)⟩
  · obtain ⟨m, e2, h1, h2, h2'⟩ := h.num h11 h12
    subst e2
    exact ⟨m, rfl, SI_grown h1 (grownBy_setCell' _ _ _ _) (fun e => by simp at e; omega), h2, h2'⟩
  · have := h.box.setT e94
    simpa using this
theorem H17s.set14 (h : H17s w0 X lv s k n t fv rs fr i y b2 b3 true b11 true b13 false e92 e93 e94 e101 e102 w tC rC vC fC frC) :
    H17s w0 X lv s k n t fv rs fr i y b2 b3 true b11 true b13 true e92 e93 e94 e101 e102 (w.setCell ⟨X + 5, 0, none⟩ e102) tC rC vC fC frC := by
  refine ⟨h.two.hi fun g hg _ => set_othr (by omega), h.ht, h.ht', h.hf, h.hf', fun _ h => (by cases h), fun _ h => (by cases h), fun _ h => (by cases h), ?_, h.bel.trans (below_set (by omega) _ _)⟩
  have := h.box.setV e102
  simpa using this
end

/-! the whole statement -/
def S17 : List Nat := [90, 91, 92, 93, 94, 95, 96, 97, 98, 99, 100, 101, 102]
theorem eval_ne {a : Act} {m n : Nat} (v : Value) (h : n ≠ m) : (a.put (some m) v).eval (.tmp n) = a.eval (.tmp n) := eval_put_other h v
structure I17 (a0 : Act) (w0 : World) (X : Nat) (lv : Value) (s k n : Int) (t fv : Value) (rs : List (List Int)) (fr : List Int) (i x : Int) (L : Nat → Bool) (a : Act) (w : World) : Prop where
  sm : Sm S17 a0 a
  v0 : L 0 = true → a.eval (.tmp 90) = t
  v1 : L 1 = true → a.eval (.tmp 91) = .int .i64 i
  v5 : L 5 = true → a.eval (.tmp 95) = fv
  v6 : L 6 = true → a.eval (.tmp 96) = .int .i64 s
  v7 : L 7 = true → a.eval (.tmp 97) = .int .i64 k
  v8 : L 8 = true → a.eval (.tmp 98) = .int .i64 (s + k)
  v9 : L 9 = true → a.eval (.tmp 99) = .int .i64 x
  v10 : L 10 = true → a.eval (.tmp 100) = .int .i64 (s + k - x)
  h : H17 w0 X lv s k n t fv rs fr i (s + k - x) (L 2) (L 3) (L 4) (L 11) (L 12) (L 13) (L 14) (a.eval (.tmp 92)) (a.eval (.tmp 93)) (a.eval (.tmp 94)) (a.eval (.tmp 101)) (a.eval (.tmp 102)) w

theorem updL_or {L : Nat → Bool} {i j : Nat} (h : updL L i j = true) : j = i ∨ L j = true := by
  unfold updL at h
  by_cases e : j = i
  · exact .inl e
  · rw [if_neg e] at h; exact .inr h
section
variable {a0 a : Act} {w0 w : World} {X : Nat} {lv t fv : Value} {s k n : Int} {rs : List (List Int)} {fr : List Int} {i x : Int} {L : Nat → Bool} {K : Act → World → Prop} {Q : Exit → Act → World → Prop} {o : Oper}
theorem I17.size (I : I17 a0 w0 X lv s k n t fv rs fr i x L a w) (hz : a0.tmps.size = 117) : a.tmps.size = 117 := I.sm.1.trans hz
/-- an operation that only fills a slot -/
theorem I17.pure (I : I17 a0 w0 X lv s k n t fv rs fr i x L a w) (hz : a0.tmps.size = 117) (j : Nat) (v : Value) (hj : j = 0 ∧ v = t ∨ j = 1 ∧ v = .int .i64 i ∨ j = 5 ∧ v = fv ∨ j = 6 ∧ v = .int .i64 s ∨ j = 7 ∧ v = .int .i64 k ∨ j = 8 ∧ v = .int .i64 (s + k) ∨ j = 9 ∧ v = .int .i64 x ∨ j = 10 ∧ v = .int .i64 (s + k - x)) :
    I17 a0 w0 X lv s k n t fv rs fr i x (updL L j) (a.put (some (90 + j)) v) w := by
  have hz' := I.size hz
  have key : ∀ (m : Nat) (u : Value), m < 13 → (m = j → v = u) → (L m = true → a.eval (.tmp (90 + m)) = u) → updL L j m = true → (a.put (some (90 + j)) v).eval (.tmp (90 + m)) = u := by
    intro m u hm h1 h2 h3
    by_cases e : m = j
    · subst e; rw [eval_put_same (by omega)]; exact h1 rfl
    · rw [eval_ne _ (by omega)]
      rcases updL_or h3 with h | h
      · exact absurd h e
      · exact h2 h
  refine ⟨I.sm.put (by unfold S17; simp; omega) v, key 0 _ (by omega) (fun e => ?_) I.v0, key 1 _ (by omega) (fun e => ?_) I.v1, key 5 _ (by omega) (fun e => ?_) I.v5, key 6 _ (by omega) (fun e => ?_) I.v6, key 7 _ (by omega) (fun e => ?_) I.v7,
    key 8 _ (by omega) (fun e => ?_) I.v8, key 9 _ (by omega) (fun e => ?_) I.v9, key 10 _ (by omega) (fun e => ?_) I.v10, ?_⟩
  case refine_9 =>
    rw [updL_other (by omega), updL_other (by omega), updL_other (by omega), updL_other (by omega), updL_other (by omega), updL_other (by omega), updL_other (by omega), eval_ne _ (by omega), eval_ne _ (by omega), eval_ne _ (by omega), eval_ne _ (by omega), eval_ne _ (by omega)]
    exact I.h
  all_goals
    rcases hj with ⟨h, h'⟩ | ⟨h, h'⟩ | ⟨h, h'⟩ | ⟨h, h'⟩ | ⟨h, h'⟩ | ⟨h, h'⟩ | ⟨h, h'⟩ | ⟨h, h'⟩ <;> first | exact h' | omega
/-- an operation with an effect: 2, 3, 4, 11, 12 -/
theorem I17.effect (I : I17 a0 w0 X lv s k n t fv rs fr i x L a w) (j : Nat) (v : Value) {w' : World} (hj : j = 2 ∨ j = 3 ∨ j = 4 ∨ j = 11 ∨ j = 12)
    (h : H17 w0 X lv s k n t fv rs fr i (s + k - x) (updL L j 2) (updL L j 3) (updL L j 4) (updL L j 11) (updL L j 12) (updL L j 13) (updL L j 14) ((a.put (some (90 + j)) v).eval (.tmp 92)) ((a.put (some (90 + j)) v).eval (.tmp 93)) ((a.put (some (90 + j)) v).eval (.tmp 94)) ((a.put (some (90 + j)) v).eval (.tmp 101)) ((a.put (some (90 + j)) v).eval (.tmp 102)) w') :
    I17 a0 w0 X lv s k n t fv rs fr i x (updL L j) (a.put (some (90 + j)) v) w' := by
  have key : ∀ (m : Nat) (u : Value), m ≠ j → (L m = true → a.eval (.tmp (90 + m)) = u) → updL L j m = true → (a.put (some (90 + j)) v).eval (.tmp (90 + m)) = u := by
    intro m u hm h2 h3
    rw [updL_other hm] at h3
    rw [eval_ne _ (by omega)]; exact h2 h3
  exact ⟨I.sm.put (by unfold S17; simp; omega) v, key 0 _ (by omega) I.v0, key 1 _ (by omega) I.v1, key 5 _ (by omega) I.v5, key 6 _ (by omega) I.v6, key 7 _ (by omega) I.v7, key 8 _ (by omega) I.v8, key 9 _ (by omega) I.v9, key 10 _ (by omega) I.v10, h⟩
/-- a store: 13, 14 -/
theorem I17.stored (I : I17 a0 w0 X lv s k n t fv rs fr i x L a w) (j : Nat) {w' : World} (hj : j = 13 ∨ j = 14)
    (h : H17 w0 X lv s k n t fv rs fr i (s + k - x) (L 2) (L 3) (L 4) (L 11) (L 12) (updL L j 13) (updL L j 14) (a.eval (.tmp 92)) (a.eval (.tmp 93)) (a.eval (.tmp 94)) (a.eval (.tmp 101)) (a.eval (.tmp 102)) w') :
    I17 a0 w0 X lv s k n t fv rs fr i x (updL L j) a w' := by
  have key : ∀ (m : Nat) (p : Prop), m ≠ j → (L m = true → p) → updL L j m = true → p := by
    intro m p hm h2 h3
    rw [updL_other hm] at h3; exact h2 h3
  refine ⟨I.sm, key 0 _ (by omega) I.v0, key 1 _ (by omega) I.v1, key 5 _ (by omega) I.v5, key 6 _ (by omega) I.v6, key 7 _ (by omega) I.v7, key 8 _ (by omega) I.v8, key 9 _ (by omega) I.v9, key 10 _ (by omega) I.v10, ?_⟩
  rw [updL_other (show 2 ≠ j by omega), updL_other (show 3 ≠ j by omega), updL_other (show 4 ≠ j by omega), updL_other (show 11 ≠ j by omega), updL_other (show 12 ≠ j by omega)]
  exact h

theorem I17.box4 (I : I17 a0 w0 X lv s k n t fv rs fr i x L a w) (h : L 13 = false) : w.cell? ⟨X + 4, 0, none⟩ = some t := by
  obtain ⟨_, _, _, _, _, H⟩ := I.h
  have := H.box.c4
  rw [h] at this; simpa using this
theorem I17.box5 (I : I17 a0 w0 X lv s k n t fv rs fr i x L a w) (h : L 14 = false) : w.cell? ⟨X + 5, 0, none⟩ = some fv := by
  obtain ⟨_, _, _, _, _, H⟩ := I.h
  have := H.box.c5
  rw [h] at this; simpa using this
theorem I17.box1 (I : I17 a0 w0 X lv s k n t fv rs fr i x L a w) : w.cell? ⟨X + 1, 0, none⟩ = some (.int .i64 s) := by
  obtain ⟨_, _, _, _, _, H⟩ := I.h
  exact H.box.c1
theorem I17.box2 (I : I17 a0 w0 X lv s k n t fv rs fr i x L a w) : w.cell? ⟨X + 2, 0, none⟩ = some (.int .i64 k) := by
  obtain ⟨_, _, _, _, _, H⟩ := I.h
  exact H.box.c2

theorem I17.op2 (I : I17 a0 w0 X lv s k n t fv rs fr i x L a w) (hz : a0.tmps.size = 117) (ho : o.op = .buildSlice 36 1 #[(0, .tmp 91)]) (hd : o.dst = some 92) (h1 : L 1 = true) (h2 : L 2 = false) (h3 : L 3 = false) (h4 : L 4 = false)
    (hK : ∀ (a' : Act) (w' : World), I17 a0 w0 X lv s k n t fv rs fr i x (updL L 2) a' w' → K a' w') : o.wp Try.prog a w K Q := by
  have hz' := I.size hz
  refine wp_slice1 _ ho i (I.v1 h1) (hK _ _ ?_)
  rw [hd]
  refine I.effect 2 _ (by omega) ?_
  obtain ⟨tC, rC, vC, fC, frC, H⟩ := I.h
  rw [updL_same, updL_other (by omega), updL_other (by omega), updL_other (by omega), updL_other (by omega), updL_other (by omega), updL_other (by omega), eval_put_same (by omega), eval_ne _ (by omega), eval_ne _ (by omega), eval_ne _ (by omega), eval_ne _ (by omega)]
  rw [h2, h3] at H
  rw [h3]
  exact ⟨tC, rC, vC, fC, frC, H.new2 h4⟩
theorem I17.op3 (I : I17 a0 w0 X lv s k n t fv rs fr i x L a w) (hz : a0.tmps.size = 117) (ho : o.op = .buildSlice 40 1 #[(0, .tmp 92)]) (hd : o.dst = some 93) (h2 : L 2 = true) (h3 : L 3 = false) (h4 : L 4 = false)
    (hK : ∀ (a' : Act) (w' : World), I17 a0 w0 X lv s k n t fv rs fr i x (updL L 3) a' w' → K a' w') : o.wp Try.prog a w K Q := by
  have hz' := I.size hz
  obtain ⟨tC, rC, vC, fC, frC, H⟩ := I.h
  obtain ⟨g, e, _⟩ := H.row h2 h4
  refine wp_slice2 _ ho _ _ _ e (hK _ _ ?_)
  rw [hd, ← e]
  refine I.effect 3 _ (by omega) ?_
  rw [updL_same, updL_other (by omega), updL_other (by omega), updL_other (by omega), updL_other (by omega), updL_other (by omega), updL_other (by omega), eval_put_same (by omega), eval_ne _ (by omega), eval_ne _ (by omega), eval_ne _ (by omega), eval_ne _ (by omega)]
  rw [h2, h3] at H
  rw [h2]
  exact ⟨tC, rC, vC, fC, frC, H.new3 h4⟩
theorem I17.op11 (I : I17 a0 w0 X lv s k n t fv rs fr i x L a w) (hz : a0.tmps.size = 117) (ho : o.op = .buildSlice 36 1 #[(0, .tmp 100)]) (hd : o.dst = some 101) (h10 : L 10 = true) (h11 : L 11 = false)
    (hK : ∀ (a' : Act) (w' : World), I17 a0 w0 X lv s k n t fv rs fr i x (updL L 11) a' w' → K a' w') : o.wp Try.prog a w K Q := by
  have hz' := I.size hz
  refine wp_slice1 _ ho _ (I.v10 h10) (hK _ _ ?_)
  rw [hd]
  refine I.effect 11 _ (by omega) ?_
  obtain ⟨tC, rC, vC, fC, frC, H⟩ := I.h
  rw [updL_same, updL_other (by omega), updL_other (by omega), updL_other (by omega), updL_other (by omega), updL_other (by omega), updL_other (by omega), eval_put_same (by omega), eval_ne _ (by omega), eval_ne _ (by omega), eval_ne _ (by omega), eval_ne _ (by omega)]
  rw [h11] at H
  exact ⟨tC, rC, vC, fC, frC, H.new11⟩
theorem I17.op4 (I : I17 a0 w0 X lv s k n t fv rs fr i x L a w) (hz : a0.tmps.size = 117) (hlen : rs.length ≤ 1000000) (ho : o.op = .call { callee := .builtin .append, args := #[.tmp 90, .tmp 93], argTypes := #[40, 40] }) (hd : o.dst = some 94)
    (h0 : L 0 = true) (h2 : L 2 = true) (h3 : L 3 = true) (h4 : L 4 = false) (h13 : L 13 = false)
    (hK : ∀ (a' : Act) (w' : World), I17 a0 w0 X lv s k n t fv rs fr i x (updL L 4) a' w' → K a' w') : o.wp Try.prog a w K Q := by
  have hz' := I.size hz
  obtain ⟨tC, rC, vC, fC, frC, H⟩ := I.h
  obtain ⟨e1, e2⟩ := H.ht h4
  obtain ⟨m, e93, hl, hm⟩ := H.lit h3 h4
  obtain ⟨g, e92, _⟩ := H.row h2 h4
  have hs := I.v0 h0
  rw [← e1] at hs
  obtain ⟨ti, hi, hz0, hz1, hz2⟩ := info_parts Try_infoInts
  have hnews : ∀ j u, [a.eval (.tmp 92)][j]? = some u → w.cell? ((⟨m, 0, none⟩ : Addr).add j) = some u := by
    intro j u hj
    match j, hj with
    | 0, hj =>
      simp only [List.getElem?_cons_zero, Option.some.injEq] at hj; subst hj
      have hs' : w.cell? ⟨m, 0, none⟩ = some (a.eval (.tmp 92)) := hl
      simpa [Addr.add] using hs'
  obtain ⟨t', w', hrun, hown', hg, _, hat⟩ := run_append_own_at (P := Try.prog) w (X + 7) 40 o.type 36 ti (.slice none 0 0) 1 24 Try.underlying40 hi hz0 hz1 hz2 rfl (by decide) tC rC.length vC H.two.tab.own ⟨m, 0, none⟩ 1 1 [a.eval (.tmp 92)] rfl hnews (one_ok _ (by rw [e92]; rfl)) (by rw [e2]; unfold maxLen; omega) (by rw [e2]; omega) H.box.lt
  have hh : K (a.put o.dst t') w' := by
    refine hK _ _ ?_
    rw [hd]
    refine I.effect 4 _ (by omega) ?_
    rw [updL_same, updL_other (by omega), updL_other (by omega), updL_other (by omega), updL_other (by omega), updL_other (by omega), updL_other (by omega), eval_put_same (by omega), eval_ne _ (by omega), eval_ne _ (by omega), eval_ne _ (by omega), eval_ne _ (by omega)]
    rw [h2, h3, h4] at H
    rw [h2, h3]
    exact ⟨t', _, _, fC, frC, H.pushT hg (by simpa using hown') hat h13⟩
  unfold Oper.wp execOp
  simp only [ho, resolve, invoke, builtin, Sem.run_bind, Sem.run_pure, Result.andThen_ok, List.map_toArray, List.map_cons, List.map_nil, hs, e93, hrun]
  exact hh
theorem I17.op12 (I : I17 a0 w0 X lv s k n t fv rs fr i x L a w) (hz : a0.tmps.size = 117) (hlen : fr.length ≤ 1000000) (ho : o.op = .call { callee := .builtin .append, args := #[.tmp 95, .tmp 101], argTypes := #[36, 36] }) (hd : o.dst = some 102)
    (h5 : L 5 = true) (h11 : L 11 = true) (h12 : L 12 = false) (h14 : L 14 = false)
    (hK : ∀ (a' : Act) (w' : World), I17 a0 w0 X lv s k n t fv rs fr i x (updL L 12) a' w' → K a' w') : o.wp Try.prog a w K Q := by
  have hz' := I.size hz
  obtain ⟨tC, rC, vC, fC, frC, H⟩ := I.h
  obtain ⟨e1, e2⟩ := H.hf h12
  obtain ⟨m, e101, hl, hm⟩ := H.num h11 h12
  have hs := I.v5 h5
  rw [← e1] at hs
  refine wp_app_int _ _ ho (X + 7) fC _ frC [s + k - x] hs rfl H.two.own hl (by rw [e2]; simp; omega) H.box.lt fun fv' w' a1 a2 a3 => ?_
  refine hK _ _ ?_
  rw [hd]
  refine I.effect 12 _ (by omega) ?_
  rw [updL_same, updL_other (by omega), updL_other (by omega), updL_other (by omega), updL_other (by omega), updL_other (by omega), updL_other (by omega), eval_put_same (by omega), eval_ne _ (by omega), eval_ne _ (by omega), eval_ne _ (by omega), eval_ne _ (by omega)]
  rw [h11, h12] at H
  rw [h11]
  exact ⟨tC, rC, vC, fv', _, H.pushF a2 a1 a3 h14⟩
theorem I17.op13 (I : I17 a0 w0 X lv s k n t fv rs fr i x L a w) (ho : o.op = .store 40 (.tmp 3) (.tmp 94)) (hd : o.dst = none) (h3 : a.eval (.tmp 3) = .pointer (some ⟨X + 4, 0, none⟩))
    (h4 : L 4 = true) (h13 : L 13 = false) (hK : ∀ (a' : Act) (w' : World), I17 a0 w0 X lv s k n t fv rs fr i x (updL L 13) a' w' → K a' w') : o.wp Try.prog a w K Q := by
  obtain ⟨tC, rC, vC, fC, frC, H⟩ := I.h
  obtain ⟨e94, e2⟩ := H.ht' h4
  obtain ⟨b, c, e, _⟩ := H.two.slice_t
  refine wp_store1 40 size_rows _ _ ho hd _ _ _ _ _ h3 (by rw [e94]; exact e) H.box.c4 H.box.f4 (hK _ _ (I.stored 13 (by omega) ?_))
  rw [updL_same, updL_other (by omega)]
  rw [h4, h13] at H
  rw [h4, ← e, ← e94]
  exact ⟨tC, rC, vC, fC, frC, H.set13⟩
theorem I17.op14 (I : I17 a0 w0 X lv s k n t fv rs fr i x L a w) (ho : o.op = .store 36 (.tmp 4) (.tmp 102)) (hd : o.dst = none) (h3 : a.eval (.tmp 4) = .pointer (some ⟨X + 5, 0, none⟩))
    (h4 : L 4 = true) (h12 : L 12 = true) (h14 : L 14 = false) (hK : ∀ (a' : Act) (w' : World), I17 a0 w0 X lv s k n t fv rs fr i x (updL L 14) a' w' → K a' w') : o.wp Try.prog a w K Q := by
  obtain ⟨tC, rC, vC, fC, frC, H⟩ := I.h
  obtain ⟨e102, e2⟩ := H.hf' h12
  obtain ⟨b, c, e, _⟩ := H.two.slice_f
  refine wp_store1 36 size_ints _ _ ho hd _ _ _ _ _ h3 (by rw [e102]; exact e) H.box.c5 H.box.f5 (hK _ _ (I.stored 14 (by omega) ?_))
  rw [updL_same, updL_other (by omega)]
  rw [h4, h12, h14] at H
  rw [h4, h12, ← e, ← e102]
  exact ⟨tC, rC, vC, fC, frC, H.set14⟩
/-- what it leaves -/
theorem I17.last (I : I17 a0 w0 X lv s k n t fv rs fr i x L a w) (h4 : L 4 = true) (h12 : L 12 = true) (h13 : L 13 = true) (h14 : L 14 = true) :
    ∃ vC, RepD w X lv s k n (a.eval (.tmp 94)) (a.eval (.tmp 102)) (rs ++ [[i]]) vC (fr ++ [s + k - x]) ∧ Below (X + 4) w0 w := by
  obtain ⟨tC, rC, vC, fC, frC, H⟩ := I.h
  obtain ⟨e94, e2⟩ := H.ht' h4
  obtain ⟨e102, e3⟩ := H.hf' h12
  have hb := H.box
  rw [h13, h14] at hb
  refine ⟨vC, ⟨by simpa using hb, ?_⟩, H.bel⟩
  rw [e94, e102, ← e2, ← e3]; exact H.two
theorem I17.first {vs : List Value} (h : RepD w0 X lv s k n t fv rs vs fr) : I17 a0 w0 X lv s k n t fv rs fr i x (fun _ => false) a0 w0.drew :=
  ⟨Sm.refl _ _, fun h => (by cases h), fun h => (by cases h), fun h => (by cases h), fun h => (by cases h), fun h => (by cases h), fun h => (by cases h), fun h => (by cases h), fun h => (by cases h),
    t, rs, vs, fv, fr, ⟨h.two.dn 1, fun _ => ⟨rfl, rfl⟩, fun h => (by cases h), fun _ => ⟨rfl, rfl⟩, fun h => (by cases h), fun h => (by cases h), fun h => (by cases h), fun h => (by cases h), h.drew.box, (Below.refl _ _).drew⟩⟩
end
theorem wp_name {P : Program} {c : Code} {Q : Exit → Act → World → Prop} {a : Act} {w : World} (h : ∀ a0 : Act, a0 = a → Code.wp P c Q a0 w) : Code.wp P c Q a w := h a rfl
end Go.Proofs.Ytlgepggmgfnneaa
