/- Regions that draw their order, in which some operations make or write memory: the others are reckoned in one go. -/
import Derived.Test.YtfmhickjefogdaaGreatPk00
import Derived.Maps.AppendAt
import Derived.Lib.SliceRun
import Derived.Orders
set_option linter.unusedSimpArgs false
set_option linter.unusedVariables false

/- Rows of rows that a call has made itself. -/
namespace Go.Proofs.YtfmhickjefogdaaGreat
open Go.RowKit

theorem Tryz_infoInt : (Tryz.prog.info? 3).map (fun i => (i.zero, i.size, i.bytes)) = some (some (.int .i64 0), 1, 8) := by kernel_rfl
theorem Tryz_infoInts : (Tryz.prog.info? 93).map (fun i => (i.zero, i.size, i.bytes)) = some (some (.slice none 0 0), 1, 24) := by kernel_rfl

/-- a row of integers that the call owns -/
def OwnI (w : World) (B : Nat) (v : Value) (r : List Int) : Prop := w.ownsRow B 3 1 v r.length (r.map (Value.int .i64))
/-- rows that the call owns -/
def OwnT (w : World) (B : Nat) (t : Value) (rs : List (List Int)) : Prop :=
  ∃ vs : List Value, w.ownsRow B 93 1 t rs.length vs ∧ ∀ i, i < rs.length → OwnI w B (vs.getD i undef) (ri rs i)

theorem OwnI_nil (w : World) (B : Nat) : OwnI w B (.slice none 0 0) [] := World.ownsRow_nil _ _ _ _
theorem OwnT_nil (w : World) (B : Nat) : OwnT w B (.slice none 0 0) [] := ⟨[], World.ownsRow_nil _ _ _ _, fun i hi => by simp at hi⟩

theorem owns_below {w w' : World} {base : Nat} {e : TypeId} {size : Nat} {v : Value} {n : Nat} {xs : List Value} (h : w.ownsRow base e size v n xs) (hb : Below w.heap.size w w') : w'.ownsRow base e size v n xs := by
  refine ⟨h.1, ?_⟩
  rcases h.2 with hn | ⟨g, cap, cur, hv, hb1, hg, r⟩
  · exact .inl hn
  · exact .inr ⟨g, cap, cur, hv, hb1, by rw [hb.block g (lt_of_block hg)]; exact hg, r⟩
theorem OwnI.below {w w' : World} {B : Nat} {v : Value} {r : List Int} (h : OwnI w B v r) (hb : Below w.heap.size w w') : OwnI w' B v r := owns_below h hb
theorem OwnT.below {w w' : World} {B : Nat} {v : Value} {r : List (List Int)} (h : OwnT w B v r) (hb : Below w.heap.size w w') : OwnT w' B v r := by
  obtain ⟨vs, h1, h2⟩ := h
  exact ⟨vs, owns_below h1 hb, fun i hi => (h2 i hi).below hb⟩

theorem owns_ne {w : World} {b b' : Nat} {e e' : TypeId} {s s' : Nat} {v v' : Value} {n n' : Nat} {xs xs' : List Value} (h : w.ownsRow b e s v n xs) (h' : w.ownsRow b' e' s' v' n' xs') (hne : e ≠ e') :
    v.ownBlock = none ∨ v.ownBlock ≠ v'.ownBlock := by
  rcases h.2 with ⟨rfl, _⟩ | ⟨g, cap, cur, rfl, _, hg, _⟩
  · exact .inl rfl
  · rcases h'.2 with ⟨rfl, _⟩ | ⟨g', cap', cur', rfl, _, hg', _⟩
    · exact .inr (by simp [Value.ownBlock])
    · refine .inr ?_
      simp only [Value.ownBlock, ne_eq, Option.some.injEq]
      intro e1
      subst e1
      rw [hg] at hg'
      simp at hg'
      exact hne hg'.2

theorem owns_mono {w : World} {b b' : Nat} {e : TypeId} {s : Nat} {v : Value} {n : Nat} {xs : List Value} (h : w.ownsRow b e s v n xs) (hb : b' ≤ b) : w.ownsRow b' e s v n xs := by
  refine ⟨h.1, ?_⟩
  rcases h.2 with hn | ⟨g, cap, cur, hv, hb1, r⟩
  · exact .inl hn
  · exact .inr ⟨g, cap, cur, hv, by omega, r⟩

theorem grownBy_below {w w' : World} (h : w.grownBy w' none) : Below w.heap.size w w' := ⟨h.os, h.tape, h.output, h.size, fun k hk => h.block k hk (by simp)⟩

/-- one row more -/
theorem OwnT.push {w w1 w3 : World} {B : Nat} {t t' v : Value} {rs : List (List Int)} {r : List Int} {vs : List Value} (h1 : w.ownsRow B 93 1 t rs.length vs) (h2 : ∀ i, i < rs.length → OwnI w B (vs.getD i undef) (ri rs i))
    (hr : OwnI w B v r) (hw : Below w.heap.size w w1) (hg : w1.grownBy w3 t.ownBlock) (hown' : w3.ownsRow B 93 1 t' (rs.length + 1) (vs ++ [v])) : OwnT w3 B t' (rs ++ [r]) := by
  have hl : vs.length = rs.length := by have := h1.1; simpa using this
  refine ⟨vs ++ [v], by simpa using hown', fun i hi => ?_⟩
  have keep : ∀ u q, OwnI w B u q → OwnI w3 B u q := fun u q hu => by
    have a1 := owns_below hu hw
    have a2 := owns_below h1 hw
    exact a1.kept hg (owns_ne a1 a2 (by decide))
  by_cases hi' : i < rs.length
  · rw [ri_append_left hi', show (vs ++ [v]).getD i undef = vs.getD i undef by simp [List.getElem?_append_left (show i < vs.length by omega)]]
    exact keep _ _ (h2 i hi')
  · have : i = rs.length := by simp at hi; omega
    subst this
    rw [ri_append_one, show (vs ++ [v]).getD rs.length undef = v by rw [← hl]; simp]
    exact keep _ _ hr

theorem OwnT.ss {w : World} {B : Nat} {t : Value} {rs : List (List Int)} (h : OwnT w B t rs) : SS w t rs := by
  obtain ⟨vs, h1, h2⟩ := h
  exact SS_of_owns h1 rfl fun i hi => SI_of_owns (h2 i hi)

/-- the form of an owned row that has an element -/
theorem owns_form {w : World} {b : Nat} {e : TypeId} {v : Value} {n : Nat} {xs : List Value} (h : w.ownsRow b e 1 v n xs) (hn : 0 < n) :
    ∃ g cap, v = .slice (some ⟨g, 0, none⟩) n cap ∧ n ≤ cap ∧ cap ≤ maxLen ∧ b ≤ g ∧ g < w.heap.size ∧ (∀ j, j < n → w.cell? ⟨g, j, none⟩ = some (xs.getD j undef)) ∧ ∀ j, w.frozen? ⟨g, j, none⟩ = false := by
  have h0 := h
  rcases h.2 with ⟨rfl, hn0⟩ | ⟨g, cap, cur, rfl, hb, hg, hnc, hcm, hcs, ht⟩
  · omega
  · refine ⟨g, cap, rfl, hnc, hcm, hb, lt_of_block hg, fun j hj => ?_, fun j => h0.frozenAt j⟩
    rw [h0.cellAt j (by omega)]
    have : j < xs.length := by have := h0.1; omega
    simp [this]

theorem OwnT.look {w : World} {B : Nat} {t : Value} {rs : List (List Int)} (h : OwnT w B t rs) {i : Nat} (hi : i < rs.length) (hn : 0 < (ri rs i).length) :
    ∃ gt capt gr capr, t = .slice (some ⟨gt, 0, none⟩) rs.length capt ∧ rs.length ≤ capt ∧ capt ≤ maxLen ∧ w.cell? ⟨gt, i, none⟩ = some (.slice (some ⟨gr, 0, none⟩) (ri rs i).length capr) ∧ (ri rs i).length ≤ capr ∧
      ∀ s, s < (ri rs i).length → w.cell? ⟨gr, s, none⟩ = some (.int .i64 (gi (ri rs i) s)) := by
  obtain ⟨vs, h1, h2⟩ := h
  obtain ⟨gt, capt, et, c1, c2, _, _, hc, _⟩ := owns_form h1 (by omega)
  obtain ⟨gr, capr, er, d1, _, _, _, hd, _⟩ := owns_form (h2 i hi) hn
  refine ⟨gt, capt, gr, capr, et, c1, c2, ?_, d1, fun s hs => ?_⟩
  · rw [hc i hi, er]
  · rw [hd s hs, gi_lt hs]; simp [hs]
theorem one_new (w : World) (v : Value) (e : TypeId) : ∀ j u, [v][j]? = some u → (w.alloc (.cells #[v] e)).cell? ((⟨w.heap.size, 0, none⟩ : Addr).add j) = some u := by
  intro j u hj
  match j, hj with
  | 0, hj => simp at hj; subst hj; simp [Addr.add]
theorem one_ok (v : Value) (h : v.oneCell' = true) : ∀ u ∈ [v], u.oneCell' = true := by intro u hu; simp at hu; subst hu; exact h
theorem gmax (a b : Int) : (if a < b then b else a) = max a b := by split <;> omega

/-- the first s values of f, then zeros, n in all -/
def part (f : Nat → Int) (s n : Nat) : List Int := (List.range n).map fun i => if i < s then f i else 0
theorem part_length (f s n) : (part f s n).length = n := by simp [part]
theorem part_zero (f n) : (part f 0 n).map (Value.int .i64) = (madeCells #[Value.int .i64 0] n).toList := by
  rw [toList_madeCells_one]
  apply List.ext_getElem
  · simp [part]
  · intro i h1 h2; simp [part]
theorem part_set (f : Nat → Int) (s n : Nat) : ((part f s n).map (Value.int .i64)).set s (.int .i64 (f s)) = (part f (s + 1) n).map (Value.int .i64) := by
  apply List.ext_getElem
  · simp [part]
  · intro i h1 h2
    simp [part, List.getElem_set]
    by_cases e : s = i
    · subst e; simp
    · rw [if_neg e]
      by_cases e2 : i < s
      · rw [if_pos e2, if_pos (by omega)]
      · rw [if_neg e2, if_neg (by omega)]
theorem part_get (f : Nat → Int) {s n i : Nat} (hi : i < s) (hn : i < n) : ((part f s n).map (Value.int .i64)).getD i undef = .int .i64 (f i) := by
  simp [part, hn, hi]
theorem part_cell {w : World} {B : Nat} {e : TypeId} {f : Nat → Int} {s n g cap : Nat} (h : w.ownsRow B e 1 (.slice (some ⟨g, 0, none⟩) n cap) n ((part f s n).map (Value.int .i64))) {i : Nat} (hi : i < n) :
    w.cell? ⟨g, i, none⟩ = some (.int .i64 (if i < s then f i else 0)) := by
  rw [h.cellAt i (by omega)]
  simp [part, hi]
theorem part_store {w : World} {B : Nat} {e : TypeId} {f : Nat → Int} {s n g cap : Nat} (h : w.ownsRow B e 1 (.slice (some ⟨g, 0, none⟩) n cap) n ((part f s n).map (Value.int .i64))) {x : Int} (hx : x = f s) :
    (w.setCell ⟨g, s, none⟩ (.int .i64 x)).ownsRow B e 1 (.slice (some ⟨g, 0, none⟩) n cap) n ((part f (s + 1) n).map (Value.int .i64)) := by
  subst hx
  rw [← part_set]
  exact (h.stored s _).1
/-- a row being filled whose element s holds x for now -/
def PartS (w : World) (B g n cap : Nat) (f : Nat → Int) (s : Nat) (x : Int) : Prop := w.ownsRow B 3 1 (.slice (some ⟨g, 0, none⟩) n cap) n (((part f s n).map (Value.int .i64)).set s (.int .i64 x))
theorem PartS.start {w : World} {B g n cap : Nat} {f : Nat → Int} {s : Nat} (h : w.ownsRow B 3 1 (.slice (some ⟨g, 0, none⟩) n cap) n ((part f s n).map (Value.int .i64))) (hs : s < n) : PartS w B g n cap f s 0 := by
  unfold PartS
  have : ((part f s n).map (Value.int .i64)).set s (.int .i64 0) = (part f s n).map (Value.int .i64) := by
    apply List.ext_getElem
    · simp
    · intro i h1 h2
      rw [List.getElem_set]
      split
      · rename_i e; subst e; simp [part]
      · rfl
  rw [this]; exact h
theorem PartS.store {w : World} {B g n cap : Nat} {f : Nat → Int} {s : Nat} {x : Int} (h : PartS w B g n cap f s x) (y : Int) : PartS (w.setCell ⟨g, s, none⟩ (.int .i64 y)) B g n cap f s y := by
  have := (World.ownsRow.stored h s (.int .i64 y)).1
  rw [List.set_set] at this
  exact this
theorem PartS.drew {w : World} {B g n cap : Nat} {f : Nat → Int} {s : Nat} {x : Int} (h : PartS w B g n cap f s x) : PartS w.drew B g n cap f s x := h
theorem PartS.done {w : World} {B g n cap : Nat} {f : Nat → Int} {s : Nat} {x : Int} (h : PartS w B g n cap f s x) (hx : x = f s) : w.ownsRow B 3 1 (.slice (some ⟨g, 0, none⟩) n cap) n ((part f (s + 1) n).map (Value.int .i64)) := by
  subst hx; unfold PartS at h; rw [part_set] at h; exact h
theorem PartS.cell {w : World} {B g n cap : Nat} {f : Nat → Int} {s : Nat} {x : Int} (h : PartS w B g n cap f s x) (hs : s < n) : w.cell? ⟨g, s, none⟩ = some (.int .i64 x) := by
  rw [World.ownsRow.cellAt h s (by omega)]
  simp [part, hs]
theorem PartS.cell' {w : World} {B g n cap : Nat} {f : Nat → Int} {s : Nat} {x : Int} (h : PartS w B g n cap f s x) {i : Nat} (hi : i < s) (hs : i < n) : w.cell? ⟨g, i, none⟩ = some (.int .i64 (f i)) := by
  rw [World.ownsRow.cellAt h i (by omega)]
  rw [List.getElem?_set_ne (by omega)]
  simp [part, hs, hi]
theorem PartS.frozen {w : World} {B g n cap : Nat} {f : Nat → Int} {s : Nat} {x : Int} (h : PartS w B g n cap f s x) (j : Nat) : w.frozen? ⟨g, j, none⟩ = false := World.ownsRow.frozenAt h j
theorem part_full (f : Nat → Int) (n : Nat) : part f n n = (List.range n).map f := by
  unfold part
  apply List.map_congr_left
  intro i hi
  simp at hi
  simp [hi]
end Go.Proofs.YtfmhickjefogdaaGreat

/- The builtin append onto a row of integers that the call owns, of whatever slice of integers; slices.Clone. -/
namespace Go.Proofs.YtfmhickjefogdaaGreat
open Go.RowKit

theorem run_append_zero {P : Program} {w : World} {base : Nat} {e : TypeId} {size : Nat} {v : Value} {n : Nat} {xs : List Value} (t ty : TypeId) (i : TypeInfo) (ht : P.underlying t = some (.slice e)) (hi : P.info? e = some i)
    (hown : w.ownsRow base e size v n xs) (c : Nat) : (Builtin.append_ #[t, t] ty #[v, .slice none 0 c]).run P w = .ok v w := by
  rcases hown.2 with ⟨rfl, rfl⟩ | ⟨g, cap, cur, rfl, _, _, hnc, _⟩
  · simp [Builtin.append_, run_underlying ht, sizeOf, typeInfo, hi, Builtin.lenOf, Builtin.firstCells]
  · simp [Builtin.append_, run_underlying ht, sizeOf, typeInfo, hi, Builtin.lenOf, Builtin.firstCells, hnc, storeCells]

theorem run_app_int {w : World} {B : Nat} {v u : Value} {r xs : List Int} (ty : TypeId) (hown : OwnI w B v r) (hs : SI w u xs) (hlen : r.length + xs.length ≤ 100000000) (hb : B ≤ w.heap.size) :
    ∃ v' w', (Builtin.append_ #[93, 93] ty #[v, u]).run Tryz.prog w = .ok v' w' ∧ OwnI w' B v' (r ++ xs) ∧ w.grownBy w' v.ownBlock ∧ (v'.ownBlock = v.ownBlock ∨ v'.ownBlock = some w.heap.size) := by
  obtain ⟨i, hi, hz0, hz1, hz2⟩ := info_parts Tryz_infoInt
  obtain ⟨a, cap, rfl, h1, h2, h3⟩ := hs
  have hown' : w.ownsRow B 3 1 v r.length (r.map (Value.int .i64)) := hown
  cases a with
  | none =>
    have hx : xs = [] := by
      cases xs with
      | nil => rfl
      | cons x xs => obtain ⟨b, off, ha, _⟩ := h3 0 (by simp); cases ha
    subst hx
    refine ⟨v, w, run_append_zero _ _ i Tryz.underlying93 hi hown' cap, by simpa using hown, World.grownBy.refl _ _, .inl rfl⟩
  | some ad =>
    have hnews : ∀ j x, (xs.map (Value.int .i64))[j]? = some x → w.cell? (ad.add j) = some x := by
      intro j x hj
      have hjl : j < xs.length := by
        have := (List.getElem?_eq_some_iff.1 hj).1; simpa using this
      obtain ⟨b, off, ha, hc⟩ := h3 j hjl
      simp at ha
      subst ha
      have hadd : (⟨b, off, none⟩ : Addr).add j = ⟨b, off + j, none⟩ := by unfold Addr.add; split <;> simp_all
      rw [hadd, hc]
      simp [hjl] at hj
      dsimp only
      rw [← hj, gi_lt hjl]
    obtain ⟨v', w', hr, ho, hg, _, hat⟩ := run_append_own_at (P := Tryz.prog) w B 93 ty 3 i (.int .i64 0) 1 8 Tryz.underlying93 hi hz0 hz1 hz2 rfl (by decide) v r.length (r.map (Value.int .i64)) hown' ad xs.length cap (xs.map (Value.int .i64)) (by simp) hnews (ints_oneCell _ _)
      (by unfold maxLen; omega) (by omega) hb
    refine ⟨v', w', hr, ?_, hg, hat⟩
    unfold OwnI
    rw [List.length_append, List.map_append]
    exact ho

theorem wp_app_int {o : Oper} {a : Act} {K : Act → World → Prop} {Q : Exit → Act → World → Prop} {w : World} (s x : Operand)
    (ho : o.op = .call { callee := .builtin .append, args := #[s, x], argTypes := #[93, 93] })
    (B : Nat) (v u : Value) (r xs : List Int) (hs : a.eval s = v) (hx : a.eval x = u) (hown : OwnI w B v r) (hsrc : SI w u xs) (hlen : r.length + xs.length ≤ 100000000) (hb : B ≤ w.heap.size)
    (h : ∀ v' w', OwnI w' B v' (r ++ xs) → w.grownBy w' v.ownBlock → (v'.ownBlock = v.ownBlock ∨ v'.ownBlock = some w.heap.size) → K (a.put o.dst v') w') : o.wp Tryz.prog a w K Q := by
  obtain ⟨v', w', hr, h2, h3, h4⟩ := run_app_int o.type hown hsrc hlen hb
  unfold Oper.wp execOp
  simp only [ho, resolve, invoke, builtin, Sem.run_bind, Sem.run_pure, Result.andThen_ok, List.map_toArray, List.map_cons, List.map_nil, hs, hx, hr]
  exact h v' w' h2 h3 h4

theorem wpList_app_int {ops : Array Oper} {rest : List Oper} {o : Oper} {a : Act} {Q : Exit → Act → World → Prop} {w : World} (hw : Region.wanted o (yielded ops a.tmps) = true) (s x : Operand)
    (ho : o.op = .call { callee := .builtin .append, args := #[s, x], argTypes := #[93, 93] })
    (B : Nat) (v u : Value) (r xs : List Int) (hs : a.eval s = v) (hx : a.eval x = u) (hown : OwnI w B v r) (hsrc : SI w u xs) (hlen : r.length + xs.length ≤ 100000000) (hb : B ≤ w.heap.size)
    (h : ∀ v' w', OwnI w' B v' (r ++ xs) → w.grownBy w' v.ownBlock → (v'.ownBlock = v.ownBlock ∨ v'.ownBlock = some w.heap.size) → wpList Tryz.prog ops Q rest (a.put o.dst v') w') : wpList Tryz.prog ops Q (o :: rest) a w :=
  wpList_step fun K hK => by
    rw [if_pos hw]
    exact wp_app_int s x ho B v u r xs hs hx hown hsrc hlen hb fun v' w' a1 a2 a3 => hK _ _ (h v' w' a1 a2 a3)

/-- the one element of a literal slice -/
theorem SI_one (w : World) (x : Int) (e : TypeId) : SI (w.alloc (.cells #[.int .i64 x] e)) (.slice (some ⟨w.heap.size, 0, none⟩) 1 1) [x] := by
  refine ⟨_, 1, rfl, Nat.le_refl _, by unfold maxLen; omega, fun i hi => ⟨w.heap.size, 0, rfl, ?_⟩⟩
  have : i = 0 := by simpa using hi
  subst this
  simp [gi]
theorem OwnI_empty (w : World) (B : Nat) (h : B ≤ w.heap.size) : OwnI (w.alloc (.cells #[] 3)) B (.slice (some ⟨w.heap.size, 0, none⟩) 0 0) [] :=
  World.ownsRow_lit w #[] 0 h (Nat.zero_le _) rfl
theorem OwnI.alloc {w : World} {B : Nat} {v : Value} {r : List Int} (h : OwnI w B v r) (o : Obj) : OwnI (w.alloc o) B v r := World.ownsRow.alloc h o
theorem OwnI.si {w : World} {B : Nat} {v : Value} {r : List Int} (h : OwnI w B v r) : SI w v r := SI_of_owns h
theorem OwnI.mono {w : World} {B B' : Nat} {v : Value} {r : List Int} (h : OwnI w B v r) (hb : B' ≤ B) : OwnI w B' v r := owns_mono h hb
theorem SI.alloc {w : World} {v : Value} {xs : List Int} (h : SI w v xs) (o : Obj) : SI (w.alloc o) v xs := h.keep ((Below.refl _ _).alloc (Nat.le_refl _) _)

/-- It returns a new row of integers. -/
def RetOwn (w : World) (xs : List Int) (e : Ending) (w' : World) : Prop := ∃ v, e = .returned v ∧ OwnI w' w.heap.size v xs ∧ Below w.heap.size w w'

end Go.Proofs.YtfmhickjefogdaaGreat

/- A region that draws its order, by an invariant: each operation is looked at once, whatever came before it. -/
namespace Go.Proofs.YtfmhickjefogdaaGreat
open Go.RowKit

/-- which operations have come up -/
def lst (listed : Array Bool) : Nat → Bool := fun i => listed.getD i false
def updL (L : Nat → Bool) (i : Nat) : Nat → Bool := fun j => if j = i then true else L j
theorem updL_same (L i) : updL L i i = true := by simp [updL]
theorem updL_other {L : Nat → Bool} {i j : Nat} (h : j ≠ i) : updL L i j = L j := by simp [updL, h]
theorem lst_set {listed : Array Bool} {i : Nat} (h : i < listed.size) : lst (listed.setIfInBounds i true) = updL (lst listed) i := by
  funext j
  unfold lst updL
  simp only [Array.getD_eq_getD_getElem?, Array.getElem?_setIfInBounds]
  by_cases e : i = j
  · subst e; simp [h]
  · rw [if_neg e, if_neg (fun h => e h.symm)]

/-- every operation waits for earlier ones alone -/
def ordB (ops : Array Oper) : Bool := (List.range ops.size).all fun i => match ops[i]? with
  | some o => o.after.all fun e => !(Region.binds .any e) || decide (e.on < i)
  | none => true
theorem ordB_spec {ops : Array Oper} (h : ordB ops = true) {i : Nat} {o : Oper} (ho : ops[i]? = some o) : ∀ e ∈ o.after, Region.binds .any e = true → e.on < i := by
  intro e he hbi
  have hi : i < ops.size := (Array.getElem?_eq_some_iff.1 ho).1
  unfold ordB at h
  rw [List.all_eq_true] at h
  have := h i (List.mem_range.2 hi)
  rw [ho] at this
  simp only [Array.all_eq_true'] at this
  simpa [hbi] using this e he

section
variable {P : Program} {ops : Array Oper} {Q : Exit → Act → World → Prop}

theorem ready_none {listed : Array Bool} (ho : ordB ops = true) (hs : listed.size = ops.size) (h : Region.ready .any ops listed = []) : ∀ i, i < ops.size → lst listed i = true := by
  intro i
  induction i using Nat.strongRecOn with
  | _ i ih =>
    intro hi
    cases hl : lst listed i
    · exfalso
      have hoi : ops[i]? = some ops[i] := Array.getElem?_eq_getElem hi
      have : i ∈ Region.ready .any ops listed := by
        rw [mem_ready]
        refine ⟨?_, ops[i], hoi, fun e he hbi => ?_⟩
        · unfold lst at hl
          have hi' : i < listed.size := by omega
          simp [hi'] at hl ⊢; exact hl
        · have he' := ordB_spec ho hoi e he hbi
          exact ih e.on he' (by omega)
      rw [h] at this; cases this
    · rfl

/-- what has come up has come behind what it waits for -/
def ClosedL (ops : Array Oper) (L : Nat → Bool) : Prop := ∀ i o, ops[i]? = some o → L i = true → ∀ e ∈ o.after, Region.binds .any e = true → L e.on = true
theorem ClosedL.upd {L : Nat → Bool} {i : Nat} {o : Oper} (h : ClosedL ops L) (ho : ops[i]? = some o) (hd : ∀ e ∈ o.after, Region.binds .any e = true → L e.on = true) : ClosedL ops (updL L i) := by
  intro j oj hj hl e he hb
  by_cases e2 : e.on = i
  · rw [e2, updL_same]
  · rw [updL_other e2]
    by_cases e3 : j = i
    · subst e3
      have : oj = o := Option.some.inj (hj.symm.trans ho)
      subst this
      exact hd e he hb
    · rw [updL_other e3] at hl
      exact h j oj hj hl e he hb

theorem wpAny_inv (ho : ordB ops = true) (I : (Nat → Bool) → Act → World → Prop)
    (step : ∀ i o L a w, ops[i]? = some o → L i = false → (∀ e ∈ o.after, Region.binds .any e = true → L e.on = true) → ClosedL ops L → I L a w →
      ∀ K : Act → World → Prop, (∀ a' w', I (updL L i) a' w' → K a' w') → if Region.wanted o (yielded ops a.tmps) = true then Oper.wp P o a w K Q else K (a.put o.dst undef) w)
    (done : ∀ L a w, (∀ i, i < ops.size → L i = true) → I L a w → Q .normal a w) :
    ∀ fuel listed a w, listed.size = ops.size → listed.toList.count false ≤ fuel → ClosedL ops (lst listed) → I (lst listed) a w → wpAny P .any ops Q fuel listed a w := by
  intro fuel
  induction fuel with
  | zero =>
    intro listed a w hs hc hcl hI
    have hall : ∀ i, i < ops.size → lst listed i = true := by
      intro i hi
      cases hl : lst listed i
      · exfalso
        have hi' : i < listed.size := by omega
        have : false ∈ listed.toList := by
          unfold lst at hl
          simp [hi'] at hl
          rw [← hl]; simp
        have := List.count_pos_iff.2 this
        omega
      · rfl
    refine ⟨?_, done _ a w hall hI⟩
    refine List.eq_nil_iff_forall_not_mem.2 fun i hi => ?_
    obtain ⟨h1, o, h2, _⟩ := mem_ready.1 hi
    have hi' : i < ops.size := (Array.getElem?_eq_some_iff.1 h2).1
    have h3 := hall i hi'
    unfold lst at h3
    have hi'' : i < listed.size := by omega
    simp [hi''] at h1 h3
    rw [h3] at h1; cases h1
  | succ fuel ih =>
    intro listed a w hs hc hcl hI
    refine ⟨fun h => done _ a w (ready_none ho hs h) hI, fun i hi => ?_⟩
    obtain ⟨h1, o, h2, h3⟩ := mem_ready.1 hi
    have hi' : i < ops.size := (Array.getElem?_eq_some_iff.1 h2).1
    have hil : i < listed.size := by omega
    have h1' : listed[i] = false := by simpa [hil] using h1
    refine wpOp_step h2 fun K hK => step i o (lst listed) a w h2 ?_ h3 hcl hI K fun a' w' hI' => hK a' w' (ih _ a' w' (by simpa using hs) ?_ ?_ ?_)
    · unfold lst; simp [hil, h1']
    · have hcs := List.count_set (l := listed.toList) (i := i) (a := true) (b := false) (by simpa using hil)
      have hp : 0 < listed.toList.count false := List.count_pos_iff.2 (by
        have := List.getElem_mem (l := listed.toList) (n := i) (by simpa using hil)
        rw [Array.getElem_toList, h1'] at this; exact this)
      simp [h1'] at hcs
      simp only [Array.toList_setIfInBounds]
      have e : (listed.toList.set i true).count false = listed.toList.count false - 1 := by rw [hcs]; simp
      omega
    · rw [lst_set hil]; exact hcl.upd h2 h3
    · rw [lst_set hil]; exact hI'

theorem wp_region_inv {id : Nat} {a : Act} {w : World} (hm : P.follows .mixedOrders = true) (ho : ordB ops = true) (I : (Nat → Bool) → Act → World → Prop)
    (h0 : I (fun _ => false) a w.drew)
    (step : ∀ i o L a w, ops[i]? = some o → L i = false → (∀ e ∈ o.after, Region.binds .any e = true → L e.on = true) → ClosedL ops L → I L a w →
      ∀ K : Act → World → Prop, (∀ a' w', I (updL L i) a' w' → K a' w') → if Region.wanted o (yielded ops a.tmps) = true then Oper.wp P o a w K Q else K (a.put o.dst undef) w)
    (done : ∀ L a w, (∀ i, i < ops.size → L i = true) → I L a w → Q .normal a w) : (Code.region id ops true).wp P Q a w := by
  have e : lst (Array.replicate ops.size false) = fun _ => false := by
    funext j
    unfold lst
    rcases Nat.lt_or_ge j ops.size with h | h
    · simp [h]
    · simp [h]
  refine wp_region_any hm (wpAny_inv ho I step done _ _ _ _ (by simp) (by simp) ?_ ?_)
  · rw [e]; exact fun _ _ _ h => by cases h
  · rw [e]; exact h0
end

/-! the frame: only some slots have changed -/
def Sm (S : List Nat) (a0 a : Act) : Prop := a.tmps.size = a0.tmps.size ∧ a.defers = a0.defers ∧ ∀ m, m ∉ S → a.tmps[m]? = a0.tmps[m]?
theorem Sm.refl (S) (a : Act) : Sm S a a := ⟨rfl, rfl, fun _ _ => rfl⟩
theorem Sm.put {S : List Nat} {a0 a : Act} (h : Sm S a0 a) {m : Nat} (hm : m ∈ S) (v : Value) : Sm S a0 (a.put (some m) v) := by
  refine ⟨by simp [Act.put, h.1], by simp [Act.put, h.2.1], fun n hn => ?_⟩
  have : n ≠ m := fun e => hn (e ▸ hm)
  simp only [Act.put, Array.getElem?_setIfInBounds]
  rw [if_neg (fun e => this e.symm)]
  exact h.2.2 n hn
theorem eval_tmp (a : Act) (m : Nat) : a.eval (.tmp m) = a.tmps.getD m undef := rfl
theorem Sm.eval {S : List Nat} {a0 a : Act} (h : Sm S a0 a) {m : Nat} (hm : m ∉ S) : a.eval (.tmp m) = a0.eval (.tmp m) := by
  rw [eval_tmp, eval_tmp, Array.getD_eq_getD_getElem?, Array.getD_eq_getD_getElem?, h.2.2 m hm]
theorem eval_put_same {a : Act} {m : Nat} (h : m < a.tmps.size) (v : Value) : (a.put (some m) v).eval (.tmp m) = v := by
  rw [eval_tmp]; simp [Act.put, h]
theorem eval_put_other {a : Act} {m n : Nat} (h : n ≠ m) (v : Value) : (a.put (some m) v).eval (.tmp n) = a.eval (.tmp n) := by
  rw [eval_tmp, eval_tmp]
  simp only [Act.put, Array.getD_eq_getD_getElem?, Array.getElem?_setIfInBounds]
  rw [if_neg (fun e => h e.symm)]
theorem fold_put_size (f : Nat → Value) (S : List Nat) : ∀ a : Act, (S.foldl (fun b m => b.put (some m) (f m)) a).tmps.size = a.tmps.size ∧ (S.foldl (fun b m => b.put (some m) (f m)) a).defers = a.defers := by
  induction S with
  | nil => intro a; exact ⟨rfl, rfl⟩
  | cons m S ih => intro a; rw [List.foldl_cons]; have := ih (a.put (some m) (f m)); simpa [Act.put] using this
theorem fold_put_get (f : Nat → Value) (S : List Nat) : ∀ (a : Act) (n : Nat), n < a.tmps.size → (S.foldl (fun b m => b.put (some m) (f m)) a).tmps[n]? = if n ∈ S then some (f n) else a.tmps[n]? := by
  induction S with
  | nil => intro a n _; simp
  | cons m S ih =>
    intro a n hn
    rw [List.foldl_cons, ih _ n (by simpa [Act.put] using hn)]
    by_cases h : n ∈ S
    · rw [if_pos h, if_pos (by simp [h])]
    · rw [if_neg h]
      by_cases e : n = m
      · subst e; rw [if_pos (by simp)]; simp [Act.put, hn]
      · rw [if_neg (by simp [e, h])]
        simp only [Act.put, Array.getElem?_setIfInBounds]
        rw [if_neg (fun h => e h.symm)]
/-- the frame, written out -/
theorem Sm.lit {S : List Nat} {a0 a : Act} (h : Sm S a0 a) : a = S.foldl (fun b m => b.put (some m) (a.eval (.tmp m))) a0 := by
  obtain ⟨h1, h2, h3⟩ := h
  have hz := fold_put_size (fun m => a.eval (.tmp m)) S a0
  have hg := fold_put_get (fun m => a.eval (.tmp m)) S a0
  generalize hb : S.foldl (fun b m => b.put (some m) (a.eval (.tmp m))) a0 = b at *
  cases a with
  | mk at_ ad =>
  cases b with
  | mk bt bd =>
  dsimp only at *
  have e1 : at_ = bt := by
    apply Array.ext
    · omega
    · intro i hi hj
      have := hg i (by omega)
      rw [Array.getElem?_eq_getElem hj] at this
      by_cases hS : i ∈ S
      · rw [if_pos hS, eval_tmp] at this
        simp [hi] at this
        exact this.symm
      · rw [if_neg hS, ← h3 i hS, Array.getElem?_eq_getElem hi] at this
        simpa using this.symm
  rw [e1, h2, hz.2]
end Go.Proofs.YtfmhickjefogdaaGreat

/- Regions that draw their order, in which some operations make or write memory: the others are reckoned in one go. -/
namespace Go.Proofs.YtfmhickjefogdaaGreat
open Go.RowKit

def dstsL (l : List Oper) : List Nat := l.filterMap (·.dst)
/-- those that are not special, by their numbers -/
def quietL (sp : List Nat) : Nat → List Oper → List Oper
  | _, [] => []
  | i, o :: l => match sp.contains i with | true => quietL sp (i + 1) l | false => o :: quietL sp (i + 1) l
def selB (o : Oper) : Bool := match o.op with | .select .. => false | _ => true
/-- of the quiet ones: none looks at a slot that is written by it or behind it; each writes a slot of its own -/
def chkB (ops : Array Oper) : List Oper → Bool
  | [] => true
  | o :: l => (o.looksAt ops).all (fun m => !(dstsL (o :: l)).contains m) && (match o.dst with | some n => !(dstsL l).contains n | none => false) && selB o && chkB ops l
def nodB : List Nat → Bool
  | [] => true
  | n :: l => !l.contains n && nodB l
/-- a special operation that writes slot m waits for operation i -/
def befQ (sp : List Nat) (ops : Array Oper) (i m : Nat) : Bool := (List.range ops.size).any fun j => match ops[j]? with
  | some oj => oj.dst == some m && sp.contains j && oj.after.any fun e => Region.binds .any e && (e.on == i || match ops[e.on]? with | some oe => oe.after.any fun e' => Region.binds .any e' && e'.on == i | none => false)
  | none => false
/-- what one looks at, it waits for (or it is written later by a special one); a quiet one looks at quiet ones alone; a special one has no guard -/
def depB (sp : List Nat) (ops : Array Oper) : Bool := (List.range ops.size).all fun i => match ops[i]? with
  | some o => ((o.looksAt ops).all fun m => !(dstsL ops.toList).contains m || o.after.any (fun e => Region.binds .any e && (sp.contains i || !sp.contains e.on) && (match ops[e.on]? with | some oj => oj.dst == some m | none => false)) || (!sp.contains i && befQ sp ops i m)) && (!sp.contains i || o.guard.isNone)
  | none => true
theorem befQ_spec {sp : List Nat} {ops : Array Oper} {i m : Nat} (h : befQ sp ops i m = true) : ∃ (j : Nat) (oj : Oper), ops[j]? = some oj ∧ oj.dst = some m ∧ sp.contains j = true ∧ ∀ L : Nat → Bool, ClosedL ops L → L j = true → L i = true := by
  unfold befQ at h
  rw [List.any_eq_true] at h
  obtain ⟨j, _, h⟩ := h
  split at h
  · rename_i oj hoj
    simp only [Bool.and_eq_true] at h
    obtain ⟨⟨h1, h2⟩, h3⟩ := h
    rw [Array.any_eq_true'] at h3
    obtain ⟨e, he, h4⟩ := h3
    simp only [Bool.and_eq_true, Bool.or_eq_true] at h4
    obtain ⟨hb, h5⟩ := h4
    refine ⟨j, oj, hoj, eq_of_beq h1, h2, fun L hL hl => ?_⟩
    have h6 := hL j oj hoj hl e he hb
    rcases h5 with h5 | h5
    · rw [eq_of_beq h5] at h6; exact h6
    · split at h5
      · rename_i oe hoe
        rw [Array.any_eq_true'] at h5
        obtain ⟨e', he', h7⟩ := h5
        simp only [Bool.and_eq_true] at h7
        have h8 := hL e.on oe hoe h6 e' he' h7.1
        rw [eq_of_beq h7.2] at h8; exact h8
      · cases h5
  · cases h
theorem depB_spec {sp : List Nat} {ops : Array Oper} (h : depB sp ops = true) {i : Nat} {o : Oper} (ho : ops[i]? = some o) : (∀ m ∈ o.looksAt ops, m ∈ dstsL ops.toList → (∃ e ∈ o.after, Region.binds .any e = true ∧ (sp.contains i = false → sp.contains e.on = false) ∧ ∃ oj, ops[e.on]? = some oj ∧ oj.dst = some m) ∨ (sp.contains i = false ∧ befQ sp ops i m = true)) ∧ (sp.contains i = true → o.guard = none) := by
  have hi : i < ops.size := (Array.getElem?_eq_some_iff.1 ho).1
  unfold depB at h
  rw [List.all_eq_true] at h
  have := h i (List.mem_range.2 hi)
  rw [ho] at this
  simp only [Bool.and_eq_true] at this
  obtain ⟨h1, h2⟩ := this
  refine ⟨fun m hm hd => ?_, fun hs => ?_⟩
  · have := List.all_eq_true.1 h1 m hm
    rw [List.contains_iff_mem.2 hd, Bool.not_true, Bool.false_or, Bool.or_eq_true] at this
    rcases this with this | this
    · rw [Array.any_eq_true'] at this
      obtain ⟨e, he, h3⟩ := this
      simp only [Bool.and_eq_true, Bool.or_eq_true, Bool.not_eq_true'] at h3
      obtain ⟨⟨h4, h5⟩, h6⟩ := h3
      refine .inl ⟨e, he, h4, fun hn => ?_, ?_⟩
      · rcases h5 with h5 | h5
        · rw [hn] at h5; cases h5
        · exact h5
      · split at h6
        · rename_i oj hoj; exact ⟨oj, hoj, eq_of_beq h6⟩
        · cases h6
    · simp only [Bool.and_eq_true, Bool.not_eq_true'] at this
      exact .inr this
  · rw [hs, Bool.not_true, Bool.false_or] at h2
    exact Option.isNone_iff_eq_none.1 h2
def StepOK (ops : Array Oper) (C : World → Prop) (R : World → World → Prop) (o : Oper) (a : Act) (v : Value) : Prop :=
  if Region.wanted o (yielded ops a.tmps) = true then Yd o a C R v else v = undef
theorem eval_at (a : Act) (m : Nat) : a.eval (.tmp m) = (a.tmps[m]?).getD undef := by simp [Act.eval, Array.getD_eq_getD_getElem?]
theorem look_same {ops : Array Oper} {o : Oper} {a a' : Act} (hs : selB o = true) (h : ∀ m ∈ o.looksAt ops, a.tmps[m]? = a'.tmps[m]?) : execOp a.eval o = execOp a'.eval o ∧ Region.wanted o (yielded ops a.tmps) = Region.wanted o (yielded ops a'.tmps) := by
  constructor
  · refine execOp_congr o (fun cs b hc => by unfold selB at hs; rw [hc] at hs; cases hs) fun x hx => ?_
    cases x with
    | tmp t =>
      rw [eval_at, eval_at, h t (List.mem_append_left _ (List.mem_filterMap.2 ⟨.tmp t, by simpa using hx, rfl⟩))]
    | const v => rfl
    | global g => rfl
    | func f => rfl
  · unfold Region.wanted
    cases hg : o.guard with
    | none => rfl
    | some gw =>
      obtain ⟨g, want⟩ := gw
      dsimp only
      unfold yielded
      cases ht : (ops[g]?).bind (·.dst) with
      | none => rfl
      | some t =>
        simp only [Option.bind_some]
        rw [h t (by simp [Oper.looksAt, hg, ht])]
theorem StepOK.same {ops : Array Oper} {C : World → Prop} {R : World → World → Prop} {o : Oper} {a a' : Act} {v : Value} (h : StepOK ops C R o a v) (hs : selB o = true) (hl : ∀ m ∈ o.looksAt ops, a.tmps[m]? = a'.tmps[m]?) : StepOK ops C R o a' v := by
  obtain ⟨h1, h2⟩ := look_same hs hl
  unfold StepOK Yd Oper.quietAt at *
  rw [← h1, ← h2]
  exact h
theorem put_at {a : Act} {n m : Nat} {v : Value} (h : m ≠ n) : (a.put (some n) v).tmps[m]? = a.tmps[m]? := by
  simp [Act.put, Array.getElem?_setIfInBounds_ne (Ne.symm h)]
theorem put_self {a : Act} {n : Nat} {v : Value} (h : n < a.tmps.size) : (a.put (some n) v).tmps[n]? = some v := by
  simp [Act.put, h]
theorem mem_dsts {l : List Oper} {o : Oper} {n : Nat} (h : o ∈ l) (hd : o.dst = some n) : n ∈ dstsL l := List.mem_filterMap.2 ⟨o, h, hd⟩
section
variable {a0 : Act} {ps : List (Nat × Nat)} {T : QTab} {E : List Ob} {C : World → Prop} {R : World → World → Prop} {hs : List (Nat × Hint)}
theorem evL_fin (P : psOk a0 E ps) (hT : T.Ok) (hE : ObsIn C E) {ops : List Oper} (hz : (ops.all fun o => match o.dst with | some n => decide (n < a0.tmps.size) | none => true) = true) {Fin : List Ent → Prop} :
    ∀ (rest : List Oper) (S : List Ent) (H : List (Nat × Bool)) (a : Act), (∀ o ∈ rest, o ∈ ops) → chkB ops.toArray rest = true → InvQ a0 a E S H → evL a0 ps T E C R hs ops Fin rest S →
      ∃ S' H' af, InvQ a0 af E S' H' ∧ Fin S' ∧ (∀ n, n ∉ dstsL rest → af.tmps[n]? = a.tmps[n]?) ∧ (∀ o ∈ rest, ∀ n, o.dst = some n → StepOK ops.toArray C R o af (af.eval (.tmp n))) ∧ ∀ e ∈ S', e ∈ S ∨ ∃ o ∈ rest, o.dst = some e.n
  | [], S, H, a, _, _, I, h => ⟨S, H, a, I, h, fun _ _ => rfl, fun o ho => (by cases ho), fun e he => .inl he⟩
  | o :: rest, S, H, a, hm, hc, I, h => by
    unfold evL at h
    split at h
    · cases h
    · rename_i n hd
      split at h
      · cases h
      · rename_i hn
        split at h
        · cases h
        · rename_i path hg
          obtain ⟨g1, g2⟩ := guardP_sound I hg hz
          obtain ⟨r, h1, h2⟩ := evOp_sound I P hT hE h
          have hlt : n < a0.tmps.size := by
            have := List.all_eq_true.1 hz o (hm o (List.mem_cons_self ..))
            rw [hd] at this
            exact of_decide_eq_true this
          have I' := I.next (s := r) hn g2 hlt
          unfold chkB at hc
          rw [hd] at hc
          simp only [Bool.and_eq_true, Bool.not_eq_true', List.all_eq_true] at hc
          obtain ⟨⟨⟨c1, c2⟩, c3⟩, c4⟩ := hc
          obtain ⟨S', H', af, k1, k2, k3, k4, k5⟩ := evL_fin P hT hE hz rest _ _ _ (fun o' ho' => hm o' (List.mem_cons_of_mem _ ho')) c4 I' h1
          have c2' : n ∉ dstsL rest := by simpa using c2
          have hlook : ∀ m ∈ o.looksAt ops.toArray, a.tmps[m]? = af.tmps[m]? := fun m hm2 => by
            have := c1 m hm2
            have hmn : m ≠ n := fun e => by subst e; simp [dstsL, hd] at this
            have hmr : m ∉ dstsL rest := fun e => by
              have e' : m ∈ dstsL (o :: rest) := by unfold dstsL at e ⊢; rw [List.filterMap_cons, hd]; exact List.mem_cons_of_mem _ e
              simp [e'] at this
            rw [k3 m hmr, put_at hmn]
          have hn2 : af.tmps[n]? = some (valE E H ⟨n, path, r⟩) := by
            rw [k3 n c2', put_self (by rw [I.size]; exact hlt)]
          refine ⟨S', H', af, k1, k2, fun m hmn => ?_, fun o' ho' n' hd' => ?_, fun e he => ?_⟩
          · have hne : m ≠ n := fun e => hmn (by subst e; exact mem_dsts (List.mem_cons_self ..) hd)
            rw [k3 m (fun e => hmn (by unfold dstsL at e ⊢; rw [List.filterMap_cons, hd]; exact List.mem_cons_of_mem _ e)), put_at hne]
          · rcases List.mem_cons.1 ho' with rfl | ho'
            · rw [hd] at hd'; cases hd'
              rw [eval_at, hn2, Option.getD_some]
              refine StepOK.same ?_ c3 hlook
              unfold StepOK
              rw [g1]
              by_cases hp : onB H path = true
              · rw [if_pos hp]
                have e : valE E H ⟨n, path, r⟩ = r.den E := by unfold valE; rw [hp]; rfl
                rw [e]; exact h2 hp
              · rw [if_neg hp]
                unfold valE; simp only [Bool.not_eq_true] at hp; rw [hp]; rfl
            · exact k4 o' ho' n' hd'
          · rcases k5 e he with h5 | ⟨o', h5, h6⟩
            · rcases List.mem_cons.1 h5 with rfl | h5
              · exact .inr ⟨o, List.mem_cons_self .., hd⟩
              · exact .inl h5
            · exact .inr ⟨o', List.mem_cons_of_mem _ h5, h6⟩
def updS (s : Nat → Option Value) (i : Nat) (v : Value) : Nat → Option Value := fun j => if j = i then some v else s j
theorem updS_same (s : Nat → Option Value) (i : Nat) (v : Value) : updS s i v i = some v := by simp [updS]
theorem updS_other {s : Nat → Option Value} {i j : Nat} {v : Value} (h : j ≠ i) : updS s i v j = s j := by simp [updS, h]
variable (a0 E C)
/-- what is owed for a special operation -/
def SpecAt (J : (Nat → Option Value) → World → Prop) (sp : List Nat) (ops : List Oper) (Q : Exit → Act → World → Prop) (S : List Ent) (i : Nat) : Prop :=
  ∀ (o : Oper) (a : Act) (w : World) (s : Nat → Option Value), ops[i]? = some o → C w → J s w → s i = none →
    (∀ m ∈ o.looksAt ops.toArray, ∀ e, lookS S m = some e → e.path = [] → a.eval (.tmp m) = e.sw.den E) →
    (∀ m, m ∉ dstsL ops → a.eval (.tmp m) = a0.eval (.tmp m)) →
    (∀ e ∈ o.after, Region.binds .any e = true → sp.contains e.on = true → ∃ v, s e.on = some v ∧ ∀ oj n, ops[e.on]? = some oj → oj.dst = some n → a.eval (.tmp n) = v) →
    ∀ K : Act → World → Prop, (∀ v w', C w' → J (updS s i v) w' → K (a.put o.dst v) w') → o.wp Tryz.prog a w K Q
def SpecL (J : (Nat → Option Value) → World → Prop) (sp : List Nat) (ops : List Oper) (Q : Exit → Act → World → Prop) (S : List Ent) : List Nat → Prop
  | [] => True
  | i :: l => SpecAt a0 E C J sp ops Q S i ∧ SpecL J sp ops Q S l
def spD (sp : List Nat) : Nat → List Oper → List Nat
  | _, [] => []
  | i, o :: l => match sp.contains i with
    | true => (match o.dst with | some n => n :: spD sp (i + 1) l | none => spD sp (i + 1) l)
    | false => spD sp (i + 1) l
def setsN (f : Nat → Value) : List Nat → List Value → (List Value → Prop) → Prop
  | [], l, k => k l
  | n :: ns, l, k => setsN f ns l fun l' => setN l' n (f n) k
def evMix (J : (Nat → Option Value) → World → Prop) (sp : List Nat) (ops : List Oper) (outs : List (Nat × Value)) (Q : Exit → Act → World → Prop) (S : List Ent) : Prop :=
  SpecL a0 E C J sp ops Q S sp ∧ ∀ (f : Nat → Value) (s : Nat → Option Value), (∀ i, sp.contains i = true → ∀ o, ops[i]? = some o → ∃ v, s i = some v ∧ ∀ n, o.dst = some n → v = f n) → match a0 with
    | ⟨⟨l⟩, d⟩ => finS E outs f S l fun l' => setsN f (spD sp 0 ops) l' fun l'' => ∀ w', C w' → J s w' → Q .normal ⟨l''.toArray, d⟩ w'
variable {a0 E C}
theorem SpecL.at {J : (Nat → Option Value) → World → Prop} {sp : List Nat} {ops : List Oper} {Q : Exit → Act → World → Prop} {S : List Ent} {i : Nat} : ∀ {l : List Nat}, SpecL a0 E C J sp ops Q S l → i ∈ l → SpecAt a0 E C J sp ops Q S i
  | [], _, hi => by cases hi
  | j :: l, h, hi => by
    rcases List.mem_cons.1 hi with rfl | hi
    · exact h.1
    · exact SpecL.at h.2 hi
theorem setsN_eq (f : Nat → Value) : ∀ (ns : List Nat) (l : List Value) (k : List Value → Prop), setsN f ns l k = k (ns.foldr (fun n l => l.set n (f n)) l)
  | [], _, _ => rfl
  | n :: ns, l, k => by rw [setsN, setsN_eq f ns, setN_eq, List.foldr_cons]
theorem mem_quietL {sp : List Nat} {o : Oper} : ∀ {l : List Oper} {i : Nat}, o ∈ quietL sp i l → ∃ k, l[k]? = some o ∧ sp.contains (i + k) = false
  | [], _, h => by cases h
  | x :: l, i, h => by
    unfold quietL at h
    split at h
    · obtain ⟨k, h1, h2⟩ := mem_quietL h
      exact ⟨k + 1, by rw [List.getElem?_cons_succ]; exact h1, by rw [← h2]; congr 1; omega⟩
    · rename_i hq
      rcases List.mem_cons.1 h with rfl | h
      · exact ⟨0, rfl, hq⟩
      · obtain ⟨k, h1, h2⟩ := mem_quietL h
        exact ⟨k + 1, by rw [List.getElem?_cons_succ]; exact h1, by rw [← h2]; congr 1; omega⟩
theorem quietL_mem {sp : List Nat} {o : Oper} : ∀ {l : List Oper} {i k : Nat}, l[k]? = some o → sp.contains (i + k) = false → o ∈ quietL sp i l
  | [], _, _, h, _ => by simp at h
  | x :: l, i, 0, h, hs => by
    have e : x = o := by simpa using h
    subst e
    unfold quietL
    split
    · rename_i hq; rw [Nat.add_zero, hq] at hs; cases hs
    · exact List.mem_cons_self ..
  | x :: l, i, k + 1, h, hs => by
    have h' : l[k]? = some o := by simpa using h
    have := quietL_mem (i := i + 1) h' (by rw [← hs]; congr 1; omega)
    unfold quietL
    split
    · exact this
    · exact List.mem_cons_of_mem _ this
theorem mem_spD {sp : List Nat} {n : Nat} : ∀ {l : List Oper} {i : Nat}, n ∈ spD sp i l → ∃ k o, l[k]? = some o ∧ sp.contains (i + k) = true ∧ o.dst = some n
  | [], _, h => by cases h
  | x :: l, i, h => by
    unfold spD at h
    split at h
    · rename_i hq
      split at h
      · rename_i m hm
        rcases List.mem_cons.1 h with rfl | h
        · exact ⟨0, x, rfl, hq, hm⟩
        · obtain ⟨k, o, h1, h2, h3⟩ := mem_spD h
          exact ⟨k + 1, o, by rw [List.getElem?_cons_succ]; exact h1, by rw [← h2]; congr 1; omega, h3⟩
      · obtain ⟨k, o, h1, h2, h3⟩ := mem_spD h
        exact ⟨k + 1, o, by rw [List.getElem?_cons_succ]; exact h1, by rw [← h2]; congr 1; omega, h3⟩
    · obtain ⟨k, o, h1, h2, h3⟩ := mem_spD h
      exact ⟨k + 1, o, by rw [List.getElem?_cons_succ]; exact h1, by rw [← h2]; congr 1; omega, h3⟩
theorem spD_mem {sp : List Nat} {n : Nat} {o : Oper} : ∀ {l : List Oper} {i k : Nat}, l[k]? = some o → sp.contains (i + k) = true → o.dst = some n → n ∈ spD sp i l
  | [], _, _, h, _, _ => by simp at h
  | x :: l, i, 0, h, hs, hd => by
    have e : x = o := by simpa using h
    subst e
    unfold spD
    rw [Nat.add_zero] at hs
    simp only [hs, hd]
    exact List.mem_cons_self ..
  | x :: l, i, k + 1, h, hs, hd => by
    have h' : l[k]? = some o := by simpa using h
    have := spD_mem (i := i + 1) h' (by rw [← hs]; congr 1; omega) hd
    unfold spD
    split
    · split
      · exact List.mem_cons_of_mem _ this
      · exact this
    · exact this
theorem nod_unique : ∀ {ops : List Oper} {i j n : Nat} {o o' : Oper}, nodB (dstsL ops) = true → ops[i]? = some o → ops[j]? = some o' → o.dst = some n → o'.dst = some n → i = j
  | [], _, _, _, _, _, _, h, _, _, _ => by simp at h
  | x :: l, 0, 0, _, _, _, _, _, _, _, _ => rfl
  | x :: l, 0, j + 1, n, o, o', h, hi, hj, hd, hd' => by
    have e : x = o := by simpa using hi
    subst e
    have hj' : l[j]? = some o' := by simpa using hj
    have hm := mem_dsts (List.mem_of_getElem? hj') hd'
    unfold dstsL at h
    rw [List.filterMap_cons, hd] at h
    simp only [nodB, Bool.and_eq_true, Bool.not_eq_true'] at h
    have := h.1
    rw [List.contains_iff_mem.2 (show n ∈ List.filterMap (·.dst) l from hm)] at this
    cases this
  | x :: l, i + 1, 0, n, o, o', h, hi, hj, hd, hd' => by
    have e : x = o' := by simpa using hj
    subst e
    have hi' : l[i]? = some o := by simpa using hi
    have hm := mem_dsts (List.mem_of_getElem? hi') hd
    unfold dstsL at h
    rw [List.filterMap_cons, hd'] at h
    simp only [nodB, Bool.and_eq_true, Bool.not_eq_true'] at h
    have := h.1
    rw [List.contains_iff_mem.2 (show n ∈ List.filterMap (·.dst) l from hm)] at this
    cases this
  | x :: l, i + 1, j + 1, n, o, o', h, hi, hj, hd, hd' => by
    have h' : nodB (dstsL l) = true := by
      unfold dstsL at h ⊢
      rw [List.filterMap_cons] at h
      split at h
      · exact h
      · simp only [nodB, Bool.and_eq_true] at h; exact h.2
    have := nod_unique (i := i) (j := j) h' (by simpa using hi) (by simpa using hj) hd hd'
    omega
theorem get_sets {f : Nat → Value} {tgt : List Value} : ∀ {ns : List Nat} {l0 : List Value}, l0.length = tgt.length → (∀ n ∈ ns, tgt[n]? = some (f n)) → (∀ m, m ∉ ns → l0[m]? = tgt[m]?) → ns.foldr (fun n l => l.set n (f n)) l0 = tgt := by
  intro ns l0 hl h1 h2
  apply List.ext_getElem?
  intro m
  have key : ∀ ms : List Nat, (∀ n ∈ ms, n ∈ ns) → (ms.foldr (fun n l => l.set n (f n)) l0).length = l0.length ∧ (m ∈ ms → (ms.foldr (fun n l => l.set n (f n)) l0)[m]? = tgt[m]?) ∧ (m ∉ ms → (ms.foldr (fun n l => l.set n (f n)) l0)[m]? = l0[m]?) := by
    intro ms
    induction ms with
    | nil => exact fun _ => ⟨rfl, fun h => (by cases h), fun _ => rfl⟩
    | cons n ms ih =>
      intro hms
      obtain ⟨i1, i2, i3⟩ := ih fun x hx => hms x (List.mem_cons_of_mem _ hx)
      refine ⟨by rw [List.foldr_cons, List.length_set]; exact i1, fun hm => ?_, fun hm => ?_⟩
      · rw [List.foldr_cons]
        by_cases e : n = m
        · subst e
          have hn := h1 n (hms n (List.mem_cons_self ..))
          have hlt : n < tgt.length := (List.getElem?_eq_some_iff.1 hn).1
          rw [List.getElem?_set_self (by omega), hn]
        · rw [List.getElem?_set_ne e]
          rcases List.mem_cons.1 hm with rfl | hm
          · exact absurd rfl e
          · exact i2 hm
      · rw [List.foldr_cons, List.getElem?_set_ne (fun e => hm (by rw [e]; exact List.mem_cons_self ..))]
        exact i3 fun h => hm (List.mem_cons_of_mem _ h)
  obtain ⟨_, k2, k3⟩ := key ns (fun _ h => h)
  by_cases hm : m ∈ ns
  · exact k2 hm
  · rw [k3 hm]; exact h2 m hm
structure MixI (a0 af : Act) (ops : List Oper) (sp : List Nat) (C : World → Prop) (J : (Nat → Option Value) → World → Prop) (L : Nat → Bool) (a : Act) (w : World) : Prop where
  c : C w
  df : a.defers = a0.defers
  sz : a.tmps.size = a0.tmps.size
  q : ∀ i o n, ops[i]? = some o → sp.contains i = false → L i = true → o.dst = some n → a.tmps[n]? = af.tmps[n]?
  old : ∀ m, m ∉ dstsL ops → a.tmps[m]? = a0.tmps[m]?
  nt : ∀ i o n, ops[i]? = some o → L i = false → o.dst = some n → a.tmps[n]? = a0.tmps[n]?
  j : ∃ s, J s w ∧ (∀ i, sp.contains i = true → L i = true → ∃ v, s i = some v ∧ ∀ o n, ops[i]? = some o → o.dst = some n → a.tmps[n]? = some v) ∧ (∀ i, L i = false → s i = none)
theorem put_size (a : Act) (d : Option Tmp) (v : Value) : (a.put d v).tmps.size = a.tmps.size := by cases d <;> simp [Act.put]
theorem put_defs (a : Act) (d : Option Tmp) (v : Value) : (a.put d v).defers = a.defers := by cases d <;> rfl
theorem put_away {a : Act} {d : Option Tmp} {m : Nat} {v : Value} (h : ∀ n, d = some n → m ≠ n) : (a.put d v).tmps[m]? = a.tmps[m]? := by
  cases d with
  | none => rfl
  | some n => exact put_at (h n rfl)
theorem wp_of_at {P : Program} {o : Oper} {a : Act} {K : Act → World → Prop} {Q' : Exit → Act → World → Prop} {w : World} {v : Value} {D : World → Prop} (hK : ∀ w', w' = w ∨ D w' → K (a.put o.dst v) w') (h : o.quietAt P a D w v) : o.wp P a w K Q' := by
  unfold Oper.quietAt at h
  unfold Oper.wp
  generalize (execOp a.eval o).run P w = r at *
  cases r with
  | ok n w' =>
    cases n <;> simp only [Oper.quietUpon] at h <;> simp only [Oper.upon]
    case value u =>
      obtain ⟨e1, e2⟩ := h
      rw [e1, e2]
      exact hK _ (.inl rfl)
    case skip =>
      obtain ⟨e1, e2⟩ := h
      rw [e1]
      have := hK w (.inl rfl)
      rw [e2] at this
      exact this
    case enter f args =>
      obtain ⟨e1, hc⟩ := h
      rw [e1]
      exact hc.mono fun e w'' ⟨he, hw''⟩ => by subst he; exact hK _ (.inr hw'')
  | halt x w' => simp only [Oper.quietUpon] at h
theorem wp_of_run {P : Program} {o : Oper} {a : Act} {K : Act → World → Prop} {Q' : Exit → Act → World → Prop} {w w' : World} {v : Value} (h : (execOp a.eval o).run P w = .ok (.value v) w') (hK : K (a.put o.dst v) w') : o.wp P a w K Q' := by
  unfold Oper.wp; rw [h]; exact hK
theorem wp_of_skip {P : Program} {o : Oper} {a : Act} {K : Act → World → Prop} {Q' : Exit → Act → World → Prop} {w w' : World} (h : (execOp a.eval o).run P w = .ok .skip w') (hK : K (a.put o.dst undef) w') : o.wp P a w K Q' := by
  unfold Oper.wp; rw [h]; exact hK
/-- a region by an invariant: what is owed, in an order that is drawn -/
def RegI (P : Program) (ops : Array Oper) (Q : Exit → Act → World → Prop) (a : Act) (w : World) : Prop := ∃ I : (Nat → Bool) → Act → World → Prop, I (fun _ => false) a w.drew ∧
  (∀ i o L a w, ops[i]? = some o → L i = false → (∀ e ∈ o.after, Region.binds .any e = true → L e.on = true) → ClosedL ops L → I L a w →
    ∀ K : Act → World → Prop, (∀ a' w', I (updL L i) a' w' → K a' w') → if Region.wanted o (yielded ops a.tmps) = true then Oper.wp P o a w K Q else K (a.put o.dst undef) w) ∧
  ∀ L a w, (∀ i, i < ops.size → L i = true) → I L a w → Q .normal a w
theorem RegI.wp {P : Program} {ops : Array Oper} {Q : Exit → Act → World → Prop} {a : Act} {w : World} {id : Nat} (h : RegI P ops Q a w) (hm : P.follows .mixedOrders = true) (ho : ordB ops = true) : (Code.region id ops true).wp P Q a w := by
  obtain ⟨I, h0, h1, h2⟩ := h
  exact wp_region_inv hm ho I h0 h1 h2
theorem mix_coreI {Q : Exit → Act → World → Prop} {w : World} {ops : List Oper} (sp : List Nat) (E : List Ob) (C : World → Prop) (R : World → World → Prop) (outs : List (Nat × Value))
    (J : (Nat → Option Value) → World → Prop)
    (hz : (ops.all fun o => match o.dst with | some n => decide (n < a0.tmps.size) | none => true) = true)
    (hst : (ordB ops.toArray && nodB (dstsL ops) && chkB ops.toArray (quietL sp 0 ops) && depB sp ops.toArray) = true)
    (D : World → Prop) (hD : ∀ i, i < ops.length → sp.contains i = false → ∀ L s u, ClosedL ops.toArray L → L i = false → (∀ j, L j = false → s j = none) → C u → J s u → D u) (hC : C w.drew) (hJ : J (fun _ => none) w.drew) (hR : ∀ w w', C w → R w w' → C w') (hRd : ∀ w, C w → R w w) (hJR : ∀ s w w', C w → J s w → R w w' → J s w')
    {S : List Ent} {H : List (Nat × Bool)} {af : Act} (I : InvQ a0 af E S H) (hmix : evMix a0 E C J sp ops outs Q S) (f1 : ∀ n, n ∉ dstsL (quietL sp 0 ops) → af.tmps[n]? = a0.tmps[n]?)
    (f2 : ∀ o ∈ quietL sp 0 ops, ∀ n, o.dst = some n → StepOK ops.toArray D R o af (af.eval (.tmp n))) (f3 : ∀ e ∈ S, e ∈ ([] : List Ent) ∨ ∃ o ∈ quietL sp 0 ops, o.dst = some e.n) : RegI Tryz.prog ops.toArray Q a0 w := by
  simp only [Bool.and_eq_true] at hst
  obtain ⟨⟨⟨s1, s2⟩, s3⟩, s4⟩ := hst
  have hsub : ∀ o ∈ quietL sp 0 ops, o ∈ ops := fun o ho => by obtain ⟨k, hk, _⟩ := mem_quietL ho; exact List.mem_of_getElem? hk
  obtain ⟨hsp, hfin⟩ := hmix
  have fout : ∀ n, n ∉ dstsL ops → af.tmps[n]? = a0.tmps[n]? := fun n hn => f1 n fun hq => by
    obtain ⟨o, ho, hd⟩ := List.mem_filterMap.1 hq
    exact hn (mem_dsts (hsub o ho) hd)
  have fkey : ∀ e ∈ S, ∃ i o, ops[i]? = some o ∧ sp.contains i = false ∧ o.dst = some e.n := fun e he => by
    rcases f3 e he with hx | ⟨o, ho, hd⟩
    · cases hx
    · obtain ⟨k, hk, hsk⟩ := mem_quietL ho
      exact ⟨k, o, hk, by rw [Nat.zero_add] at hsk; exact hsk, hd⟩
  have dcase : ∀ m, m ∈ dstsL ops → ∃ (i : Nat) (o : Oper), ops[i]? = some o ∧ o.dst = some m := fun m hm => by
    obtain ⟨o, ho, hd⟩ := List.mem_filterMap.1 hm
    obtain ⟨i, hi⟩ := List.mem_iff_getElem?.1 ho
    exact ⟨i, o, hi, hd⟩
  refine ⟨MixI a0 af ops sp C J, ⟨hC, rfl, rfl, fun i o n _ _ hl _ => (by cases hl), fun _ _ => rfl, fun _ _ _ _ _ _ => rfl, ⟨_, hJ, fun i _ hl => (by cases hl), fun _ _ => rfl⟩⟩, ?_, ?_⟩
  · rintro i o L a w1 hop hLi hdep hcl M K hK
    rw [List.getElem?_toArray] at hop
    have hopA : ops.toArray[i]? = some o := by rw [List.getElem?_toArray]; exact hop
    obtain ⟨d1, d2⟩ := depB_spec s4 hopA
    have d1' : ∀ m ∈ o.looksAt ops.toArray, m ∈ dstsL ops → (∃ e ∈ o.after, Region.binds .any e = true ∧ (sp.contains i = false → sp.contains e.on = false) ∧ ∃ oj, ops[e.on]? = some oj ∧ oj.dst = some m) ∨ (sp.contains i = false ∧ befQ sp ops.toArray i m = true) := fun m hm hd => by
      have := d1 m hm hd
      simpa using this
    cases hspi : sp.contains i with
    | false =>
      have hq : o ∈ quietL sp 0 ops := quietL_mem (k := i) hop (by rw [Nat.zero_add]; exact hspi)
      have hlook : ∀ m ∈ o.looksAt ops.toArray, af.tmps[m]? = a.tmps[m]? := fun m hm => by
        by_cases hd : m ∈ dstsL ops
        · rcases d1' m hm hd with ⟨e, he, hb, hse, oj, hoj, hdj⟩ | ⟨_, hbf⟩
          · exact (M.q e.on oj m hoj (hse hspi) (hdep e he hb) hdj).symm
          · obtain ⟨j, oj, hoj, hdj, hsj, hlj⟩ := befQ_spec hbf
            have hoj' : ops[j]? = some oj := by simpa using hoj
            have hj : L j = false := by
              cases hq : L j with
              | false => rfl
              | true => have := hlj L hcl hq; rw [hLi] at this; cases this
            rw [M.nt j oj m hoj' hj hdj]
            refine f1 m fun hq => ?_
            obtain ⟨o', ho', hd'⟩ := List.mem_filterMap.1 hq
            obtain ⟨k, hk, hsk⟩ := mem_quietL ho'
            rw [Nat.zero_add] at hsk
            have := nod_unique s2 hk hoj' hd' hdj
            subst this
            rw [hsj] at hsk; cases hsk
        · rw [fout m hd, M.old m hd]
      obtain ⟨n, hdn⟩ : ∃ n, o.dst = some n := by
        cases hd : o.dst with
        | some n => exact ⟨n, rfl⟩
        | none =>
          exfalso
          have gen : ∀ l : List Oper, chkB ops.toArray l = true → o ∈ l → False := by
            intro l
            induction l with
            | nil => intro _ h; cases h
            | cons x l ih =>
              intro hc hm
              unfold chkB at hc
              simp only [Bool.and_eq_true] at hc
              rcases List.mem_cons.1 hm with rfl | hm
              · have := hc.1.1.2; rw [hd] at this; cases this
              · exact ih hc.2 hm
          exact gen _ s3 hq
      have hsel : selB o = true := by
        have gen : ∀ l : List Oper, chkB ops.toArray l = true → o ∈ l → selB o = true := by
          intro l
          induction l with
          | nil => intro _ h; cases h
          | cons x l ih =>
            intro hc hm
            unfold chkB at hc
            simp only [Bool.and_eq_true] at hc
            rcases List.mem_cons.1 hm with rfl | hm
            · exact hc.1.2
            · exact ih hc.2 hm
        exact gen _ s3 hq
      have hst := (f2 o hq n hdn).same hsel hlook
      have hlt : n < a.tmps.size := by
        rw [M.sz]
        have := List.all_eq_true.1 hz o (List.mem_of_getElem? hop)
        rw [hdn] at this
        exact of_decide_eq_true this
      have hval : af.tmps[n]? = some (af.eval (.tmp n)) := by
        have : n < af.tmps.size := by rw [I.size, ← M.sz]; exact hlt
        rw [eval_at, Array.getElem?_eq_getElem this]; rfl
      have next : ∀ w', C w' → R w1 w' → MixI a0 af ops sp C J (updL L i) (a.put o.dst (af.eval (.tmp n))) w' := fun w' hc' hr' => by
        rw [hdn]
        refine ⟨hc', M.df, by rw [put_size]; exact M.sz, fun j oj m hoj hsj hlj hdj => ?_, fun m hm => ?_, fun j oj m hoj hlj hdj => ?_, ?_⟩
        · by_cases e : m = n
          · subst e
            rw [put_self hlt, hval]
          · rw [put_at e]
            have hji : j ≠ i := fun e2 => by
              subst e2
              rw [hop] at hoj; cases hoj
              rw [hdn] at hdj; cases hdj; exact e rfl
            rw [updL_other hji] at hlj
            exact M.q j oj m hoj hsj hlj hdj
        · rw [put_at (fun e => hm (by rw [e]; exact mem_dsts (List.mem_of_getElem? hop) hdn))]
          exact M.old m hm
        · have hji : j ≠ i := fun e => by subst e; rw [updL_same] at hlj; cases hlj
          rw [updL_other hji] at hlj
          rw [put_at (fun e => hji (nod_unique s2 hoj hop hdj (by rw [e]; exact hdn)))]
          exact M.nt j oj m hoj hlj hdj
        · obtain ⟨s, j1, j2, j3⟩ := M.j
          refine ⟨s, hJR s w1 w' M.c j1 hr', fun j hsj hlj => ?_, fun j hlj => ?_⟩
          · have hji : j ≠ i := fun e => by subst e; rw [hspi] at hsj; cases hsj
            rw [updL_other hji] at hlj
            obtain ⟨v, v1, v2⟩ := j2 j hsj hlj
            refine ⟨v, v1, fun oj m hoj hdj => ?_⟩
            rw [put_at (fun e => hji (nod_unique s2 hoj hop hdj (by rw [e]; exact hdn)))]
            exact v2 oj m hoj hdj
          · have hji : j ≠ i := fun e => by subst e; rw [updL_same] at hlj; cases hlj
            rw [updL_other hji] at hlj
            exact j3 j hlj
      unfold StepOK at hst
      split at hst
      · rename_i hw
        rw [if_pos hw]
        refine wp_of_at (D := R w1) (fun w' hw' => ?_) (hst w1 (by
          obtain ⟨s, j1, _, j3⟩ := M.j
          exact hD i (List.getElem?_eq_some_iff.1 hop).1 hspi L s w1 hcl hLi j3 M.c j1))
        rcases hw' with rfl | hw'
        · exact hK _ _ (next _ M.c (hRd _ M.c))
        · exact hK _ _ (next _ (hR _ _ M.c hw') hw')
      · rename_i hw
        rw [if_neg hw]
        rw [← hst]
        exact hK _ _ (next _ M.c (hRd _ M.c))
    | true =>
      have hgd := d2 hspi
      rw [if_pos (by unfold Region.wanted; rw [hgd])]
      obtain ⟨s, j1, j2, j3⟩ := M.j
      refine (hsp.at (List.contains_iff_mem.1 hspi)) o a w1 s hop M.c j1 (j3 i hLi) (fun m hm e he hpe => ?_) (fun m hm => ?_) (fun e he hb hse => ?_) K fun v w' hc' hj' => hK _ _ ?_
      · obtain ⟨e1, e2⟩ := lookS_spec he
        obtain ⟨k, ok, hk, hsk, hdk⟩ := fkey e e1
        rw [e2] at hdk
        obtain ⟨e', he', hb', _, oj, hoj, hdj⟩ := (d1' m hm (mem_dsts (List.mem_of_getElem? hk) hdk)).resolve_right (fun h => by have := h.1; rw [hspi] at this; cases this)
        have hke : k = e'.on := nod_unique s2 hk hoj hdk hdj
        subst hke
        rw [eval_at, M.q e'.on oj m hoj hsk (hdep e' he' hb') hdj, ← eval_at, ← e2, I.val e e1]
        unfold valE; rw [hpe]; rfl
      · rw [eval_at, eval_at, M.old m hm]
      · obtain ⟨v, v1, v2⟩ := j2 e.on hse (hdep e he hb)
        exact ⟨v, v1, fun oj n hoj hdj => by rw [eval_at, v2 oj n hoj hdj]; rfl⟩
      · refine ⟨hc', by rw [put_defs]; exact M.df, by rw [put_size]; exact M.sz, fun j oj m hoj hsj hlj hdj => ?_, fun m hm => ?_, fun j oj m hoj hlj hdj => ?_, ?_⟩
        · have hji : j ≠ i := fun e2 => by subst e2; rw [hspi] at hsj; cases hsj
          rw [put_away (fun n hn e => hji (nod_unique s2 hoj hop hdj (by rw [e]; exact hn)))]
          rw [updL_other hji] at hlj
          exact M.q j oj m hoj hsj hlj hdj
        · rw [put_away (fun n hn e => hm (by rw [e]; exact mem_dsts (List.mem_of_getElem? hop) hn))]
          exact M.old m hm
        · have hji : j ≠ i := fun e => by subst e; rw [updL_same] at hlj; cases hlj
          rw [updL_other hji] at hlj
          rw [put_away (fun n hn e => hji (nod_unique s2 hoj hop hdj (by rw [e]; exact hn)))]
          exact M.nt j oj m hoj hlj hdj
        · refine ⟨updS s i v, hj', fun j hsj hlj => ?_, fun j hlj => ?_⟩
          · by_cases hji : j = i
            · subst hji
              refine ⟨v, updS_same _ _ _, fun oj n hoj hdj => ?_⟩
              rw [hop] at hoj; cases hoj
              rw [hdj]
              have := List.all_eq_true.1 hz o (List.mem_of_getElem? hop)
              rw [hdj] at this
              exact put_self (by rw [M.sz]; exact of_decide_eq_true this)
            · rw [updL_other hji] at hlj
              obtain ⟨v', v1, v2⟩ := j2 j hsj hlj
              refine ⟨v', by rw [updS_other hji]; exact v1, fun oj n hoj hdj => ?_⟩
              rw [put_away (fun n' hn e => hji (nod_unique s2 hoj hop hdj (by rw [e]; exact hn)))]
              exact v2 oj n hoj hdj
          · have hji : j ≠ i := fun e => by subst e; rw [updL_same] at hlj; cases hlj
            rw [updL_other hji] at hlj
            rw [updS_other hji]; exact j3 j hlj
  · intro L a w1 hall M
    have hall' : ∀ i o, ops[i]? = some o → L i = true := fun i o hi => hall i (by simpa using (List.getElem?_eq_some_iff.1 hi).1)
    obtain ⟨s, j1, j2, _⟩ := M.j
    have agree : ∀ m, m ∉ spD sp 0 ops → af.tmps[m]? = a.tmps[m]? := fun m hm => by
      by_cases hd : m ∈ dstsL ops
      · obtain ⟨i, o, hi, hdi⟩ := dcase m hd
        have hspi : sp.contains i = false := by
          cases hq : sp.contains i with
          | false => rfl
          | true => exact absurd (spD_mem (i := 0) hi (by rw [Nat.zero_add]; exact hq) hdi) hm
        exact (M.q i o m hi hspi (hall' i o hi) hdi).symm
      · rw [fout m hd, M.old m hd]
    have h1 := hfin (fun n => a.eval (.tmp n)) s (fun i hi o ho => by
      obtain ⟨v, v1, v2⟩ := j2 i hi (hall' i o ho)
      exact ⟨v, v1, fun n hn => by rw [eval_at, v2 o n ho hn]; rfl⟩)
    obtain ⟨⟨l⟩, d⟩ := a0
    dsimp only at h1
    have h2 := finS_eq (H := H) S l _ (fun e he => by
      obtain ⟨k, ok, hk, hsk, hdk⟩ := fkey e he
      rw [eval_at, M.q k ok e.n hk hsk (hall' k ok hk) hdk, ← eval_at]
      exact I.val e he) h1
    rw [setsN_eq] at h2
    have e1 : S.foldr (fun e l => l.set e.n (valE E H e)) l = af.tmps.toList := I.lst.symm
    rw [e1] at h2
    have e2 : (spD sp 0 ops).foldr (fun n l => l.set n (a.eval (.tmp n))) af.tmps.toList = a.tmps.toList := by
      refine get_sets (f := fun n => a.eval (.tmp n)) (by rw [Array.length_toList, Array.length_toList, I.size, M.sz]) (fun n hn => ?_) (fun m hm => ?_)
      · obtain ⟨k, o, hk, hsk, hdk⟩ := mem_spD hn
        rw [Nat.zero_add] at hsk
        obtain ⟨v, v1, v2⟩ := j2 k hsk (hall' k o hk)
        rw [Array.getElem?_toList, eval_at, v2 o n hk hdk]; rfl
      · rw [Array.getElem?_toList, Array.getElem?_toList]; exact agree m hm
    rw [e2] at h2
    have e3 : (⟨a.tmps.toList.toArray, d⟩ : Act) = a := by
      have h4 := M.df
      dsimp only at h4
      rw [← h4]
    rw [e3] at h2
    exact h2 w1 M.c j1
theorem mix_coreD {id : Nat} {Q : Exit → Act → World → Prop} {w : World} {ops : List Oper} (sp : List Nat) (E : List Ob) (C : World → Prop) (R : World → World → Prop) (outs : List (Nat × Value))
    (J : (Nat → Option Value) → World → Prop)
    (hz : (ops.all fun o => match o.dst with | some n => decide (n < a0.tmps.size) | none => true) = true) (hm : Tryz.prog.follows .mixedOrders = true)
    (hst : (ordB ops.toArray && nodB (dstsL ops) && chkB ops.toArray (quietL sp 0 ops) && depB sp ops.toArray) = true)
    (D : World → Prop) (hD : ∀ i, i < ops.length → sp.contains i = false → ∀ L s u, ClosedL ops.toArray L → L i = false → (∀ j, L j = false → s j = none) → C u → J s u → D u) (hC : C w.drew) (hJ : J (fun _ => none) w.drew) (hR : ∀ w w', C w → R w w' → C w') (hRd : ∀ w, C w → R w w) (hJR : ∀ s w w', C w → J s w → R w w' → J s w')
    {S : List Ent} {H : List (Nat × Bool)} {af : Act} (I : InvQ a0 af E S H) (hmix : evMix a0 E C J sp ops outs Q S) (f1 : ∀ n, n ∉ dstsL (quietL sp 0 ops) → af.tmps[n]? = a0.tmps[n]?)
    (f2 : ∀ o ∈ quietL sp 0 ops, ∀ n, o.dst = some n → StepOK ops.toArray D R o af (af.eval (.tmp n))) (f3 : ∀ e ∈ S, e ∈ ([] : List Ent) ∨ ∃ o ∈ quietL sp 0 ops, o.dst = some e.n) : (Code.region id ops.toArray true).wp Tryz.prog Q a0 w := by
  have hst' := hst
  simp only [Bool.and_eq_true] at hst'
  exact (mix_coreI sp E C R outs J hz hst D hD hC hJ hR hRd hJR I hmix f1 f2 f3).wp hm hst'.1.1.1
theorem mix_core {id : Nat} {Q : Exit → Act → World → Prop} {w : World} {ops : List Oper} (sp : List Nat) (E : List Ob) (C : World → Prop) (R : World → World → Prop) (outs : List (Nat × Value))
    (J : (Nat → Option Value) → World → Prop)
    (hz : (ops.all fun o => match o.dst with | some n => decide (n < a0.tmps.size) | none => true) = true) (hm : Tryz.prog.follows .mixedOrders = true)
    (hst : (ordB ops.toArray && nodB (dstsL ops) && chkB ops.toArray (quietL sp 0 ops) && depB sp ops.toArray) = true)
    (hC : C w.drew) (hJ : J (fun _ => none) w.drew) (hR : ∀ w w', C w → R w w' → C w') (hRd : ∀ w, C w → R w w) (hJR : ∀ s w w', C w → J s w → R w w' → J s w')
    {S : List Ent} {H : List (Nat × Bool)} {af : Act} (I : InvQ a0 af E S H) (hmix : evMix a0 E C J sp ops outs Q S) (f1 : ∀ n, n ∉ dstsL (quietL sp 0 ops) → af.tmps[n]? = a0.tmps[n]?)
    (f2 : ∀ o ∈ quietL sp 0 ops, ∀ n, o.dst = some n → StepOK ops.toArray C R o af (af.eval (.tmp n))) (f3 : ∀ e ∈ S, e ∈ ([] : List Ent) ∨ ∃ o ∈ quietL sp 0 ops, o.dst = some e.n) : (Code.region id ops.toArray true).wp Tryz.prog Q a0 w :=
  mix_coreD sp E C R outs J hz hm hst C (fun _ _ _ _ _ _ _ _ _ h _ => h) hC hJ hR hRd hJR I hmix f1 f2 f3
/-- a region that draws its order, with some special operations -/
theorem wp_region_mix {id : Nat} {Q : Exit → Act → World → Prop} {w : World} {ops : List Oper} (sp : List Nat) (T : QTab) (hT : T.Ok) (E : List Ob) (C : World → Prop) (R : World → World → Prop) (ps : List (Nat × Nat)) (hs : List (Nat × Hint)) (outs : List (Nat × Value))
    (J : (Nat → Option Value) → World → Prop)
    (hz : (ops.all fun o => match o.dst with | some n => decide (n < a0.tmps.size) | none => true) = true) (hm : Tryz.prog.follows .mixedOrders = true)
    (hst : (ordB ops.toArray && nodB (dstsL ops) && chkB ops.toArray (quietL sp 0 ops) && depB sp ops.toArray) = true)
    (hC : C w.drew) (hJ : J (fun _ => none) w.drew) (hE : ObsIn C E) (P : psOk a0 E ps) (hR : ∀ w w', C w → R w w' → C w') (hRd : ∀ w, C w → R w w) (hJR : ∀ s w w', C w → J s w → R w w' → J s w')
    (h : evL a0 ps T E C R hs ops (evMix a0 E C J sp ops outs Q) (quietL sp 0 ops) []) : (Code.region id ops.toArray true).wp Tryz.prog Q a0 w := by
  have hst' := hst
  simp only [Bool.and_eq_true] at hst'
  obtain ⟨⟨⟨s1, s2⟩, s3⟩, s4⟩ := hst'
  have hsub : ∀ o ∈ quietL sp 0 ops, o ∈ ops := fun o ho => by obtain ⟨k, hk, _⟩ := mem_quietL ho; exact List.mem_of_getElem? hk
  obtain ⟨S, H, af, I, hmix, f1, f2, f3⟩ := evL_fin P hT hE hz _ [] [] a0 hsub s3 InvQ.start h
  exact mix_core sp E C R outs J hz hm hst hC hJ hR hRd hJR I hmix f1 f2 f3
end
end Go.Proofs.YtfmhickjefogdaaGreat
