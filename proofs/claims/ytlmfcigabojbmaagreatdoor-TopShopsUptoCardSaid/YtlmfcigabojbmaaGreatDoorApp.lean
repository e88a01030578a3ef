/- The builtin append onto a row of integers that the call owns, of whatever slice of integers; slices.Clone. -/
import Derived.Test.YtlmfcigabojbmaaGreatDoorOwn
import Derived.Maps.AppendAt
import Derived.Lib.SliceRun
set_option linter.unusedSimpArgs false
set_option linter.unusedVariables false
namespace Go.Proofs.YtlmfcigabojbmaaGreatDoor
open Go.RowKit

theorem run_append_zero {P : Program} {w : World} {base : Nat} {e : TypeId} {size : Nat} {v : Value} {n : Nat} {xs : List Value} (t ty : TypeId) (i : TypeInfo) (ht : P.underlying t = some (.slice e)) (hi : P.info? e = some i)
    (hown : w.ownsRow base e size v n xs) (c : Nat) : (Builtin.append_ #[t, t] ty #[v, .slice none 0 c]).run P w = .ok v w := by
  rcases hown.2 with ⟨rfl, rfl⟩ | ⟨g, cap, cur, rfl, _, _, hnc, _⟩
  · simp [Builtin.append_, run_underlying ht, sizeOf, typeInfo, hi, Builtin.lenOf, Builtin.firstCells]
  · simp [Builtin.append_, run_underlying ht, sizeOf, typeInfo, hi, Builtin.lenOf, Builtin.firstCells, hnc, storeCells]

theorem run_app_int {w : World} {B : Nat} {v u : Value} {r xs : List Int} (ty : TypeId) (hown : OwnI w B v r) (hs : SI w u xs) (hlen : r.length + xs.length ≤ 100000000) (hb : B ≤ w.heap.size) :
    ∃ v' w', (Builtin.append_ #[81, 81] ty #[v, u]).run Tryz.prog w = .ok v' w' ∧ OwnI w' B v' (r ++ xs) ∧ w.grownBy w' v.ownBlock ∧ (v'.ownBlock = v.ownBlock ∨ v'.ownBlock = some w.heap.size) := by
  obtain ⟨i, hi, hz0, hz1, hz2⟩ := info_parts Tryz_infoInt
  obtain ⟨a, cap, rfl, h1, h2, h3⟩ := hs
  have hown' : w.ownsRow B 3 1 v r.length (r.map (Value.int .i64)) := hown
  cases a with
  | none =>
    have hx : xs = [] := by
      cases xs with
      | nil => rfl
      | cons x xs => obtain ⟨b, off, ha, _⟩ := h3 0 (by simp); cases ha
    subst hx
    refine ⟨v, w, run_append_zero _ _ i Tryz.underlying81 hi hown' cap, by simpa using hown, World.grownBy.refl _ _, .inl rfl⟩
  | some ad =>
    have hnews : ∀ j x, (xs.map (Value.int .i64))[j]? = some x → w.cell? (ad.add j) = some x := by
      intro j x hj
      have hjl : j < xs.length := by
        have := (List.getElem?_eq_some_iff.1 hj).1; simpa using this
      obtain ⟨b, off, ha, hc⟩ := h3 j hjl
      simp at ha
      subst ha
      have hadd : (⟨b, off, none⟩ : Addr).add j = ⟨b, off + j, none⟩ := by unfold Addr.add; split <;> simp_all
      rw [hadd, hc]
      simp [hjl] at hj
      dsimp only
      rw [← hj, gi_lt hjl]
    obtain ⟨v', w', hr, ho, hg, _, hat⟩ := run_append_own_at (P := Tryz.prog) w B 81 ty 3 i (.int .i64 0) 1 8 Tryz.underlying81 hi hz0 hz1 hz2 rfl (by decide) v r.length (r.map (Value.int .i64)) hown' ad xs.length cap (xs.map (Value.int .i64)) (by simp) hnews (ints_oneCell _ _)
      (by unfold maxLen; omega) (by omega) hb
    refine ⟨v', w', hr, ?_, hg, hat⟩
    unfold OwnI
    rw [List.length_append, List.map_append]
    exact ho

theorem wp_app_int {o : Oper} {a : Act} {K : Act → World → Prop} {Q : Exit → Act → World → Prop} {w : World} (s x : Operand)
    (ho : o.op = .call { callee := .builtin .append, args := #[s, x], argTypes := #[81, 81] })
    (B : Nat) (v u : Value) (r xs : List Int) (hs : a.eval s = v) (hx : a.eval x = u) (hown : OwnI w B v r) (hsrc : SI w u xs) (hlen : r.length + xs.length ≤ 100000000) (hb : B ≤ w.heap.size)
    (h : ∀ v' w', OwnI w' B v' (r ++ xs) → w.grownBy w' v.ownBlock → (v'.ownBlock = v.ownBlock ∨ v'.ownBlock = some w.heap.size) → K (a.put o.dst v') w') : o.wp Tryz.prog a w K Q := by
  obtain ⟨v', w', hr, h2, h3, h4⟩ := run_app_int o.type hown hsrc hlen hb
  unfold Oper.wp execOp
  simp only [ho, resolve, invoke, builtin, Sem.run_bind, Sem.run_pure, Result.andThen_ok, List.map_toArray, List.map_cons, List.map_nil, hs, hx, hr]
  exact h v' w' h2 h3 h4

theorem wpList_app_int {ops : Array Oper} {rest : List Oper} {o : Oper} {a : Act} {Q : Exit → Act → World → Prop} {w : World} (hw : Region.wanted o (yielded ops a.tmps) = true) (s x : Operand)
    (ho : o.op = .call { callee := .builtin .append, args := #[s, x], argTypes := #[81, 81] })
    (B : Nat) (v u : Value) (r xs : List Int) (hs : a.eval s = v) (hx : a.eval x = u) (hown : OwnI w B v r) (hsrc : SI w u xs) (hlen : r.length + xs.length ≤ 100000000) (hb : B ≤ w.heap.size)
    (h : ∀ v' w', OwnI w' B v' (r ++ xs) → w.grownBy w' v.ownBlock → (v'.ownBlock = v.ownBlock ∨ v'.ownBlock = some w.heap.size) → wpList Tryz.prog ops Q rest (a.put o.dst v') w') : wpList Tryz.prog ops Q (o :: rest) a w :=
  wpList_step fun K hK => by
    rw [if_pos hw]
    exact wp_app_int s x ho B v u r xs hs hx hown hsrc hlen hb fun v' w' a1 a2 a3 => hK _ _ (h v' w' a1 a2 a3)

/-- the one element of a literal slice -/
theorem SI_one (w : World) (x : Int) (e : TypeId) : SI (w.alloc (.cells #[.int .i64 x] e)) (.slice (some ⟨w.heap.size, 0, none⟩) 1 1) [x] := by
  refine ⟨_, 1, rfl, Nat.le_refl _, by unfold maxLen; omega, fun i hi => ⟨w.heap.size, 0, rfl, ?_⟩⟩
  have : i = 0 := by simpa using hi
  subst this
  simp [gi]
theorem OwnI_empty (w : World) (B : Nat) (h : B ≤ w.heap.size) : OwnI (w.alloc (.cells #[] 3)) B (.slice (some ⟨w.heap.size, 0, none⟩) 0 0) [] :=
  World.ownsRow_lit w #[] 0 h (Nat.zero_le _) rfl
theorem OwnI.alloc {w : World} {B : Nat} {v : Value} {r : List Int} (h : OwnI w B v r) (o : Obj) : OwnI (w.alloc o) B v r := World.ownsRow.alloc h o
theorem OwnI.si {w : World} {B : Nat} {v : Value} {r : List Int} (h : OwnI w B v r) : SI w v r := SI_of_owns h
theorem OwnI.mono {w : World} {B B' : Nat} {v : Value} {r : List Int} (h : OwnI w B v r) (hb : B' ≤ B) : OwnI w B' v r := owns_mono h hb
theorem SI.alloc {w : World} {v : Value} {xs : List Int} (h : SI w v xs) (o : Obj) : SI (w.alloc o) v xs := h.keep ((Below.refl _ _).alloc (Nat.le_refl _) _)

/-- It returns a new row of integers. -/
def RetOwn (w : World) (xs : List Int) (e : Ending) (w' : World) : Prop := ∃ v, e = .returned v ∧ OwnI w' w.heap.size v xs ∧ Below w.heap.size w w'

end Go.Proofs.YtlmfcigabojbmaaGreatDoor
