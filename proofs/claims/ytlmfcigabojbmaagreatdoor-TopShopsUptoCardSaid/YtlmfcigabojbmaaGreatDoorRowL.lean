/- The frame of rows whose program has laid variables: a wrap that hands the contract what the row lays and the world's shape; arguments opened: structs, slices of structs, numbers. -/
import Derived.Test.YtlmfcigabojbmaaGreatDoorBase
import Derived.Test.YtlmfcigabojbmaaGreatDoorCards
import Derived.Test.YtlmfcigabojbmaaGreatDoorTie
import Derived.ProofKit
import Derived.OpenShut
import Derived.ChangeOld
import Derived.Below
import Derived.Carry
import Derived.ChangeMaps5
import Derived.SliceStrings
import Derived.LaidMore
import Derived.Lay
import Derived.SevenTiedAt
import Derived.Stop.Joined
import Derived.HandedShaped
import Derived.Shelf.Vars
import Derived.Deep.Slices
import Derived.ChangeArms
import Derived.LaidSub
import Derived.Lib.LaidTab
import Derived.Stop.LaidErr
set_option linter.unusedSimpArgs false
set_option linter.unusedVariables false
namespace Go.Proofs.YtlmfcigabojbmaaGreatDoor
open Go.ChangeShapes Go.WideShapes Go.ChangeAt Go.RowKit Go.Deep

theorem own : ownKnob Tryz.prog.godebug = none := by kernel_rfl
theorem laidOut : laidOutB Tryz.prog = true := by kernel_rfl
section
variable {H : Type} {enc : TypeId × Value → H}
theorem returns_row {a : Assume} {C : Checked} {os : Os} {f : FuncId} {fn : Func} {s : ChangeSpec} {conds : List PathCond} {apart fresh handsOn again : Bool} {X : World → Array Value → Prop}
    (hX : ∀ (w w' : World) (args : Array Value), w.heap = w'.heap → X w args → X w' args)
    (own : ownKnob C.prog.godebug = none) (started : os.Started) (noInit : C.prog.inits.idxOf? f = none) (hfn : C.prog.funcs[f]? = some fn)
    (witness : ∃ (w : World) (tape : Tape) (i : Input), w.os = os ∧ (w.forCall tape i).Shaped C.prog ∧ i.vars = [] ∧ Input.okWide C.prog (w.forCall tape i) .any w.heap.size f i ∧
      ((s.pre enc C.prog fn conds apart (w.forCall tape i).memory i.args ∧ X (w.forCall tape i).memory i.args) ∧ sizedMet enc C.prog fn (OpenSpec.ofChange s) apart (w.forCall tape i).memory i.args) ∧ a.holds C.prog (lone (Frame.enter C.prog f i.args .normal) [] (w.forCall tape i)))
    (contract : ∀ (W : World) (base : Nat) (args : Array Value) (ds gs : List (DataW H)) (before : List MemPlace),
      (∀ (j : Nat) t v, fn.params[j]? = some t → args[j]? = some v → Value.okWide C.prog W .any base t v) →
      DataW.Whole enc C.prog fn.params.toList s.vars apart W args.toList ds gs before → X W args → W.ShapedOpen C.prog →
      Calls C.prog f args W fun e W' => ∃ v, e = .returned v ∧ s.post enc C.prog fn apart fresh handsOn again W args v W') :
    ReturnsInHanded a C os f .any (fun w args => (s.pre enc C.prog fn conds apart w args ∧ X w args) ∧ sizedMet enc C.prog fn (OpenSpec.ofChange s) apart w args) (s.post enc C.prog fn apart fresh handsOn again) := by
  refine returnsInHanded_of_calls own started noInit witness ?_
  intro w tape i _ hsh _ hok hpre _
  obtain ⟨_, _, _, fn', hfn', _, _, _, _, hval⟩ := hok
  have e : fn' = fn := Option.some.inj (hfn'.symm.trans hfn)
  subst e
  obtain ⟨⟨⟨ds, gs, before, hw, _⟩, hx⟩, _⟩ := hpre
  have hw' := DataW.Whole.of_heap (w' := w.forCall tape i) (by rfl) hw
  refine (contract (w.forCall tape i) w.heap.size i.args ds gs before hval hw' (hX _ _ _ (by rfl) hx) hsh).mono fun e W' ⟨v, he, hp⟩ => ?_
  subst he
  exact ChangeSpec.post_blind hp
end
theorem Sl_of {w : World} {a : Addr} {n cap : Nat} {C : Nat → Value} (h1 : n ≤ cap) (h2 : cap ≤ maxLen) (h : ∀ i, i < n → w.cell? (a.add i) = some (C i)) : Sl w (.slice (some a) n cap) n C := by
  refine ⟨some a, cap, rfl, h1, h2, fun i hi => ?_⟩
  obtain ⟨b, off, spot⟩ := a
  have h0 := h 0 (by omega)
  have hs : spot = none := by simpa [Addr.add] using World.cell?_spot h0
  subst hs
  refine ⟨b, off, rfl, ?_⟩
  have := h i hi
  rwa [show (⟨b, off, none⟩ : Addr).add i = ⟨b, off + i, none⟩ by unfold Addr.add; split <;> simp_all] at this
theorem SI_of {w : World} {a : Addr} {n cap : Nat} {zs : List Int} (h1 : n ≤ cap) (h2 : cap ≤ maxLen) (hz : zs.length = cap) (h : ∀ i, i < cap → w.cell? (a.add i) = some (.int .i64 (zs.getD i 0))) : SI w (.slice (some a) n cap) (zs.take n) := by
  have hl : (zs.take n).length = n := by simp; omega
  unfold SI
  rw [hl]
  exact Sl_of h1 h2 fun i hi => by rw [h i (by omega), gi_take hi]; rfl

/-- the types of the cells of a type's fields, if they lie one behind the other -/
def fieldsOf (P : Program) (L : TypeId → Option (List TypeId)) : List Field → Nat → Option (List TypeId)
  | [], _ => some []
  | f :: r, off => if f.offset = off then
      match L f.type with
      | some l => if P.cellsOf f.type = l.length then (fieldsOf P L r (off + l.length)).map (l ++ ·) else none
      | none => none
    else none
def leavesOf (P : Program) : Nat → TypeId → Option (List TypeId)
  | 0, _ => none
  | n + 1, t => match P.underlying t with
    | some (.struct fs) => fieldsOf P (leavesOf P n) fs.toList 0
    | some _ => some [t]
    | none => none

section
variable {H : Type} {enc : TypeId × Value → H} {P : Program} {w : World} {base : Nat} {spare : Nat → Bool} {held : Bool}

theorem fields_trod {L : TypeId → Option (List TypeId)} {m : Nat} {cs : List Value}
    (hL : ∀ (t : TypeId) (ls : List TypeId) (cs' : List Value) (x : DataW H × List MemPlace), L t = some ls → DataW.trod enc P w base spare held m t cs' = some x → cs'.length = ls.length → ∀ (i : Nat) (t' : TypeId), ls[i]? = some t' → ∃ v n y, cs'[i]? = some v ∧ DataW.trod enc P w base spare held n t' [v] = some y) :
    ∀ (fs : List Field) (off : Nat) (ls : List TypeId), fieldsOf P L fs off = some ls → off + ls.length ≤ cs.length →
    (∀ (i : Nat) (f : Field), fs[i]? = some f → ∃ x, DataW.trod enc P w base spare held m f.type ((cs.drop f.offset).take (P.cellsOf f.type)) = some x) →
    ∀ (i : Nat) (t' : TypeId), ls[i]? = some t' → ∃ v n y, cs[off + i]? = some v ∧ DataW.trod enc P w base spare held n t' [v] = some y := by
  intro fs
  induction fs with
  | nil => intro off ls h _ _ i t' hi; simp only [fieldsOf, Option.some.injEq] at h; subst h; simp at hi
  | cons f r ih =>
    intro off ls h hlen hf i t' hi
    unfold fieldsOf at h
    by_cases ho : f.offset = off
    · rw [if_pos ho] at h
      cases hl : L f.type with
      | none => simp [hl] at h
      | some l =>
        rw [hl] at h
        simp only at h
        by_cases hc : P.cellsOf f.type = l.length
        · rw [if_pos hc] at h
          cases hr : fieldsOf P L r (off + l.length) with
          | none => simp [hr] at h
          | some lr =>
            rw [hr] at h
            simp only [Option.map_some, Option.some.injEq] at h
            subst h
            rw [List.length_append] at hlen
            by_cases hil : i < l.length
            · obtain ⟨x, hx⟩ := hf 0 f rfl
              rw [ho, hc] at hx
              rw [List.getElem?_append_left hil] at hi
              obtain ⟨v, n, y, hv, hy⟩ := hL f.type l _ x hl hx (by simp; omega) i t' hi
              refine ⟨v, n, y, ?_, hy⟩
              rw [List.getElem?_take, if_pos hil, List.getElem?_drop] at hv
              exact hv
            · rw [List.getElem?_append_right (by omega)] at hi
              obtain ⟨v, n, y, hv, hy⟩ := ih (off + l.length) lr hr (by omega) (fun j g hg => hf (j + 1) g (by simpa using hg)) (i - l.length) t' hi
              refine ⟨v, n, y, ?_, hy⟩
              rw [show off + i = off + l.length + (i - l.length) by omega]; exact hv
        · rw [if_neg hc] at h; cases h
    · rw [if_neg ho] at h; cases h

/-- the leaves of what was trod -/
theorem trod_leaves : ∀ (n : Nat) (t : TypeId) (ls : List TypeId), leavesOf P n t = some ls → ∀ (fuel : Nat) (cs : List Value) (x : DataW H × List MemPlace), DataW.trod enc P w base spare held fuel t cs = some x → cs.length = ls.length →
    ∀ (i : Nat) (t' : TypeId), ls[i]? = some t' → ∃ v m y, cs[i]? = some v ∧ DataW.trod enc P w base spare held m t' [v] = some y := by
  intro n
  induction n with
  | zero => intro t ls h; simp [leavesOf] at h
  | succ n ih =>
    intro t ls h fuel cs x hx hlen i t' hi
    unfold leavesOf at h
    split at h
    · rename_i fs hs
      obtain ⟨xs, m, _, _, _, hxl, hg⟩ := DataW.trod_struct hs hx
      have := fields_trod (enc := enc) (P := P) (w := w) (base := base) (spare := spare) (held := held) (L := leavesOf P n) (m := m) (cs := cs) (fun t ls cs' x h1 h2 h3 => ih t ls h1 m cs' x h2 h3) fs.toList 0 ls h (by omega) (fun j f hj => by
        have hj' : fs[j]? = some f := by simpa using hj
        have := hg j f hj'
        have hjl : j < fs.size := (Array.getElem?_eq_some_iff.1 hj').1
        exact ⟨_, this.trans (List.getElem?_eq_getElem (by omega))⟩) i t' hi
      rwa [Nat.zero_add] at this
    · simp only [Option.some.injEq] at h
      subst h
      match cs, hlen with
      | [v], _ =>
        match i, hi with
        | 0, hi => simp only [List.getElem?_cons_zero, Option.some.injEq] at hi; subst hi; exact ⟨v, fuel, x, rfl, hx⟩
    · cases h

/-- a struct by value: its cells -/
theorem open_leaves {n : Nat} {t : TypeId} {ls : List TypeId} {fs : Array Field} {r : Reach} {b0 : Nat} {v : Value} {d : DataW H} {p : List MemPlace} (hs : P.underlying t = some (.struct fs)) (hl : leavesOf P n t = some ls) (hC : P.cellsOf t = ls.length)
    (hv : Value.okWide P w r b0 t v) (h : DataW.Trod enc P w base spare held t v d p) :
    ∃ cs : Array Value, v = .agg cs ∧ cs.size = ls.length ∧ ∀ (i : Nat) (t' : TypeId), ls[i]? = some t' → ∃ u m y, cs[i]? = some u ∧ DataW.trod enc P w base spare held m t' [u] = some y := by
  obtain ⟨cs, rfl, hsz⟩ := okWide_struct hs hv
  obtain ⟨fuel, hf⟩ := h
  refine ⟨cs, rfl, hsz.trans hC, fun i t' hi => ?_⟩
  obtain ⟨u, m, y, h1, h2⟩ := trod_leaves n t ls hl fuel cs.toList (d, p) hf (by simpa using hsz.trans hC) i t' hi
  exact ⟨u, m, y, by simpa using h1, h2⟩

/-- n structs of k cells each: cell j of struct i holds C i j -/
def SR (w : World) (v : Value) (n k : Nat) (C : Nat → Nat → Value) : Prop :=
  ∃ a cap, v = .slice a n cap ∧ n ≤ cap ∧ cap ≤ maxLen ∧ ∀ i, i < n → ∃ b off, a = some ⟨b, off, none⟩ ∧ ∀ j, j < k → w.cell? ⟨b, off + i * k + j, none⟩ = some (C i j)

/-- a slice of structs -/
theorem open_rows {n : Nat} {t e : TypeId} {ls : List TypeId} {fuel : Nat} {cs : List Value} {x : DataW H × List MemPlace} (ht : P.underlying t = some (.slice e)) (hl : leavesOf P n e = some ls) (hC : P.cellsOf e = ls.length) (hpos : 0 < ls.length)
    (h : DataW.trod enc P w base spare held fuel t cs = some x) :
    ∃ (v : Value) (m : Nat) (C : Nat → Nat → Value), cs = [v] ∧ SR w v m ls.length C ∧ ∀ i, i < m → ∀ (j : Nat) (t' : TypeId), ls[j]? = some t' → ∃ q y, DataW.trod enc P w base spare held q t' [C i j] = some y := by
  rcases open_slice ht h with ⟨h0, _⟩ | ⟨a, len, cap, m, q, D, Pl, hcs, hb, hle, hm, hmm, hx, hi⟩
  · exact ⟨_, 0, fun _ _ => undef, h0, ⟨none, 0, rfl, Nat.le_refl _, Nat.zero_le _, fun i hi => by omega⟩, fun i hi => by omega⟩
  · have hlm : len ≤ m := by rw [hmm]; split <;> omega
    have key : ∀ i, i < m → ∀ (j : Nat) (t' : TypeId), ls[j]? = some t' → ∃ u q y, w.cell? (a.add (i * ls.length + j)) = some u ∧ DataW.trod enc P w base spare held q t' [u] = some y := by
      intro i him j t' hj
      obtain ⟨cs', hc, ht'⟩ := hi i him
      rw [hC] at hc
      obtain ⟨_, hcl, hat⟩ := World.cells?_some hc
      obtain ⟨u, q', y, h1, h2⟩ := trod_leaves n e ls hl q cs' _ ht' hcl j t' hj
      have hjl : j < ls.length := (List.getElem?_eq_some_iff.1 hj).1
      refine ⟨u, q', y, ?_, h2⟩
      rw [← Go.Deep.add_add, hat j hjl, h1]
    refine ⟨_, len, fun i j => (w.cell? (a.add (i * ls.length + j))).getD undef, hcs, ⟨some a, cap, rfl, hle, hm, fun i hil => ?_⟩, fun i hil j t' hj => ?_⟩
    · have k0 := key 0 (by omega) 0 _ (List.getElem?_eq_getElem hpos)
      obtain ⟨u0, _, _, h0, _⟩ := k0
      obtain ⟨b, off, spot⟩ := a
      have hsp : spot = none := by simpa [Addr.add] using World.cell?_spot h0
      subst hsp
      refine ⟨b, off, rfl, fun j hj => ?_⟩
      obtain ⟨u, _, _, hu, _⟩ := key i (by omega) j _ (List.getElem?_eq_getElem hj)
      have hadd : (⟨b, off, none⟩ : Addr).add (i * ls.length + j) = ⟨b, off + i * ls.length + j, none⟩ := by unfold Addr.add; simp [Nat.add_assoc]
      dsimp only
      rw [← hadd, hu]; rfl
    · obtain ⟨u, q', y, h1, h2⟩ := key i (by omega) j t' hj
      exact ⟨q', y, by dsimp only; rw [h1]; exact h2⟩
end

theorem SR.keep {w w' : World} {v : Value} {n k : Nat} {C : Nat → Nat → Value} (h : SR w v n k C) (hb : Below w.heap.size w w') : SR w' v n k C := by
  obtain ⟨a, cap, rfl, h1, h2, h3⟩ := h
  refine ⟨a, cap, rfl, h1, h2, fun i hi => ?_⟩
  obtain ⟨b, off, ha, hc⟩ := h3 i hi
  exact ⟨b, off, ha, fun j hj => cell_keep hb (hc j hj)⟩

section
variable {H : Type} {enc : TypeId × Value → H} {W : World}
theorem ints_trod {fuel : Nat} {v : Value} {x : DataW H × List MemPlace} (h : DataW.trod enc Tryz.prog W 0 (fun _ => true) true fuel 81 [v] = some x) : ∃ xs, SI W v xs ∧ ∀ x ∈ xs, (Lit.int .i64 x).wf = true := by
  rcases open_ints Tryz.underlying81 Tryz.underlying3 (by kernel_rfl) h with ⟨hcs, _⟩ | ⟨x, l, c', zs, hcs, _, hl, hm, hz, _, hcell, hwz⟩
  · simp at hcs
    subst hcs
    exact ⟨[], SI_nil _, by simp⟩
  · simp at hcs
    subst hcs
    have hz' : zs.length = c' := by simpa using hz
    exact ⟨zs.take l, SI_of hl hm hz' (fun i hi => hcell i (by omega)), fun x hx => hwz x (List.mem_of_mem_take hx)⟩
theorem int_trod {fuel : Nat} {t : TypeId} {v : Value} {x : DataW H × List MemPlace} {k : IntKind} (ht : Tryz.prog.underlying t = some (.int k)) (h : DataW.trod enc Tryz.prog W 0 (fun _ => true) true fuel t [v] = some x) : ∃ n, v = .int k n ∧ (Lit.int k n).wf = true := by
  obtain ⟨n, h1, _, h2⟩ := DataW.trod_int ht h
  simp at h1
  exact ⟨n, h1, h2⟩
theorem str_trod {fuel : Nat} {t : TypeId} {v : Value} {x : DataW H × List MemPlace} (ht : Tryz.prog.underlying t = some .string) (h : DataW.trod enc Tryz.prog W 0 (fun _ => true) true fuel t [v] = some x) : ∃ s, v = .string s ∧ s.size ≤ maxLen := by
  obtain ⟨n, h1, _, h2⟩ := DataW.trod_string ht h
  simp at h1
  exact ⟨n, h1, h2⟩
theorem slice_trod {fuel : Nat} {t e : TypeId} {v : Value} {x : DataW H × List MemPlace} (ht : Tryz.prog.underlying t = some (.slice e)) (h : DataW.trod enc Tryz.prog W 0 (fun _ => true) true fuel t [v] = some x) : ∃ a n c, v = .slice a n c := by
  rcases open_slice ht h with ⟨h0, _⟩ | ⟨a, len, cap, m, q, D, Pl, hcs, _⟩
  · simp at h0; exact ⟨_, _, _, h0⟩
  · simp at hcs; exact ⟨_, _, _, hcs⟩
end
end Go.Proofs.YtlmfcigabojbmaaGreatDoor
