/- The arguments of the law, opened: a design, materials, a hall, and how long their names are (printed by wip/gen_schfr.py). -/
import Derived.Test.YtfpnjbomlmhlpaaGreatPk00
import Derived.Test.YtfpnjbomlmhlpaaGreatRows
import Derived.ProofKit
import Derived.OpenShut
import Derived.ChangeOld
import Derived.Below
import Derived.Carry
import Derived.ChangeMaps5
import Derived.SliceStrings
import Derived.LaidMore
import Derived.Lay
import Derived.SevenTiedAt
import Derived.Stop.Joined
import Derived.HandedShaped
import Derived.Shelf.Vars
import Derived.Deep.Slices
import Derived.ChangeArms
import Derived.LaidSub
import Derived.Lib.LaidTab
import Derived.Stop.LaidErr
import Derived.Test.YtfpnjbomlmhlpaaGreatPk24
import Derived.Deep.DeepHandedRow
set_option linter.unusedSimpArgs false
set_option linter.unusedVariables false

/- The frame of rows whose program has laid variables: a wrap that hands the contract what the row lays and the world's shape; arguments opened: structs, slices of structs, numbers. -/
namespace Go.Proofs.YtfpnjbomlmhlpaaGreat
open Go.ChangeShapes Go.WideShapes Go.ChangeAt Go.RowKit Go.Deep

theorem own : ownKnob Tryz.prog.godebug = none := by kernel_rfl
theorem laidOut : laidOutB Tryz.prog = true := by kernel_rfl
section
variable {H : Type} {enc : TypeId × Value → H}
theorem returns_row {a : Assume} {C : Checked} {os : Os} {f : FuncId} {fn : Func} {s : ChangeSpec} {conds : List PathCond} {apart fresh handsOn again : Bool} {X : World → Array Value → Prop}
    (hX : ∀ (w w' : World) (args : Array Value), w.heap = w'.heap → X w args → X w' args)
    (own : ownKnob C.prog.godebug = none) (started : os.Started) (noInit : C.prog.inits.idxOf? f = none) (hfn : C.prog.funcs[f]? = some fn)
    (witness : ∃ (w : World) (tape : Tape) (i : Input), w.os = os ∧ (w.forCall tape i).Shaped C.prog ∧ i.vars = [] ∧ Input.okWide C.prog (w.forCall tape i) .any w.heap.size f i ∧
      ((s.pre enc C.prog fn conds apart (w.forCall tape i).memory i.args ∧ X (w.forCall tape i).memory i.args) ∧ sizedMet enc C.prog fn (OpenSpec.ofChange s) apart (w.forCall tape i).memory i.args) ∧ a.holds C.prog (lone (Frame.enter C.prog f i.args .normal) [] (w.forCall tape i)))
    (contract : ∀ (W : World) (base : Nat) (args : Array Value) (ds gs : List (DataW H)) (before : List MemPlace),
      (∀ (j : Nat) t v, fn.params[j]? = some t → args[j]? = some v → Value.okWide C.prog W .any base t v) →
      DataW.Whole enc C.prog fn.params.toList s.vars apart W args.toList ds gs before → X W args → W.ShapedOpen C.prog →
      Calls C.prog f args W fun e W' => ∃ v, e = .returned v ∧ s.post enc C.prog fn apart fresh handsOn again W args v W') :
    ReturnsInHanded a C os f .any (fun w args => (s.pre enc C.prog fn conds apart w args ∧ X w args) ∧ sizedMet enc C.prog fn (OpenSpec.ofChange s) apart w args) (s.post enc C.prog fn apart fresh handsOn again) := by
  refine returnsInHanded_of_calls own started noInit witness ?_
  intro w tape i _ hsh _ hok hpre _
  obtain ⟨_, _, _, fn', hfn', _, _, _, _, hval⟩ := hok
  have e : fn' = fn := Option.some.inj (hfn'.symm.trans hfn)
  subst e
  obtain ⟨⟨⟨ds, gs, before, hw, _⟩, hx⟩, _⟩ := hpre
  have hw' := DataW.Whole.of_heap (w' := w.forCall tape i) (by rfl) hw
  refine (contract (w.forCall tape i) w.heap.size i.args ds gs before hval hw' (hX _ _ _ (by rfl) hx) hsh).mono fun e W' ⟨v, he, hp⟩ => ?_
  subst he
  exact ChangeSpec.post_blind hp
end
theorem Sl_of {w : World} {a : Addr} {n cap : Nat} {C : Nat → Value} (h1 : n ≤ cap) (h2 : cap ≤ maxLen) (h : ∀ i, i < n → w.cell? (a.add i) = some (C i)) : Sl w (.slice (some a) n cap) n C := by
  refine ⟨some a, cap, rfl, h1, h2, fun i hi => ?_⟩
  obtain ⟨b, off, spot⟩ := a
  have h0 := h 0 (by omega)
  have hs : spot = none := by simpa [Addr.add] using World.cell?_spot h0
  subst hs
  refine ⟨b, off, rfl, ?_⟩
  have := h i hi
  rwa [show (⟨b, off, none⟩ : Addr).add i = ⟨b, off + i, none⟩ by unfold Addr.add; split <;> simp_all] at this
theorem SI_of {w : World} {a : Addr} {n cap : Nat} {zs : List Int} (h1 : n ≤ cap) (h2 : cap ≤ maxLen) (hz : zs.length = cap) (h : ∀ i, i < cap → w.cell? (a.add i) = some (.int .i64 (zs.getD i 0))) : SI w (.slice (some a) n cap) (zs.take n) := by
  have hl : (zs.take n).length = n := by simp; omega
  unfold SI
  rw [hl]
  exact Sl_of h1 h2 fun i hi => by rw [h i (by omega), gi_take hi]; rfl

/-- the types of the cells of a type's fields, if they lie one behind the other -/
def fieldsOf (P : Program) (L : TypeId → Option (List TypeId)) : List Field → Nat → Option (List TypeId)
  | [], _ => some []
  | f :: r, off => if f.offset = off then
      match L f.type with
      | some l => if P.cellsOf f.type = l.length then (fieldsOf P L r (off + l.length)).map (l ++ ·) else none
      | none => none
    else none
def leavesOf (P : Program) : Nat → TypeId → Option (List TypeId)
  | 0, _ => none
  | n + 1, t => match P.underlying t with
    | some (.struct fs) => fieldsOf P (leavesOf P n) fs.toList 0
    | some _ => some [t]
    | none => none

section
variable {H : Type} {enc : TypeId × Value → H} {P : Program} {w : World} {base : Nat} {spare : Nat → Bool} {held : Bool}

theorem fields_trod {L : TypeId → Option (List TypeId)} {m : Nat} {cs : List Value}
    (hL : ∀ (t : TypeId) (ls : List TypeId) (cs' : List Value) (x : DataW H × List MemPlace), L t = some ls → DataW.trod enc P w base spare held m t cs' = some x → cs'.length = ls.length → ∀ (i : Nat) (t' : TypeId), ls[i]? = some t' → ∃ v n y, cs'[i]? = some v ∧ DataW.trod enc P w base spare held n t' [v] = some y) :
    ∀ (fs : List Field) (off : Nat) (ls : List TypeId), fieldsOf P L fs off = some ls → off + ls.length ≤ cs.length →
    (∀ (i : Nat) (f : Field), fs[i]? = some f → ∃ x, DataW.trod enc P w base spare held m f.type ((cs.drop f.offset).take (P.cellsOf f.type)) = some x) →
    ∀ (i : Nat) (t' : TypeId), ls[i]? = some t' → ∃ v n y, cs[off + i]? = some v ∧ DataW.trod enc P w base spare held n t' [v] = some y := by
  intro fs
  induction fs with
  | nil => intro off ls h _ _ i t' hi; simp only [fieldsOf, Option.some.injEq] at h; subst h; simp at hi
  | cons f r ih =>
    intro off ls h hlen hf i t' hi
    unfold fieldsOf at h
    by_cases ho : f.offset = off
    · rw [if_pos ho] at h
      cases hl : L f.type with
      | none => simp [hl] at h
      | some l =>
        rw [hl] at h
        simp only at h
        by_cases hc : P.cellsOf f.type = l.length
        · rw [if_pos hc] at h
          cases hr : fieldsOf P L r (off + l.length) with
          | none => simp [hr] at h
          | some lr =>
            rw [hr] at h
            simp only [Option.map_some, Option.some.injEq] at h
            subst h
            rw [List.length_append] at hlen
            by_cases hil : i < l.length
            · obtain ⟨x, hx⟩ := hf 0 f rfl
              rw [ho, hc] at hx
              rw [List.getElem?_append_left hil] at hi
              obtain ⟨v, n, y, hv, hy⟩ := hL f.type l _ x hl hx (by simp; omega) i t' hi
              refine ⟨v, n, y, ?_, hy⟩
              rw [List.getElem?_take, if_pos hil, List.getElem?_drop] at hv
              exact hv
            · rw [List.getElem?_append_right (by omega)] at hi
              obtain ⟨v, n, y, hv, hy⟩ := ih (off + l.length) lr hr (by omega) (fun j g hg => hf (j + 1) g (by simpa using hg)) (i - l.length) t' hi
              refine ⟨v, n, y, ?_, hy⟩
              rw [show off + i = off + l.length + (i - l.length) by omega]; exact hv
        · rw [if_neg hc] at h; cases h
    · rw [if_neg ho] at h; cases h

/-- the leaves of what was trod -/
theorem trod_leaves : ∀ (n : Nat) (t : TypeId) (ls : List TypeId), leavesOf P n t = some ls → ∀ (fuel : Nat) (cs : List Value) (x : DataW H × List MemPlace), DataW.trod enc P w base spare held fuel t cs = some x → cs.length = ls.length →
    ∀ (i : Nat) (t' : TypeId), ls[i]? = some t' → ∃ v m y, cs[i]? = some v ∧ DataW.trod enc P w base spare held m t' [v] = some y := by
  intro n
  induction n with
  | zero => intro t ls h; simp [leavesOf] at h
  | succ n ih =>
    intro t ls h fuel cs x hx hlen i t' hi
    unfold leavesOf at h
    split at h
    · rename_i fs hs
      obtain ⟨xs, m, _, _, _, hxl, hg⟩ := DataW.trod_struct hs hx
      have := fields_trod (enc := enc) (P := P) (w := w) (base := base) (spare := spare) (held := held) (L := leavesOf P n) (m := m) (cs := cs) (fun t ls cs' x h1 h2 h3 => ih t ls h1 m cs' x h2 h3) fs.toList 0 ls h (by omega) (fun j f hj => by
        have hj' : fs[j]? = some f := by simpa using hj
        have := hg j f hj'
        have hjl : j < fs.size := (Array.getElem?_eq_some_iff.1 hj').1
        exact ⟨_, this.trans (List.getElem?_eq_getElem (by omega))⟩) i t' hi
      rwa [Nat.zero_add] at this
    · simp only [Option.some.injEq] at h
      subst h
      match cs, hlen with
      | [v], _ =>
        match i, hi with
        | 0, hi => simp only [List.getElem?_cons_zero, Option.some.injEq] at hi; subst hi; exact ⟨v, fuel, x, rfl, hx⟩
    · cases h

/-- a struct by value: its cells -/
theorem open_leaves {n : Nat} {t : TypeId} {ls : List TypeId} {fs : Array Field} {r : Go.Reach} {b0 : Nat} {v : Value} {d : DataW H} {p : List MemPlace} (hs : P.underlying t = some (.struct fs)) (hl : leavesOf P n t = some ls) (hC : P.cellsOf t = ls.length)
    (hv : Value.okWide P w r b0 t v) (h : DataW.Trod enc P w base spare held t v d p) :
    ∃ cs : Array Value, v = .agg cs ∧ cs.size = ls.length ∧ ∀ (i : Nat) (t' : TypeId), ls[i]? = some t' → ∃ u m y, cs[i]? = some u ∧ DataW.trod enc P w base spare held m t' [u] = some y := by
  obtain ⟨cs, rfl, hsz⟩ := okWide_struct hs hv
  obtain ⟨fuel, hf⟩ := h
  refine ⟨cs, rfl, hsz.trans hC, fun i t' hi => ?_⟩
  obtain ⟨u, m, y, h1, h2⟩ := trod_leaves n t ls hl fuel cs.toList (d, p) hf (by simpa using hsz.trans hC) i t' hi
  exact ⟨u, m, y, by simpa using h1, h2⟩

/-- n structs of k cells each: cell j of struct i holds C i j -/
def SR (w : World) (v : Value) (n k : Nat) (C : Nat → Nat → Value) : Prop :=
  ∃ a cap, v = .slice a n cap ∧ n ≤ cap ∧ cap ≤ maxLen ∧ ∀ i, i < n → ∃ b off, a = some ⟨b, off, none⟩ ∧ ∀ j, j < k → w.cell? ⟨b, off + i * k + j, none⟩ = some (C i j)

/-- a slice of structs -/
theorem open_rows {n : Nat} {t e : TypeId} {ls : List TypeId} {fuel : Nat} {cs : List Value} {x : DataW H × List MemPlace} (ht : P.underlying t = some (.slice e)) (hl : leavesOf P n e = some ls) (hC : P.cellsOf e = ls.length) (hpos : 0 < ls.length)
    (h : DataW.trod enc P w base spare held fuel t cs = some x) :
    ∃ (v : Value) (m : Nat) (C : Nat → Nat → Value), cs = [v] ∧ SR w v m ls.length C ∧ ∀ i, i < m → ∀ (j : Nat) (t' : TypeId), ls[j]? = some t' → ∃ q y, DataW.trod enc P w base spare held q t' [C i j] = some y := by
  rcases open_slice ht h with ⟨h0, _⟩ | ⟨a, len, cap, m, q, D, Pl, hcs, hb, hle, hm, hmm, hx, hi⟩
  · exact ⟨_, 0, fun _ _ => undef, h0, ⟨none, 0, rfl, Nat.le_refl _, Nat.zero_le _, fun i hi => by omega⟩, fun i hi => by omega⟩
  · have hlm : len ≤ m := by rw [hmm]; split <;> omega
    have key : ∀ i, i < m → ∀ (j : Nat) (t' : TypeId), ls[j]? = some t' → ∃ u q y, w.cell? (a.add (i * ls.length + j)) = some u ∧ DataW.trod enc P w base spare held q t' [u] = some y := by
      intro i him j t' hj
      obtain ⟨cs', hc, ht'⟩ := hi i him
      rw [hC] at hc
      obtain ⟨_, hcl, hat⟩ := World.cells?_some hc
      obtain ⟨u, q', y, h1, h2⟩ := trod_leaves n e ls hl q cs' _ ht' hcl j t' hj
      have hjl : j < ls.length := (List.getElem?_eq_some_iff.1 hj).1
      refine ⟨u, q', y, ?_, h2⟩
      rw [← Go.Deep.add_add, hat j hjl, h1]
    refine ⟨_, len, fun i j => (w.cell? (a.add (i * ls.length + j))).getD undef, hcs, ⟨some a, cap, rfl, hle, hm, fun i hil => ?_⟩, fun i hil j t' hj => ?_⟩
    · have k0 := key 0 (by omega) 0 _ (List.getElem?_eq_getElem hpos)
      obtain ⟨u0, _, _, h0, _⟩ := k0
      obtain ⟨b, off, spot⟩ := a
      have hsp : spot = none := by simpa [Addr.add] using World.cell?_spot h0
      subst hsp
      refine ⟨b, off, rfl, fun j hj => ?_⟩
      obtain ⟨u, _, _, hu, _⟩ := key i (by omega) j _ (List.getElem?_eq_getElem hj)
      have hadd : (⟨b, off, none⟩ : Addr).add (i * ls.length + j) = ⟨b, off + i * ls.length + j, none⟩ := by unfold Addr.add; simp [Nat.add_assoc]
      dsimp only
      rw [← hadd, hu]; rfl
    · obtain ⟨u, q', y, h1, h2⟩ := key i (by omega) j t' hj
      exact ⟨q', y, by dsimp only; rw [h1]; exact h2⟩
end

theorem SR.keep {w w' : World} {v : Value} {n k : Nat} {C : Nat → Nat → Value} (h : SR w v n k C) (hb : Below w.heap.size w w') : SR w' v n k C := by
  obtain ⟨a, cap, rfl, h1, h2, h3⟩ := h
  refine ⟨a, cap, rfl, h1, h2, fun i hi => ?_⟩
  obtain ⟨b, off, ha, hc⟩ := h3 i hi
  exact ⟨b, off, ha, fun j hj => cell_keep hb (hc j hj)⟩

section
variable {H : Type} {enc : TypeId × Value → H} {W : World}
theorem ints_trod {fuel : Nat} {v : Value} {x : DataW H × List MemPlace} (h : DataW.trod enc Tryz.prog W 0 (fun _ => true) true fuel 65 [v] = some x) : ∃ xs, SI W v xs ∧ ∀ x ∈ xs, (Lit.int .i64 x).wf = true := by
  rcases open_ints Tryz.underlying65 Tryz.underlying3 (by kernel_rfl) h with ⟨hcs, _⟩ | ⟨x, l, c', zs, hcs, _, hl, hm, hz, _, hcell, hwz⟩
  · simp at hcs
    subst hcs
    exact ⟨[], SI_nil _, by simp⟩
  · simp at hcs
    subst hcs
    have hz' : zs.length = c' := by simpa using hz
    exact ⟨zs.take l, SI_of hl hm hz' (fun i hi => hcell i (by omega)), fun x hx => hwz x (List.mem_of_mem_take hx)⟩
theorem int_trod {fuel : Nat} {t : TypeId} {v : Value} {x : DataW H × List MemPlace} {k : IntKind} (ht : Tryz.prog.underlying t = some (.int k)) (h : DataW.trod enc Tryz.prog W 0 (fun _ => true) true fuel t [v] = some x) : ∃ n, v = .int k n ∧ (Lit.int k n).wf = true := by
  obtain ⟨n, h1, _, h2⟩ := DataW.trod_int ht h
  simp at h1
  exact ⟨n, h1, h2⟩
theorem str_trod {fuel : Nat} {t : TypeId} {v : Value} {x : DataW H × List MemPlace} (ht : Tryz.prog.underlying t = some .string) (h : DataW.trod enc Tryz.prog W 0 (fun _ => true) true fuel t [v] = some x) : ∃ s, v = .string s ∧ s.size ≤ maxLen := by
  obtain ⟨n, h1, _, h2⟩ := DataW.trod_string ht h
  simp at h1
  exact ⟨n, h1, h2⟩
theorem slice_trod {fuel : Nat} {t e : TypeId} {v : Value} {x : DataW H × List MemPlace} (ht : Tryz.prog.underlying t = some (.slice e)) (h : DataW.trod enc Tryz.prog W 0 (fun _ => true) true fuel t [v] = some x) : ∃ a n c, v = .slice a n c := by
  rcases open_slice ht h with ⟨h0, _⟩ | ⟨a, len, cap, m, q, D, Pl, hcs, _⟩
  · simp at h0; exact ⟨_, _, _, h0⟩
  · simp at hcs; exact ⟨_, _, _, hcs⟩
end
end Go.Proofs.YtfpnjbomlmhlpaaGreat

/- The arguments of the law, opened: a design, materials, a hall, and how long their names are (printed by wip/gen_schfr.py). -/
namespace Go.Proofs.YtfpnjbomlmhlpaaGreat
open Go.ChangeShapes Go.WideShapes Go.ChangeAt Go.RowKit Go.Deep

section
variable {H : Type}
theorem part_le {d : DataW H} {l : List (DataW H)} (h : d ∈ l) : Rows.uptoBulk d ≤ Rows.uptoBulkAll l := by
  induction l with
  | nil => cases h
  | cons x r ih =>
    simp only [Rows.uptoBulkAll]
    cases List.mem_cons.1 h with
    | inl e => subst e; omega
    | inr e => have := ih e; omega
theorem agg_le {d : DataW H} {l : List (DataW H)} (h : d ∈ l) : Rows.uptoBulk d ≤ Rows.uptoBulk (.agg l) := by
  have := part_le h
  simp only [Rows.uptoBulk]
  omega
theorem elem_le {d : DataW H} {l r : List (DataW H)} (h : d ∈ l) : Rows.uptoBulk d ≤ Rows.uptoBulk (.slice l r) := by
  have := part_le h
  simp only [Rows.uptoBulk]
  omega
theorem bound {l : List (DataW H)} (hk : Rows.uptoSmall H l = true) : Rows.uptoBulkAll l ≤ 1048576 := by
  unfold Rows.uptoSmall at hk
  rw [decide_eq_true_eq] at hk
  exact hk
end
section
variable {H : Type} {enc : TypeId × Value → H} {P : Program} {w : World} {base : Nat} {spare : Nat → Bool} {held : Bool}
theorem fields_trodB {L : TypeId → Option (List TypeId)} {m N : Nat} {cs : List Value}
    (hL : ∀ (t : TypeId) (ls : List TypeId) (cs' : List Value) (x : DataW H × List MemPlace), L t = some ls → DataW.trod enc P w base spare held m t cs' = some x → cs'.length = ls.length → ∀ (i : Nat) (t' : TypeId), ls[i]? = some t' → ∃ v n y, cs'[i]? = some v ∧ DataW.trod enc P w base spare held n t' [v] = some y ∧ Rows.uptoBulk y.1 ≤ Rows.uptoBulk x.1) :
    ∀ (fs : List Field) (off : Nat) (ls : List TypeId), fieldsOf P L fs off = some ls → off + ls.length ≤ cs.length →
    (∀ (i : Nat) (f : Field), fs[i]? = some f → ∃ x, DataW.trod enc P w base spare held m f.type ((cs.drop f.offset).take (P.cellsOf f.type)) = some x ∧ Rows.uptoBulk x.1 ≤ N) →
    ∀ (i : Nat) (t' : TypeId), ls[i]? = some t' → ∃ v n y, cs[off + i]? = some v ∧ DataW.trod enc P w base spare held n t' [v] = some y ∧ Rows.uptoBulk y.1 ≤ N := by
  intro fs
  induction fs with
  | nil => intro off ls h _ _ i t' hi; simp only [fieldsOf, Option.some.injEq] at h; subst h; simp at hi
  | cons f r ih =>
    intro off ls h hlen hf i t' hi
    unfold fieldsOf at h
    by_cases ho : f.offset = off
    · rw [if_pos ho] at h
      cases hl : L f.type with
      | none => simp [hl] at h
      | some l =>
        rw [hl] at h
        simp only at h
        by_cases hc : P.cellsOf f.type = l.length
        · rw [if_pos hc] at h
          cases hr : fieldsOf P L r (off + l.length) with
          | none => simp [hr] at h
          | some lr =>
            rw [hr] at h
            simp only [Option.map_some, Option.some.injEq] at h
            subst h
            rw [List.length_append] at hlen
            by_cases hil : i < l.length
            · obtain ⟨x, hx, hxN⟩ := hf 0 f rfl
              rw [ho, hc] at hx
              rw [List.getElem?_append_left hil] at hi
              obtain ⟨v, n, y, hv, hy, hyN⟩ := hL f.type l _ x hl hx (by simp; omega) i t' hi
              refine ⟨v, n, y, ?_, hy, Nat.le_trans hyN hxN⟩
              rw [List.getElem?_take, if_pos hil, List.getElem?_drop] at hv
              exact hv
            · rw [List.getElem?_append_right (by omega)] at hi
              obtain ⟨v, n, y, hv, hy⟩ := ih (off + l.length) lr hr (by omega) (fun j g hg => hf (j + 1) g (by simpa using hg)) (i - l.length) t' hi
              refine ⟨v, n, y, ?_, hy⟩
              rw [show off + i = off + l.length + (i - l.length) by omega]; exact hv
        · rw [if_neg hc] at h; cases h
    · rw [if_neg ho] at h; cases h
theorem trod_leavesB : ∀ (n : Nat) (t : TypeId) (ls : List TypeId), leavesOf P n t = some ls → ∀ (fuel : Nat) (cs : List Value) (x : DataW H × List MemPlace), DataW.trod enc P w base spare held fuel t cs = some x → cs.length = ls.length →
    ∀ (i : Nat) (t' : TypeId), ls[i]? = some t' → ∃ v m y, cs[i]? = some v ∧ DataW.trod enc P w base spare held m t' [v] = some y ∧ Rows.uptoBulk y.1 ≤ Rows.uptoBulk x.1 := by
  intro n
  induction n with
  | zero => intro t ls h; simp [leavesOf] at h
  | succ n ih =>
    intro t ls h fuel cs x hx hlen i t' hi
    unfold leavesOf at h
    split at h
    · rename_i fs hs
      obtain ⟨xs, m, _, hxe, _, hxl, hg⟩ := DataW.trod_struct hs hx
      have := fields_trodB (enc := enc) (P := P) (w := w) (base := base) (spare := spare) (held := held) (L := leavesOf P n) (m := m) (N := Rows.uptoBulk x.1) (cs := cs) (fun t ls cs' x h1 h2 h3 => ih t ls h1 m cs' x h2 h3) fs.toList 0 ls h (by omega) (fun j f hj => by
        have hj' : fs[j]? = some f := by simpa using hj
        have := hg j f hj'
        have hjl : j < fs.size := (Array.getElem?_eq_some_iff.1 hj').1
        refine ⟨_, this.trans (List.getElem?_eq_getElem (by omega)), ?_⟩
        have e1 : x.1 = .agg (xs.map (·.1)) := by rw [hxe]
        rw [e1]
        exact agg_le (List.mem_map.2 ⟨_, List.getElem_mem (by omega), rfl⟩)) i t' hi
      rwa [Nat.zero_add] at this
    · simp only [Option.some.injEq] at h
      subst h
      match cs, hlen with
      | [v], _ =>
        match i, hi with
        | 0, hi => simp only [List.getElem?_cons_zero, Option.some.injEq] at hi; subst hi; exact ⟨v, fuel, x, rfl, hx, Nat.le_refl _⟩
    · cases h
/-- a struct by value: its cells -/
theorem open_leavesB {n : Nat} {t : TypeId} {ls : List TypeId} {fs : Array Field} {r : Go.Reach} {b0 : Nat} {v : Value} {d : DataW H} {p : List MemPlace} (hs : P.underlying t = some (.struct fs)) (hl : leavesOf P n t = some ls) (hC : P.cellsOf t = ls.length)
    (hv : Value.okWide P w r b0 t v) (h : DataW.Trod enc P w base spare held t v d p) :
    ∃ cs : Array Value, v = .agg cs ∧ cs.size = ls.length ∧ ∀ (i : Nat) (t' : TypeId), ls[i]? = some t' → ∃ u m y, cs[i]? = some u ∧ DataW.trod enc P w base spare held m t' [u] = some y ∧ Rows.uptoBulk y.1 ≤ Rows.uptoBulk d := by
  obtain ⟨cs, rfl, hsz⟩ := okWide_struct hs hv
  obtain ⟨fuel, hf⟩ := h
  refine ⟨cs, rfl, hsz.trans hC, fun i t' hi => ?_⟩
  obtain ⟨u, m, y, h1, h2, h3⟩ := trod_leavesB n t ls hl fuel cs.toList (d, p) hf (by simpa using hsz.trans hC) i t' hi
  exact ⟨u, m, y, by simpa using h1, h2, h3⟩
/-- a slice of structs -/
theorem open_rowsB {n : Nat} {t e : TypeId} {ls : List TypeId} {fuel : Nat} {cs : List Value} {x : DataW H × List MemPlace} (ht : P.underlying t = some (.slice e)) (hl : leavesOf P n e = some ls) (hC : P.cellsOf e = ls.length) (hpos : 0 < ls.length)
    (h : DataW.trod enc P w base spare held fuel t cs = some x) :
    ∃ (v : Value) (m : Nat) (C : Nat → Nat → Value), cs = [v] ∧ SR w v m ls.length C ∧ ∀ i, i < m → ∀ (j : Nat) (t' : TypeId), ls[j]? = some t' → ∃ q y, DataW.trod enc P w base spare held q t' [C i j] = some y ∧ Rows.uptoBulk y.1 ≤ Rows.uptoBulk x.1 := by
  rcases open_slice ht h with ⟨h0, _⟩ | ⟨a, len, cap, m, q, D, Pl, hcs, hb, hle, hm, hmm, hx, hi⟩
  · exact ⟨_, 0, fun _ _ => undef, h0, ⟨none, 0, rfl, Nat.le_refl _, Nat.zero_le _, fun i hi => by omega⟩, fun i hi => by omega⟩
  · have hlm : len ≤ m := by rw [hmm]; split <;> omega
    have key : ∀ i, i < len → ∀ (j : Nat) (t' : TypeId), ls[j]? = some t' → ∃ u q y, w.cell? (a.add (i * ls.length + j)) = some u ∧ DataW.trod enc P w base spare held q t' [u] = some y ∧ Rows.uptoBulk y.1 ≤ Rows.uptoBulk x.1 := by
      intro i hil j t' hj
      obtain ⟨cs', hc, ht'⟩ := hi i (by omega)
      rw [hC] at hc
      obtain ⟨_, hcl, hat⟩ := World.cells?_some hc
      obtain ⟨u, q', y, h1, h2, h3⟩ := trod_leavesB n e ls hl q cs' _ ht' hcl j t' hj
      have hjl : j < ls.length := (List.getElem?_eq_some_iff.1 hj).1
      refine ⟨u, q', y, ?_, h2, Nat.le_trans h3 ?_⟩
      · rw [← Go.Deep.add_add, hat j hjl, h1]
      · have e1 : x.1 = .slice ((List.range len).map D) ((List.range (m - len)).map fun j => D (len + j)) := by rw [hx]
        rw [e1]
        exact elem_le (List.mem_map.2 ⟨i, List.mem_range.2 hil, rfl⟩)
    refine ⟨_, len, fun i j => (w.cell? (a.add (i * ls.length + j))).getD undef, hcs, ⟨some a, cap, rfl, hle, hm, fun i hil => ?_⟩, fun i hil j t' hj => ?_⟩
    · have k0 := key 0 (by omega) 0 _ (List.getElem?_eq_getElem hpos)
      obtain ⟨u0, _, _, h0, _⟩ := k0
      obtain ⟨b, off, spot⟩ := a
      have hsp : spot = none := by simpa [Addr.add] using World.cell?_spot h0
      subst hsp
      refine ⟨b, off, rfl, fun j hj => ?_⟩
      obtain ⟨u, _, _, hu, _⟩ := key i hil j _ (List.getElem?_eq_getElem hj)
      have hadd : (⟨b, off, none⟩ : Addr).add (i * ls.length + j) = ⟨b, off + i * ls.length + j, none⟩ := by unfold Addr.add; simp [Nat.add_assoc]
      dsimp only
      rw [← hadd, hu]; rfl
    · obtain ⟨u, q', y, h1, h2, h3⟩ := key i hil j t' hj
      exact ⟨q', y, by dsimp only; rw [h1]; exact h2, h3⟩
end
section
variable {H : Type} {enc : TypeId × Value → H} {W : World}
def gInt : Value → Int | .int .i64 k => k | _ => 0
def gStr : Value → List UInt8 | .string s => s.data.toList | _ => []
theorem gInt_of {q : Nat} {v : Value} {y : DataW H × List MemPlace} (h : DataW.trod enc Tryz.prog W 0 (fun _ => true) true q 3 [v] = some y) : v = .int .i64 (gInt v) := by
  obtain ⟨k, e, _⟩ := int_trod Tryz.underlying3 h
  rw [e]; rfl
theorem gStr_of {q : Nat} {v : Value} {y : DataW H × List MemPlace} (h : DataW.trod enc Tryz.prog W 0 (fun _ => true) true q 9 [v] = some y) : v = .string (bs (gStr v)) ∧ (gStr v).length ≤ maxLen ∧ (gStr v).length ≤ Rows.uptoBulk y.1 := by
  obtain ⟨s, e, ey, hs⟩ := DataW.trod_string Tryz.underlying9 h
  simp only [List.cons.injEq, and_true] at e
  rw [e, ey]
  exact ⟨by show _ = Value.string (bs s.data.toList); rw [bs_of], by show s.data.toList.length ≤ _; rw [Array.length_toList]; exact hs, by show s.data.toList.length ≤ s.data.toList.length + 1; omega⟩
theorem strs_trod {fuel : Nat} {v : Value} {x : DataW H × List MemPlace} (h : DataW.trod enc Tryz.prog W 0 (fun _ => true) true fuel 43 [v] = some x) :
    ∃ ss : List (List UInt8), SZ W v (ss.map bs) ∧ ∀ x ∈ ss, x.length ≤ maxLen := by
  obtain ⟨v', m, C, hcs, ⟨a, cap, rfl, h1, h2, h3⟩, hC⟩ := open_rowsB (n := 1) Tryz.underlying43 (by kernel_rfl : leavesOf Tryz.prog 1 9 = some [9]) (by kernel_rfl) (by decide) h
  simp at hcs
  subst hcs
  have hl : (((List.range m).map fun i => gStr (C i 0)).map bs).length = m := by simp
  refine ⟨(List.range m).map fun i => gStr (C i 0), ⟨a, cap, by rw [hl], by rw [hl]; exact h1, h2, fun i hi => ?_⟩, fun x hx => ?_⟩
  · rw [hl] at hi
    obtain ⟨b, off, ha, hc⟩ := h3 i hi
    refine ⟨b, off, ha, ?_⟩
    obtain ⟨q0, y0, t0, _⟩ := hC i hi 0 _ rfl
    have hz : zi (((List.range m).map fun i => gStr (C i 0)).map bs) i = bs (gStr (C i 0)) := by rw [zi_bs (by simp; exact hi)]; simp
    dsimp only
    rw [hz, ← (gStr_of t0).1]
    have := hc 0 (by decide)
    simpa using this
  · obtain ⟨i, hi, rfl⟩ := List.mem_map.1 hx
    obtain ⟨q0, y0, t0, _⟩ := hC i (List.mem_range.1 hi) 0 _ rfl
    exact (gStr_of t0).2.1

theorem leaves_nodes : leavesOf Tryz.prog 4 107 = some [9, 3, 9] := by kernel_rfl
theorem nodes_trod {fuel : Nat} {v : Value} {x : DataW H × List MemPlace} (h : DataW.trod enc Tryz.prog W 0 (fun _ => true) true fuel 22 [v] = some x) : ∃ l : List Nod, SNo W v l ∧ (∀ y ∈ l, y.id.length ≤ Rows.uptoBulk x.1) := by
  obtain ⟨v', m, C, hcs, ⟨a, cap, rfl, h1, h2, h3⟩, hC⟩ := open_rowsB Tryz.underlying22 leaves_nodes (by kernel_rfl) (by decide) h
  simp at hcs
  subst hcs
  let X : Nat → Nod := fun i => ⟨gStr (C i 0), gInt (C i 1), gStr (C i 2)⟩
  have hl : ((List.range m).map X).length = m := by simp
  have hk : ∀ i, i < m → noi ((List.range m).map X) i = X i := fun i hi => by simp [noi, hi]
  refine ⟨(List.range m).map X, ⟨a, cap, by rw [hl], by rw [hl]; exact h1, h2, fun i hi => ?_⟩, ?_⟩
  · rw [hl] at hi
    obtain ⟨b, off, ha, hc⟩ := h3 i hi
    refine ⟨b, off, ha, ?_⟩
    rw [hk i hi]
    obtain ⟨q0, y0, t0, _⟩ := hC i hi 0 _ rfl
    obtain ⟨q1, y1, t1, _⟩ := hC i hi 1 _ rfl
    obtain ⟨q2, y2, t2, _⟩ := hC i hi 2 _ rfl
    exact ⟨by rw [← (gStr_of t0).1]; exact hc 0 (by decide), by rw [← gInt_of t1]; exact hc 1 (by decide), by rw [← (gStr_of t2).1]; exact hc 2 (by decide)⟩
  · intro xx hxx
    obtain ⟨i, hi, rfl⟩ := List.mem_map.1 hxx
    have hi := List.mem_range.1 hi
    obtain ⟨q0, y0, t0, u0⟩ := hC i hi 0 _ rfl
    obtain ⟨q1, y1, t1, u1⟩ := hC i hi 1 _ rfl
    obtain ⟨q2, y2, t2, u2⟩ := hC i hi 2 _ rfl
    exact Nat.le_trans (gStr_of t0).2.2 u0
theorem leaves_needs : leavesOf Tryz.prog 4 104 = some [3, 9, 9] := by kernel_rfl
theorem needs_trod {fuel : Nat} {v : Value} {x : DataW H × List MemPlace} (h : DataW.trod enc Tryz.prog W 0 (fun _ => true) true fuel 26 [v] = some x) : ∃ l : List Nd, SNn W v l ∧ (∀ y ∈ l, y.block.length ≤ maxLen ∧ y.on.length ≤ maxLen) := by
  obtain ⟨v', m, C, hcs, ⟨a, cap, rfl, h1, h2, h3⟩, hC⟩ := open_rowsB Tryz.underlying26 leaves_needs (by kernel_rfl) (by decide) h
  simp at hcs
  subst hcs
  let X : Nat → Nd := fun i => ⟨gInt (C i 0), gStr (C i 1), gStr (C i 2)⟩
  have hl : ((List.range m).map X).length = m := by simp
  have hk : ∀ i, i < m → ndi ((List.range m).map X) i = X i := fun i hi => by simp [ndi, hi]
  refine ⟨(List.range m).map X, ⟨a, cap, by rw [hl], by rw [hl]; exact h1, h2, fun i hi => ?_⟩, ?_⟩
  · rw [hl] at hi
    obtain ⟨b, off, ha, hc⟩ := h3 i hi
    refine ⟨b, off, ha, ?_⟩
    rw [hk i hi]
    obtain ⟨q0, y0, t0, _⟩ := hC i hi 0 _ rfl
    obtain ⟨q1, y1, t1, _⟩ := hC i hi 1 _ rfl
    obtain ⟨q2, y2, t2, _⟩ := hC i hi 2 _ rfl
    exact ⟨by rw [← gInt_of t0]; exact hc 0 (by decide), by rw [← (gStr_of t1).1]; exact hc 1 (by decide), by rw [← (gStr_of t2).1]; exact hc 2 (by decide)⟩
  · intro xx hxx
    obtain ⟨i, hi, rfl⟩ := List.mem_map.1 hxx
    have hi := List.mem_range.1 hi
    obtain ⟨q0, y0, t0, u0⟩ := hC i hi 0 _ rfl
    obtain ⟨q1, y1, t1, u1⟩ := hC i hi 1 _ rfl
    obtain ⟨q2, y2, t2, u2⟩ := hC i hi 2 _ rfl
    exact ⟨(gStr_of t1).2.1, (gStr_of t2).2.1⟩
theorem leaves_seas : leavesOf Tryz.prog 4 127 = some [9, 9, 9, 3, 3, 3] := by kernel_rfl
theorem seas_trod {fuel : Nat} {v : Value} {x : DataW H × List MemPlace} (h : DataW.trod enc Tryz.prog W 0 (fun _ => true) true fuel 24 [v] = some x) : ∃ l : List Sea, SSm W v l ∧ (∀ y ∈ l, y.id.length ≤ Rows.uptoBulk x.1 ∧ y.a.length ≤ Rows.uptoBulk x.1 ∧ y.b.length ≤ Rows.uptoBulk x.1) := by
  obtain ⟨v', m, C, hcs, ⟨a, cap, rfl, h1, h2, h3⟩, hC⟩ := open_rowsB Tryz.underlying24 leaves_seas (by kernel_rfl) (by decide) h
  simp at hcs
  subst hcs
  let X : Nat → Sea := fun i => ⟨gStr (C i 0), gStr (C i 1), gStr (C i 2), gInt (C i 3), gInt (C i 4), gInt (C i 5)⟩
  have hl : ((List.range m).map X).length = m := by simp
  have hk : ∀ i, i < m → smi ((List.range m).map X) i = X i := fun i hi => by simp [smi, hi]
  refine ⟨(List.range m).map X, ⟨a, cap, by rw [hl], by rw [hl]; exact h1, h2, fun i hi => ?_⟩, ?_⟩
  · rw [hl] at hi
    obtain ⟨b, off, ha, hc⟩ := h3 i hi
    refine ⟨b, off, ha, ?_⟩
    rw [hk i hi]
    obtain ⟨q0, y0, t0, _⟩ := hC i hi 0 _ rfl
    obtain ⟨q1, y1, t1, _⟩ := hC i hi 1 _ rfl
    obtain ⟨q2, y2, t2, _⟩ := hC i hi 2 _ rfl
    obtain ⟨q3, y3, t3, _⟩ := hC i hi 3 _ rfl
    obtain ⟨q4, y4, t4, _⟩ := hC i hi 4 _ rfl
    obtain ⟨q5, y5, t5, _⟩ := hC i hi 5 _ rfl
    exact ⟨by rw [← (gStr_of t0).1]; exact hc 0 (by decide), by rw [← (gStr_of t1).1]; exact hc 1 (by decide), by rw [← (gStr_of t2).1]; exact hc 2 (by decide), by rw [← gInt_of t3]; exact hc 3 (by decide), by rw [← gInt_of t4]; exact hc 4 (by decide), by rw [← gInt_of t5]; exact hc 5 (by decide)⟩
  · intro xx hxx
    obtain ⟨i, hi, rfl⟩ := List.mem_map.1 hxx
    have hi := List.mem_range.1 hi
    obtain ⟨q0, y0, t0, u0⟩ := hC i hi 0 _ rfl
    obtain ⟨q1, y1, t1, u1⟩ := hC i hi 1 _ rfl
    obtain ⟨q2, y2, t2, u2⟩ := hC i hi 2 _ rfl
    obtain ⟨q3, y3, t3, u3⟩ := hC i hi 3 _ rfl
    obtain ⟨q4, y4, t4, u4⟩ := hC i hi 4 _ rfl
    obtain ⟨q5, y5, t5, u5⟩ := hC i hi 5 _ rfl
    exact ⟨Nat.le_trans (gStr_of t0).2.2 u0, Nat.le_trans (gStr_of t1).2.2 u1, Nat.le_trans (gStr_of t2).2.2 u2⟩
theorem leaves_sects : leavesOf Tryz.prog 4 96 = some [9, 3, 3, 3] := by kernel_rfl
theorem sects_trod {fuel : Nat} {v : Value} {x : DataW H × List MemPlace} (h : DataW.trod enc Tryz.prog W 0 (fun _ => true) true fuel 30 [v] = some x) : ∃ l : List Sct, SSc W v l ∧ (∀ y ∈ l, y.name.length ≤ maxLen) := by
  obtain ⟨v', m, C, hcs, ⟨a, cap, rfl, h1, h2, h3⟩, hC⟩ := open_rowsB Tryz.underlying30 leaves_sects (by kernel_rfl) (by decide) h
  simp at hcs
  subst hcs
  let X : Nat → Sct := fun i => ⟨gStr (C i 0), gInt (C i 1), gInt (C i 2), gInt (C i 3)⟩
  have hl : ((List.range m).map X).length = m := by simp
  have hk : ∀ i, i < m → sci ((List.range m).map X) i = X i := fun i hi => by simp [sci, hi]
  refine ⟨(List.range m).map X, ⟨a, cap, by rw [hl], by rw [hl]; exact h1, h2, fun i hi => ?_⟩, ?_⟩
  · rw [hl] at hi
    obtain ⟨b, off, ha, hc⟩ := h3 i hi
    refine ⟨b, off, ha, ?_⟩
    rw [hk i hi]
    obtain ⟨q0, y0, t0, _⟩ := hC i hi 0 _ rfl
    obtain ⟨q1, y1, t1, _⟩ := hC i hi 1 _ rfl
    obtain ⟨q2, y2, t2, _⟩ := hC i hi 2 _ rfl
    obtain ⟨q3, y3, t3, _⟩ := hC i hi 3 _ rfl
    exact ⟨by rw [← (gStr_of t0).1]; exact hc 0 (by decide), by rw [← gInt_of t1]; exact hc 1 (by decide), by rw [← gInt_of t2]; exact hc 2 (by decide), by rw [← gInt_of t3]; exact hc 3 (by decide)⟩
  · intro xx hxx
    obtain ⟨i, hi, rfl⟩ := List.mem_map.1 hxx
    have hi := List.mem_range.1 hi
    obtain ⟨q0, y0, t0, u0⟩ := hC i hi 0 _ rfl
    obtain ⟨q1, y1, t1, u1⟩ := hC i hi 1 _ rfl
    obtain ⟨q2, y2, t2, u2⟩ := hC i hi 2 _ rfl
    obtain ⟨q3, y3, t3, u3⟩ := hC i hi 3 _ rfl
    exact (gStr_of t0).2.1
theorem leaves_pts : leavesOf Tryz.prog 4 183 = some [3, 3] := by kernel_rfl
theorem pts_trod {fuel : Nat} {v : Value} {x : DataW H × List MemPlace} (h : DataW.trod enc Tryz.prog W 0 (fun _ => true) true fuel 114 [v] = some x) : ∃ l : List Pnt, SPt W v l := by
  obtain ⟨v', m, C, hcs, ⟨a, cap, rfl, h1, h2, h3⟩, hC⟩ := open_rowsB Tryz.underlying114 leaves_pts (by kernel_rfl) (by decide) h
  simp at hcs
  subst hcs
  let X : Nat → Pnt := fun i => ⟨gInt (C i 0), gInt (C i 1)⟩
  have hl : ((List.range m).map X).length = m := by simp
  have hk : ∀ i, i < m → pti ((List.range m).map X) i = X i := fun i hi => by simp [pti, hi]
  refine ⟨(List.range m).map X, ⟨a, cap, by rw [hl], by rw [hl]; exact h1, h2, fun i hi => ?_⟩⟩
  · rw [hl] at hi
    obtain ⟨b, off, ha, hc⟩ := h3 i hi
    refine ⟨b, off, ha, ?_⟩
    rw [hk i hi]
    obtain ⟨q0, y0, t0, _⟩ := hC i hi 0 _ rfl
    obtain ⟨q1, y1, t1, _⟩ := hC i hi 1 _ rfl
    exact ⟨by rw [← gInt_of t0]; exact hc 0 (by decide), by rw [← gInt_of t1]; exact hc 1 (by decide)⟩
theorem leaves_grades : leavesOf Tryz.prog 4 154 = some [9, 3, 3, 65] := by kernel_rfl
theorem grades_trod {fuel : Nat} {v : Value} {x : DataW H × List MemPlace} (h : DataW.trod enc Tryz.prog W 0 (fun _ => true) true fuel 29 [v] = some x) : ∃ l : List Grd, SGr W v l ∧ (∀ y ∈ l, GrdOK W y) ∧ (∀ y ∈ l, y.name.length ≤ maxLen) := by
  obtain ⟨v', m, C, hcs, ⟨a, cap, rfl, h1, h2, h3⟩, hC⟩ := open_rowsB Tryz.underlying29 leaves_grades (by kernel_rfl) (by decide) h
  simp at hcs
  subst hcs
  have hz0 : ∀ i, ∃ z : List Int, i < m → SI W (C i 3) z := by
    intro i
    by_cases hi : i < m
    · obtain ⟨q, y, t, _⟩ := hC i hi 3 _ rfl
      obtain ⟨z, hz⟩ := (fun t => (ints_trod t).imp fun _ h => h.1) t
      exact ⟨z, fun _ => hz⟩
    · exact ⟨[], fun h => absurd h hi⟩
  let Z0 : Nat → List Int := fun i => Classical.choose (hz0 i)
  have hZ0 : ∀ i, i < m → (fun z => SI W (C i 3) z) (Z0 i) := fun i => Classical.choose_spec (hz0 i)
  let X : Nat → Grd := fun i => ⟨gStr (C i 0), gInt (C i 1), gInt (C i 2), C i 3, Z0 i⟩
  have hl : ((List.range m).map X).length = m := by simp
  have hk : ∀ i, i < m → gri ((List.range m).map X) i = X i := fun i hi => by simp [gri, hi]
  refine ⟨(List.range m).map X, ⟨a, cap, by rw [hl], by rw [hl]; exact h1, h2, fun i hi => ?_⟩, ?_, ?_⟩
  · rw [hl] at hi
    obtain ⟨b, off, ha, hc⟩ := h3 i hi
    refine ⟨b, off, ha, ?_⟩
    rw [hk i hi]
    obtain ⟨q0, y0, t0, _⟩ := hC i hi 0 _ rfl
    obtain ⟨q1, y1, t1, _⟩ := hC i hi 1 _ rfl
    obtain ⟨q2, y2, t2, _⟩ := hC i hi 2 _ rfl
    obtain ⟨q3, y3, t3, _⟩ := hC i hi 3 _ rfl
    exact ⟨by rw [← (gStr_of t0).1]; exact hc 0 (by decide), by rw [← gInt_of t1]; exact hc 1 (by decide), by rw [← gInt_of t2]; exact hc 2 (by decide), hc 3 (by decide)⟩
  · intro xx hxx
    obtain ⟨i, hi, rfl⟩ := List.mem_map.1 hxx
    have hi := List.mem_range.1 hi
    obtain ⟨q0, y0, t0, u0⟩ := hC i hi 0 _ rfl
    obtain ⟨q1, y1, t1, u1⟩ := hC i hi 1 _ rfl
    obtain ⟨q2, y2, t2, u2⟩ := hC i hi 2 _ rfl
    obtain ⟨q3, y3, t3, u3⟩ := hC i hi 3 _ rfl
    exact hZ0 i hi
  · intro xx hxx
    obtain ⟨i, hi, rfl⟩ := List.mem_map.1 hxx
    have hi := List.mem_range.1 hi
    obtain ⟨q0, y0, t0, u0⟩ := hC i hi 0 _ rfl
    obtain ⟨q1, y1, t1, u1⟩ := hC i hi 1 _ rfl
    obtain ⟨q2, y2, t2, u2⟩ := hC i hi 2 _ rfl
    obtain ⟨q3, y3, t3, u3⟩ := hC i hi 3 _ rfl
    exact (gStr_of t0).2.1
theorem leaves_packs : leavesOf Tryz.prog 4 54 = some [9, 9, 43, 3, 43] := by kernel_rfl
theorem packs_trod {fuel : Nat} {v : Value} {x : DataW H × List MemPlace} (h : DataW.trod enc Tryz.prog W 0 (fun _ => true) true fuel 25 [v] = some x) : ∃ l : List Pkg, SPk W v l ∧ (∀ y ∈ l, PkgOK W y) ∧ (∀ y ∈ l, y.id.length ≤ Rows.uptoBulk x.1) := by
  obtain ⟨v', m, C, hcs, ⟨a, cap, rfl, h1, h2, h3⟩, hC⟩ := open_rowsB Tryz.underlying25 leaves_packs (by kernel_rfl) (by decide) h
  simp at hcs
  subst hcs
  have hz0 : ∀ i, ∃ z : List (List UInt8), i < m → SZ W (C i 2) (z.map bs) ∧ ∀ x ∈ z, x.length ≤ maxLen := by
    intro i
    by_cases hi : i < m
    · obtain ⟨q, y, t, _⟩ := hC i hi 2 _ rfl
      obtain ⟨z, hz⟩ := strs_trod t
      exact ⟨z, fun _ => hz⟩
    · exact ⟨[], fun h => absurd h hi⟩
  let Z0 : Nat → List (List UInt8) := fun i => Classical.choose (hz0 i)
  have hZ0 : ∀ i, i < m → (fun z => SZ W (C i 2) (z.map bs) ∧ ∀ x ∈ z, x.length ≤ maxLen) (Z0 i) := fun i => Classical.choose_spec (hz0 i)
  have hz1 : ∀ i, ∃ z : List (List UInt8), i < m → SZ W (C i 4) (z.map bs) ∧ ∀ x ∈ z, x.length ≤ maxLen := by
    intro i
    by_cases hi : i < m
    · obtain ⟨q, y, t, _⟩ := hC i hi 4 _ rfl
      obtain ⟨z, hz⟩ := strs_trod t
      exact ⟨z, fun _ => hz⟩
    · exact ⟨[], fun h => absurd h hi⟩
  let Z1 : Nat → List (List UInt8) := fun i => Classical.choose (hz1 i)
  have hZ1 : ∀ i, i < m → (fun z => SZ W (C i 4) (z.map bs) ∧ ∀ x ∈ z, x.length ≤ maxLen) (Z1 i) := fun i => Classical.choose_spec (hz1 i)
  let X : Nat → Pkg := fun i => ⟨gStr (C i 0), gStr (C i 1), C i 2, gInt (C i 3), C i 4, Z0 i, Z1 i⟩
  have hl : ((List.range m).map X).length = m := by simp
  have hk : ∀ i, i < m → pki ((List.range m).map X) i = X i := fun i hi => by simp [pki, hi]
  refine ⟨(List.range m).map X, ⟨a, cap, by rw [hl], by rw [hl]; exact h1, h2, fun i hi => ?_⟩, ?_, ?_⟩
  · rw [hl] at hi
    obtain ⟨b, off, ha, hc⟩ := h3 i hi
    refine ⟨b, off, ha, ?_⟩
    rw [hk i hi]
    obtain ⟨q0, y0, t0, _⟩ := hC i hi 0 _ rfl
    obtain ⟨q1, y1, t1, _⟩ := hC i hi 1 _ rfl
    obtain ⟨q2, y2, t2, _⟩ := hC i hi 2 _ rfl
    obtain ⟨q3, y3, t3, _⟩ := hC i hi 3 _ rfl
    obtain ⟨q4, y4, t4, _⟩ := hC i hi 4 _ rfl
    exact ⟨by rw [← (gStr_of t0).1]; exact hc 0 (by decide), by rw [← (gStr_of t1).1]; exact hc 1 (by decide), hc 2 (by decide), by rw [← gInt_of t3]; exact hc 3 (by decide), hc 4 (by decide)⟩
  · intro xx hxx
    obtain ⟨i, hi, rfl⟩ := List.mem_map.1 hxx
    have hi := List.mem_range.1 hi
    obtain ⟨q0, y0, t0, u0⟩ := hC i hi 0 _ rfl
    obtain ⟨q1, y1, t1, u1⟩ := hC i hi 1 _ rfl
    obtain ⟨q2, y2, t2, u2⟩ := hC i hi 2 _ rfl
    obtain ⟨q3, y3, t3, u3⟩ := hC i hi 3 _ rfl
    obtain ⟨q4, y4, t4, u4⟩ := hC i hi 4 _ rfl
    exact ⟨(hZ0 i hi).1, (hZ1 i hi).1⟩
  · intro xx hxx
    obtain ⟨i, hi, rfl⟩ := List.mem_map.1 hxx
    have hi := List.mem_range.1 hi
    obtain ⟨q0, y0, t0, u0⟩ := hC i hi 0 _ rfl
    obtain ⟨q1, y1, t1, u1⟩ := hC i hi 1 _ rfl
    obtain ⟨q2, y2, t2, u2⟩ := hC i hi 2 _ rfl
    obtain ⟨q3, y3, t3, u3⟩ := hC i hi 3 _ rfl
    obtain ⟨q4, y4, t4, u4⟩ := hC i hi 4 _ rfl
    exact Nat.le_trans (gStr_of t0).2.2 u0
theorem leaves_hoists : leavesOf Tryz.prog 4 59 = some [9, 3, 43] := by kernel_rfl
theorem hoists_trod {fuel : Nat} {v : Value} {x : DataW H × List MemPlace} (h : DataW.trod enc Tryz.prog W 0 (fun _ => true) true fuel 33 [v] = some x) : ∃ l : List MH, SHs W v l ∧ (Crn W l) ∧ (∀ m ∈ l, ∀ c ∈ m.h.cranes, c.length ≤ maxLen) := by
  obtain ⟨v', m, C, hcs, ⟨a, cap, rfl, h1, h2, h3⟩, hC⟩ := open_rowsB Tryz.underlying33 leaves_hoists (by kernel_rfl) (by decide) h
  simp at hcs
  subst hcs
  have hz0 : ∀ i, ∃ z : List (List UInt8), i < m → SZ W (C i 2) (z.map bs) ∧ ∀ x ∈ z, x.length ≤ maxLen := by
    intro i
    by_cases hi : i < m
    · obtain ⟨q, y, t, _⟩ := hC i hi 2 _ rfl
      obtain ⟨z, hz⟩ := strs_trod t
      exact ⟨z, fun _ => hz⟩
    · exact ⟨[], fun h => absurd h hi⟩
  let Z0 : Nat → List (List UInt8) := fun i => Classical.choose (hz0 i)
  have hZ0 : ∀ i, i < m → (fun z => SZ W (C i 2) (z.map bs) ∧ ∀ x ∈ z, x.length ≤ maxLen) (Z0 i) := fun i => Classical.choose_spec (hz0 i)
  let X : Nat → MH := fun i => ⟨⟨gStr (C i 0), gInt (C i 1), Z0 i⟩, C i 2⟩
  have hl : ((List.range m).map X).length = m := by simp
  have hk : ∀ i, i < m → mhi ((List.range m).map X) i = X i := fun i hi => by simp [mhi, hi]
  refine ⟨(List.range m).map X, ⟨a, cap, by rw [hl], by rw [hl]; exact h1, h2, fun i hi => ?_⟩, ?_, ?_⟩
  · rw [hl] at hi
    obtain ⟨b, off, ha, hc⟩ := h3 i hi
    refine ⟨b, off, ha, ?_⟩
    rw [hk i hi]
    obtain ⟨q0, y0, t0, _⟩ := hC i hi 0 _ rfl
    obtain ⟨q1, y1, t1, _⟩ := hC i hi 1 _ rfl
    obtain ⟨q2, y2, t2, _⟩ := hC i hi 2 _ rfl
    exact ⟨by rw [← (gStr_of t0).1]; exact hc 0 (by decide), by rw [← gInt_of t1]; exact hc 1 (by decide), hc 2 (by decide)⟩
  · intro xx hxx
    obtain ⟨i, hi, rfl⟩ := List.mem_map.1 hxx
    have hi := List.mem_range.1 hi
    obtain ⟨q0, y0, t0, u0⟩ := hC i hi 0 _ rfl
    obtain ⟨q1, y1, t1, u1⟩ := hC i hi 1 _ rfl
    obtain ⟨q2, y2, t2, u2⟩ := hC i hi 2 _ rfl
    exact (hZ0 i hi).1
  · intro xx hxx
    obtain ⟨i, hi, rfl⟩ := List.mem_map.1 hxx
    have hi := List.mem_range.1 hi
    obtain ⟨q0, y0, t0, u0⟩ := hC i hi 0 _ rfl
    obtain ⟨q1, y1, t1, u1⟩ := hC i hi 1 _ rfl
    obtain ⟨q2, y2, t2, u2⟩ := hC i hi 2 _ rfl
    exact (hZ0 i hi).2
theorem ptss_trod {fuel : Nat} {v : Value} {x : DataW H × List MemPlace} (h : DataW.trod enc Tryz.prog W 0 (fun _ => true) true fuel 115 [v] = some x) : ∃ (holes : List (List Pnt)) (hvs : List Value), hvs.length = holes.length ∧ (Sl W v hvs.length fun i => hvs.getD i default) ∧ ∀ i, i < holes.length → SPt W (hvs.getD i default) (holes.getD i []) := by
  obtain ⟨v', m, C, hcs, ⟨a, cap, rfl, h1, h2, h3⟩, hC⟩ := open_rowsB (n := 1) Tryz.underlying115 (by kernel_rfl : leavesOf Tryz.prog 1 114 = some [114]) (by kernel_rfl) (by decide) h
  simp at hcs
  subst hcs
  have hz : ∀ i, ∃ z : List Pnt, i < m → SPt W (C i 0) z := by
    intro i
    by_cases hi : i < m
    · obtain ⟨q, y, t, _⟩ := hC i hi 0 _ rfl
      obtain ⟨z, hz⟩ := pts_trod t
      exact ⟨z, fun _ => hz⟩
    · exact ⟨[], fun h => absurd h hi⟩
  let Z : Nat → List Pnt := fun i => Classical.choose (hz i)
  have hZ : ∀ i, i < m → SPt W (C i 0) (Z i) := fun i => Classical.choose_spec (hz i)
  refine ⟨(List.range m).map Z, (List.range m).map fun i => C i 0, by simp, ⟨a, cap, by simp, by simpa using h1, h2, fun i hi => ?_⟩, fun i hi => ?_⟩
  · have hi : i < m := by simpa using hi
    obtain ⟨b, off, ha, hc⟩ := h3 i hi
    refine ⟨b, off, ha, ?_⟩
    have := hc 0 (by decide)
    simpa [hi] using this
  · have hi : i < m := by simpa using hi
    have e1 : ((List.range m).map fun i => C i 0).getD i default = C i 0 := by simp [hi]
    have e2 : ((List.range m).map Z).getD i [] = Z i := by simp [hi]
    rw [e1, e2]
    exact hZ i hi
theorem pts_one {fuel : Nat} {v : Value} {x : DataW H × List MemPlace} (h : DataW.trod enc Tryz.prog W 0 (fun _ => true) true fuel 114 [v] = some x) : ∃ z : List Pnt, SPt W v z := pts_trod h
theorem ptss_one {fuel : Nat} {v : Value} {x : DataW H × List MemPlace} (h : DataW.trod enc Tryz.prog W 0 (fun _ => true) true fuel 115 [v] = some x) : ∃ z : List (List Pnt) × List Value, z.2.length = z.1.length ∧ (Sl W v z.2.length fun i => z.2.getD i default) ∧ ∀ i, i < z.1.length → SPt W (z.2.getD i default) (z.1.getD i []) := by
  obtain ⟨a, b, h⟩ := ptss_trod h
  exact ⟨(a, b), h⟩
theorem leaves_prts : leavesOf Tryz.prog 4 123 = some [9, 3, 3, 9, 9, 3, 114, 115, 9, 3, 3, 3, 3, 3, 3, 3, 3, 3] := by kernel_rfl
theorem prts_trod {fuel : Nat} {v : Value} {x : DataW H × List MemPlace} (h : DataW.trod enc Tryz.prog W 0 (fun _ => true) true fuel 23 [v] = some x) : ∃ l : List Prt, SPr W v l ∧ (∀ y ∈ l, PrtOK W y) ∧ (∀ y ∈ l, y.id.length ≤ Rows.uptoBulk x.1 ∧ y.node.length ≤ Rows.uptoBulk x.1) := by
  obtain ⟨v', m, C, hcs, ⟨a, cap, rfl, h1, h2, h3⟩, hC⟩ := open_rowsB Tryz.underlying23 leaves_prts (by kernel_rfl) (by decide) h
  simp at hcs
  subst hcs
  have hz0 : ∀ i, ∃ z : List Pnt, i < m → SPt W (C i 6) z := by
    intro i
    by_cases hi : i < m
    · obtain ⟨q, y, t, _⟩ := hC i hi 6 _ rfl
      obtain ⟨z, hz⟩ := pts_one t
      exact ⟨z, fun _ => hz⟩
    · exact ⟨[], fun h => absurd h hi⟩
  let Z0 : Nat → List Pnt := fun i => Classical.choose (hz0 i)
  have hZ0 : ∀ i, i < m → (fun z => SPt W (C i 6) z) (Z0 i) := fun i => Classical.choose_spec (hz0 i)
  have hz1 : ∀ i, ∃ z : List (List Pnt) × List Value, i < m → z.2.length = z.1.length ∧ (Sl W (C i 7) z.2.length fun i => z.2.getD i default) ∧ ∀ i, i < z.1.length → SPt W (z.2.getD i default) (z.1.getD i []) := by
    intro i
    by_cases hi : i < m
    · obtain ⟨q, y, t, _⟩ := hC i hi 7 _ rfl
      obtain ⟨z, hz⟩ := ptss_one t
      exact ⟨z, fun _ => hz⟩
    · exact ⟨([], []), fun h => absurd h hi⟩
  let Z1 : Nat → List (List Pnt) × List Value := fun i => Classical.choose (hz1 i)
  have hZ1 : ∀ i, i < m → (fun z => z.2.length = z.1.length ∧ (Sl W (C i 7) z.2.length fun i => z.2.getD i default) ∧ ∀ i, i < z.1.length → SPt W (z.2.getD i default) (z.1.getD i [])) (Z1 i) := fun i => Classical.choose_spec (hz1 i)
  let X : Nat → Prt := fun i => ⟨gStr (C i 0), gInt (C i 1), gInt (C i 2), gStr (C i 3), gStr (C i 4), gInt (C i 5), C i 6, C i 7, gStr (C i 8), gInt (C i 9), gInt (C i 10), gInt (C i 11), gInt (C i 12), gInt (C i 13), gInt (C i 14), gInt (C i 15), gInt (C i 16), gInt (C i 17), Z0 i, (Z1 i).1, (Z1 i).2⟩
  have hl : ((List.range m).map X).length = m := by simp
  have hk : ∀ i, i < m → pri ((List.range m).map X) i = X i := fun i hi => by simp [pri, hi]
  refine ⟨(List.range m).map X, ⟨a, cap, by rw [hl], by rw [hl]; exact h1, h2, fun i hi => ?_⟩, ?_, ?_⟩
  · rw [hl] at hi
    obtain ⟨b, off, ha, hc⟩ := h3 i hi
    refine ⟨b, off, ha, ?_⟩
    rw [hk i hi]
    obtain ⟨q0, y0, t0, _⟩ := hC i hi 0 _ rfl
    obtain ⟨q1, y1, t1, _⟩ := hC i hi 1 _ rfl
    obtain ⟨q2, y2, t2, _⟩ := hC i hi 2 _ rfl
    obtain ⟨q3, y3, t3, _⟩ := hC i hi 3 _ rfl
    obtain ⟨q4, y4, t4, _⟩ := hC i hi 4 _ rfl
    obtain ⟨q5, y5, t5, _⟩ := hC i hi 5 _ rfl
    obtain ⟨q6, y6, t6, _⟩ := hC i hi 6 _ rfl
    obtain ⟨q7, y7, t7, _⟩ := hC i hi 7 _ rfl
    obtain ⟨q8, y8, t8, _⟩ := hC i hi 8 _ rfl
    obtain ⟨q9, y9, t9, _⟩ := hC i hi 9 _ rfl
    obtain ⟨q10, y10, t10, _⟩ := hC i hi 10 _ rfl
    obtain ⟨q11, y11, t11, _⟩ := hC i hi 11 _ rfl
    obtain ⟨q12, y12, t12, _⟩ := hC i hi 12 _ rfl
    obtain ⟨q13, y13, t13, _⟩ := hC i hi 13 _ rfl
    obtain ⟨q14, y14, t14, _⟩ := hC i hi 14 _ rfl
    obtain ⟨q15, y15, t15, _⟩ := hC i hi 15 _ rfl
    obtain ⟨q16, y16, t16, _⟩ := hC i hi 16 _ rfl
    obtain ⟨q17, y17, t17, _⟩ := hC i hi 17 _ rfl
    exact ⟨by rw [← (gStr_of t0).1]; exact hc 0 (by decide), by rw [← gInt_of t1]; exact hc 1 (by decide), by rw [← gInt_of t2]; exact hc 2 (by decide), by rw [← (gStr_of t3).1]; exact hc 3 (by decide), by rw [← (gStr_of t4).1]; exact hc 4 (by decide), by rw [← gInt_of t5]; exact hc 5 (by decide), hc 6 (by decide), hc 7 (by decide), by rw [← (gStr_of t8).1]; exact hc 8 (by decide), by rw [← gInt_of t9]; exact hc 9 (by decide), by rw [← gInt_of t10]; exact hc 10 (by decide), by rw [← gInt_of t11]; exact hc 11 (by decide), by rw [← gInt_of t12]; exact hc 12 (by decide), by rw [← gInt_of t13]; exact hc 13 (by decide), by rw [← gInt_of t14]; exact hc 14 (by decide), by rw [← gInt_of t15]; exact hc 15 (by decide), by rw [← gInt_of t16]; exact hc 16 (by decide), by rw [← gInt_of t17]; exact hc 17 (by decide)⟩
  · intro xx hxx
    obtain ⟨i, hi, rfl⟩ := List.mem_map.1 hxx
    have hi := List.mem_range.1 hi
    obtain ⟨q0, y0, t0, u0⟩ := hC i hi 0 _ rfl
    obtain ⟨q1, y1, t1, u1⟩ := hC i hi 1 _ rfl
    obtain ⟨q2, y2, t2, u2⟩ := hC i hi 2 _ rfl
    obtain ⟨q3, y3, t3, u3⟩ := hC i hi 3 _ rfl
    obtain ⟨q4, y4, t4, u4⟩ := hC i hi 4 _ rfl
    obtain ⟨q5, y5, t5, u5⟩ := hC i hi 5 _ rfl
    obtain ⟨q6, y6, t6, u6⟩ := hC i hi 6 _ rfl
    obtain ⟨q7, y7, t7, u7⟩ := hC i hi 7 _ rfl
    obtain ⟨q8, y8, t8, u8⟩ := hC i hi 8 _ rfl
    obtain ⟨q9, y9, t9, u9⟩ := hC i hi 9 _ rfl
    obtain ⟨q10, y10, t10, u10⟩ := hC i hi 10 _ rfl
    obtain ⟨q11, y11, t11, u11⟩ := hC i hi 11 _ rfl
    obtain ⟨q12, y12, t12, u12⟩ := hC i hi 12 _ rfl
    obtain ⟨q13, y13, t13, u13⟩ := hC i hi 13 _ rfl
    obtain ⟨q14, y14, t14, u14⟩ := hC i hi 14 _ rfl
    obtain ⟨q15, y15, t15, u15⟩ := hC i hi 15 _ rfl
    obtain ⟨q16, y16, t16, u16⟩ := hC i hi 16 _ rfl
    obtain ⟨q17, y17, t17, u17⟩ := hC i hi 17 _ rfl
    exact ⟨hZ0 i hi, (hZ1 i hi).1, (hZ1 i hi).2.1, (hZ1 i hi).2.2⟩
  · intro xx hxx
    obtain ⟨i, hi, rfl⟩ := List.mem_map.1 hxx
    have hi := List.mem_range.1 hi
    obtain ⟨q0, y0, t0, u0⟩ := hC i hi 0 _ rfl
    obtain ⟨q1, y1, t1, u1⟩ := hC i hi 1 _ rfl
    obtain ⟨q2, y2, t2, u2⟩ := hC i hi 2 _ rfl
    obtain ⟨q3, y3, t3, u3⟩ := hC i hi 3 _ rfl
    obtain ⟨q4, y4, t4, u4⟩ := hC i hi 4 _ rfl
    obtain ⟨q5, y5, t5, u5⟩ := hC i hi 5 _ rfl
    obtain ⟨q6, y6, t6, u6⟩ := hC i hi 6 _ rfl
    obtain ⟨q7, y7, t7, u7⟩ := hC i hi 7 _ rfl
    obtain ⟨q8, y8, t8, u8⟩ := hC i hi 8 _ rfl
    obtain ⟨q9, y9, t9, u9⟩ := hC i hi 9 _ rfl
    obtain ⟨q10, y10, t10, u10⟩ := hC i hi 10 _ rfl
    obtain ⟨q11, y11, t11, u11⟩ := hC i hi 11 _ rfl
    obtain ⟨q12, y12, t12, u12⟩ := hC i hi 12 _ rfl
    obtain ⟨q13, y13, t13, u13⟩ := hC i hi 13 _ rfl
    obtain ⟨q14, y14, t14, u14⟩ := hC i hi 14 _ rfl
    obtain ⟨q15, y15, t15, u15⟩ := hC i hi 15 _ rfl
    obtain ⟨q16, y16, t16, u16⟩ := hC i hi 16 _ rfl
    obtain ⟨q17, y17, t17, u17⟩ := hC i hi 17 _ rfl
    exact ⟨Nat.le_trans (gStr_of t0).2.2 u0, Nat.le_trans (gStr_of t3).2.2 u3⟩
theorem arr_of {cs : Array Value} {l : List Value} (h : cs.size = l.length) (hi : ∀ i (hi : i < l.length), cs[i]? = some l[i]) : cs = l.toArray := by
  apply Array.ext
  · simpa using h
  · intro i h1 h2
    have := hi i (by omega)
    rw [Array.getElem?_eq_getElem h1] at this
    simpa using this
theorem leaves_des : leavesOf Tryz.prog 4 28 = some [9, 22, 23, 24, 25, 26] := by kernel_rfl
theorem leaves_mat : leavesOf Tryz.prog 4 32 = some [29, 30] := by kernel_rfl
theorem leaves_hall : leavesOf Tryz.prog 4 35 = some [9, 22, 23, 24, 25, 26, 33, 3] := by kernel_rfl
theorem slc_trod {fuel : Nat} {t e : TypeId} {v : Value} {x : DataW H × List MemPlace} (ht : Tryz.prog.underlying t = some (.slice e)) (h : DataW.trod enc Tryz.prog W 0 (fun _ => true) true fuel t [v] = some x) : ∃ q : Sv, v = .slice q.a q.n q.c := by
  obtain ⟨a, n, c, e⟩ := slice_trod ht h
  exact ⟨⟨a, n, c⟩, e⟩
set_option maxRecDepth 100000 in
theorem design_arg {b0 : Nat} {v : Value} {d : DataW H} {p : List MemPlace} (hv : Value.okWide Tryz.prog W .any b0 28 v) (h : DataW.Trod enc Tryz.prog W 0 (fun _ => true) true 28 v d p) :
    ∃ (D : Des) (ns : List Nod) (es : List Nd) (ps : List Prt) (ss : List Sea) (ks : List Pkg), v = .agg (desA D) ∧ DesX W D ns es ps ss ks ∧ D.hull.length ≤ maxLen ∧ (∀ y ∈ ns, y.id.length ≤ Rows.uptoBulk d) ∧ (∀ y ∈ es, y.block.length ≤ maxLen ∧ y.on.length ≤ maxLen) ∧ (∀ y ∈ ps, y.id.length ≤ Rows.uptoBulk d ∧ y.node.length ≤ Rows.uptoBulk d) ∧
      (∀ y ∈ ss, y.id.length ≤ Rows.uptoBulk d ∧ y.a.length ≤ Rows.uptoBulk d ∧ y.b.length ≤ Rows.uptoBulk d) ∧ (∀ y ∈ ks, y.id.length ≤ Rows.uptoBulk d) := by
  obtain ⟨cs, rfl, hsz, hc⟩ := open_leavesB Tryz.underlying28 leaves_des (by kernel_rfl) hv h
  obtain ⟨u0, m0, y0, c0, t0, b0⟩ := hc 0 _ rfl
  obtain ⟨u1, m1, y1, c1, t1, b1⟩ := hc 1 _ rfl
  obtain ⟨u2, m2, y2, c2, t2, b2⟩ := hc 2 _ rfl
  obtain ⟨u3, m3, y3, c3, t3, b3⟩ := hc 3 _ rfl
  obtain ⟨u4, m4, y4, c4, t4, b4⟩ := hc 4 _ rfl
  obtain ⟨u5, m5, y5, c5, t5, b5⟩ := hc 5 _ rfl
  obtain ⟨ns, n1, n2⟩ := nodes_trod t1
  obtain ⟨ps, p1, p2, p3⟩ := prts_trod t2
  obtain ⟨ss, s1, s2⟩ := seas_trod t3
  obtain ⟨ks, k1, k2, k3⟩ := packs_trod t4
  obtain ⟨es, e1, e2⟩ := needs_trod t5
  obtain ⟨q1, rfl⟩ := slc_trod Tryz.underlying22 t1
  obtain ⟨q2, rfl⟩ := slc_trod Tryz.underlying23 t2
  obtain ⟨q3, rfl⟩ := slc_trod Tryz.underlying24 t3
  obtain ⟨q4, rfl⟩ := slc_trod Tryz.underlying25 t4
  obtain ⟨q5, rfl⟩ := slc_trod Tryz.underlying26 t5
  have g0 := gStr_of t0
  refine ⟨⟨gStr u0, q1, q2, q3, q4, q5⟩, ns, es, ps, ss, ks, ?_, ⟨⟨n1, e1⟩, p1, s1, k1, p2, k2⟩, g0.2.1, fun y hy => Nat.le_trans (n2 y hy) b1, e2, fun y hy => ⟨Nat.le_trans (p3 y hy).1 b2, Nat.le_trans (p3 y hy).2 b2⟩, fun y hy => ⟨Nat.le_trans (s2 y hy).1 b3, Nat.le_trans (s2 y hy).2.1 b3, Nat.le_trans (s2 y hy).2.2 b3⟩, fun y hy => Nat.le_trans (k3 y hy) b4⟩
  congr 1
  refine arr_of (l := [.string (bs (gStr u0)), .slice q1.a q1.n q1.c, .slice q2.a q2.n q2.c, .slice q3.a q3.n q3.c, .slice q4.a q4.n q4.c, .slice q5.a q5.n q5.c]) hsz fun i hi => ?_
  match i, hi with
  | 0, _ => rw [c0]; exact congrArg some g0.1
  | 1, _ => exact c1
  | 2, _ => exact c2
  | 3, _ => exact c3
  | 4, _ => exact c4
  | 5, _ => exact c5
set_option maxRecDepth 100000 in
theorem mat_arg {b0 : Nat} {v : Value} {d : DataW H} {p : List MemPlace} (hv : Value.okWide Tryz.prog W .any b0 32 v) (h : DataW.Trod enc Tryz.prog W 0 (fun _ => true) true 32 v d p) :
    ∃ (g s : Sv) (gs : List Grd) (cs : List Sct), v = .agg (matA g s) ∧ MatOK W g s gs cs ∧ MatZ gs cs := by
  obtain ⟨cs, rfl, hsz, hc⟩ := open_leavesB Tryz.underlying32 leaves_mat (by kernel_rfl) hv h
  obtain ⟨u0, m0, y0, c0, t0, b0⟩ := hc 0 _ rfl
  obtain ⟨u1, m1, y1, c1, t1, b1⟩ := hc 1 _ rfl
  obtain ⟨gs, n1, n2, n3⟩ := grades_trod t0
  obtain ⟨ss, p1, p2⟩ := sects_trod t1
  obtain ⟨q1, rfl⟩ := slc_trod Tryz.underlying29 t0
  obtain ⟨q2, rfl⟩ := slc_trod Tryz.underlying30 t1
  refine ⟨q1, q2, gs, ss, ?_, ⟨n1, p1, n2⟩, ⟨n3, p2⟩⟩
  congr 1
  refine arr_of (l := [.slice q1.a q1.n q1.c, .slice q2.a q2.n q2.c]) hsz fun i hi => ?_
  match i, hi with
  | 0, _ => exact c0
  | 1, _ => exact c1
set_option maxRecDepth 100000 in
theorem hall_arg {b0 : Nat} {v : Value} {d : DataW H} {p : List MemPlace} (hv : Value.okWide Tryz.prog W .any b0 35 v) (h : DataW.Trod enc Tryz.prog W 0 (fun _ => true) true 35 v d p) :
    ∃ (Dx : Des) (ja : Option Addr) (jc : Nat) (l : List MH) (fr : Int), v = .agg #[.string (bs Dx.hull), .slice Dx.n.a Dx.n.n Dx.n.c, .slice Dx.p.a Dx.p.n Dx.p.c, .slice Dx.s.a Dx.s.n Dx.s.c, .slice Dx.k.a Dx.k.n Dx.k.c, .slice Dx.e.a Dx.e.n Dx.e.c, .slice ja l.length jc, .int .i64 fr] ∧
      SHs W (.slice ja l.length jc) l ∧ Crn W l ∧ ∀ m ∈ l, ∀ c ∈ m.h.cranes, c.length ≤ maxLen := by
  obtain ⟨cs, rfl, hsz, hc⟩ := open_leavesB Tryz.underlying35 leaves_hall (by kernel_rfl) hv h
  obtain ⟨u0, m0, y0, c0, t0, b0⟩ := hc 0 _ rfl
  obtain ⟨u1, m1, y1, c1, t1, b1⟩ := hc 1 _ rfl
  obtain ⟨u2, m2, y2, c2, t2, b2⟩ := hc 2 _ rfl
  obtain ⟨u3, m3, y3, c3, t3, b3⟩ := hc 3 _ rfl
  obtain ⟨u4, m4, y4, c4, t4, b4⟩ := hc 4 _ rfl
  obtain ⟨u5, m5, y5, c5, t5, b5⟩ := hc 5 _ rfl
  obtain ⟨u6, m6, y6, c6, t6, b6⟩ := hc 6 _ rfl
  obtain ⟨u7, m7, y7, c7, t7, b7⟩ := hc 7 _ rfl
  obtain ⟨q1, rfl⟩ := slc_trod Tryz.underlying22 t1
  obtain ⟨q2, rfl⟩ := slc_trod Tryz.underlying23 t2
  obtain ⟨q3, rfl⟩ := slc_trod Tryz.underlying24 t3
  obtain ⟨q4, rfl⟩ := slc_trod Tryz.underlying25 t4
  obtain ⟨q5, rfl⟩ := slc_trod Tryz.underlying26 t5
  obtain ⟨l, j1, j2, j3⟩ := hoists_trod t6
  have g0 := gStr_of t0
  have g7 := gInt_of t7
  obtain ⟨ja, jc, rfl, jr⟩ := id j1
  refine ⟨⟨gStr u0, q1, q2, q3, q4, q5⟩, ja, jc, l, gInt u7, ?_, j1, j2, j3⟩
  congr 1
  refine arr_of (l := [.string (bs (gStr u0)), .slice q1.a q1.n q1.c, .slice q2.a q2.n q2.c, .slice q3.a q3.n q3.c, .slice q4.a q4.n q4.c, .slice q5.a q5.n q5.c, .slice ja l.length jc, .int .i64 (gInt u7)]) hsz fun i hi => ?_
  match i, hi with
  | 0, _ => rw [c0]; exact congrArg some g0.1
  | 1, _ => exact c1
  | 2, _ => exact c2
  | 3, _ => exact c3
  | 4, _ => exact c4
  | 5, _ => exact c5
  | 6, _ => exact c6
  | 7, _ => rw [c7]; exact congrArg some g7
end
end Go.Proofs.YtfpnjbomlmhlpaaGreat
