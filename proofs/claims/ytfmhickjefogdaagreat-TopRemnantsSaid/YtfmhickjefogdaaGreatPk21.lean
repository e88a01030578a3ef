/- The law for every sheet that fits the form's own reach. -/
import Derived.Test.YtfmhickjefogdaaGreatPk20
import Derived.Deep.DeepHandedRow
import Derived.SizedLaws
import Derived.HandedShaped
set_option linter.unusedSimpArgs false
set_option linter.unusedVariables false

/- The arguments of the law, opened: a nest, a sheet, parts (printed by wip/gen_rnfr.py). -/
namespace Go.Proofs.YtfmhickjefogdaaGreat
open Go.ChangeShapes Go.WideShapes Go.ChangeAt Go.RowKit Go.Deep

section
variable {H : Type}
theorem part_le {d : DataW H} {l : List (DataW H)} (h : d ∈ l) : Rows.uptoBulk d ≤ Rows.uptoBulkAll l := by
  induction l with
  | nil => cases h
  | cons x r ih =>
    simp only [Rows.uptoBulkAll]
    cases List.mem_cons.1 h with
    | inl e => subst e; omega
    | inr e => have := ih e; omega
theorem agg_le {d : DataW H} {l : List (DataW H)} (h : d ∈ l) : Rows.uptoBulk d ≤ Rows.uptoBulk (.agg l) := by
  have := part_le h
  simp only [Rows.uptoBulk]
  omega
theorem elem_le {d : DataW H} {l r : List (DataW H)} (h : d ∈ l) : Rows.uptoBulk d ≤ Rows.uptoBulk (.slice l r) := by
  have := part_le h
  simp only [Rows.uptoBulk]
  omega
theorem bound {l : List (DataW H)} (hk : Rows.uptoSmall H l = true) : Rows.uptoBulkAll l ≤ 1048576 := by
  unfold Rows.uptoSmall at hk
  rw [decide_eq_true_eq] at hk
  exact hk
end
section
variable {H : Type} {enc : TypeId × Value → H} {P : Program} {w : World} {base : Nat} {spare : Nat → Bool} {held : Bool}
theorem fields_trodB {L : TypeId → Option (List TypeId)} {m N : Nat} {cs : List Value}
    (hL : ∀ (t : TypeId) (ls : List TypeId) (cs' : List Value) (x : DataW H × List MemPlace), L t = some ls → DataW.trod enc P w base spare held m t cs' = some x → cs'.length = ls.length → ∀ (i : Nat) (t' : TypeId), ls[i]? = some t' → ∃ v n y, cs'[i]? = some v ∧ DataW.trod enc P w base spare held n t' [v] = some y ∧ Rows.uptoBulk y.1 ≤ Rows.uptoBulk x.1) :
    ∀ (fs : List Field) (off : Nat) (ls : List TypeId), fieldsOf P L fs off = some ls → off + ls.length ≤ cs.length →
    (∀ (i : Nat) (f : Field), fs[i]? = some f → ∃ x, DataW.trod enc P w base spare held m f.type ((cs.drop f.offset).take (P.cellsOf f.type)) = some x ∧ Rows.uptoBulk x.1 ≤ N) →
    ∀ (i : Nat) (t' : TypeId), ls[i]? = some t' → ∃ v n y, cs[off + i]? = some v ∧ DataW.trod enc P w base spare held n t' [v] = some y ∧ Rows.uptoBulk y.1 ≤ N := by
  intro fs
  induction fs with
  | nil => intro off ls h _ _ i t' hi; simp only [fieldsOf, Option.some.injEq] at h; subst h; simp at hi
  | cons f r ih =>
    intro off ls h hlen hf i t' hi
    unfold fieldsOf at h
    by_cases ho : f.offset = off
    · rw [if_pos ho] at h
      cases hl : L f.type with
      | none => simp [hl] at h
      | some l =>
        rw [hl] at h
        simp only at h
        by_cases hc : P.cellsOf f.type = l.length
        · rw [if_pos hc] at h
          cases hr : fieldsOf P L r (off + l.length) with
          | none => simp [hr] at h
          | some lr =>
            rw [hr] at h
            simp only [Option.map_some, Option.some.injEq] at h
            subst h
            rw [List.length_append] at hlen
            by_cases hil : i < l.length
            · obtain ⟨x, hx, hxN⟩ := hf 0 f rfl
              rw [ho, hc] at hx
              rw [List.getElem?_append_left hil] at hi
              obtain ⟨v, n, y, hv, hy, hyN⟩ := hL f.type l _ x hl hx (by simp; omega) i t' hi
              refine ⟨v, n, y, ?_, hy, Nat.le_trans hyN hxN⟩
              rw [List.getElem?_take, if_pos hil, List.getElem?_drop] at hv
              exact hv
            · rw [List.getElem?_append_right (by omega)] at hi
              obtain ⟨v, n, y, hv, hy⟩ := ih (off + l.length) lr hr (by omega) (fun j g hg => hf (j + 1) g (by simpa using hg)) (i - l.length) t' hi
              refine ⟨v, n, y, ?_, hy⟩
              rw [show off + i = off + l.length + (i - l.length) by omega]; exact hv
        · rw [if_neg hc] at h; cases h
    · rw [if_neg ho] at h; cases h
theorem trod_leavesB : ∀ (n : Nat) (t : TypeId) (ls : List TypeId), leavesOf P n t = some ls → ∀ (fuel : Nat) (cs : List Value) (x : DataW H × List MemPlace), DataW.trod enc P w base spare held fuel t cs = some x → cs.length = ls.length →
    ∀ (i : Nat) (t' : TypeId), ls[i]? = some t' → ∃ v m y, cs[i]? = some v ∧ DataW.trod enc P w base spare held m t' [v] = some y ∧ Rows.uptoBulk y.1 ≤ Rows.uptoBulk x.1 := by
  intro n
  induction n with
  | zero => intro t ls h; simp [leavesOf] at h
  | succ n ih =>
    intro t ls h fuel cs x hx hlen i t' hi
    unfold leavesOf at h
    split at h
    · rename_i fs hs
      obtain ⟨xs, m, _, hxe, _, hxl, hg⟩ := DataW.trod_struct hs hx
      have := fields_trodB (enc := enc) (P := P) (w := w) (base := base) (spare := spare) (held := held) (L := leavesOf P n) (m := m) (N := Rows.uptoBulk x.1) (cs := cs) (fun t ls cs' x h1 h2 h3 => ih t ls h1 m cs' x h2 h3) fs.toList 0 ls h (by omega) (fun j f hj => by
        have hj' : fs[j]? = some f := by simpa using hj
        have := hg j f hj'
        have hjl : j < fs.size := (Array.getElem?_eq_some_iff.1 hj').1
        refine ⟨_, this.trans (List.getElem?_eq_getElem (by omega)), ?_⟩
        have e1 : x.1 = .agg (xs.map (·.1)) := by rw [hxe]
        rw [e1]
        exact agg_le (List.mem_map.2 ⟨_, List.getElem_mem (by omega), rfl⟩)) i t' hi
      rwa [Nat.zero_add] at this
    · simp only [Option.some.injEq] at h
      subst h
      match cs, hlen with
      | [v], _ =>
        match i, hi with
        | 0, hi => simp only [List.getElem?_cons_zero, Option.some.injEq] at hi; subst hi; exact ⟨v, fuel, x, rfl, hx, Nat.le_refl _⟩
    · cases h
/-- a struct by value: its cells -/
theorem open_leavesB {n : Nat} {t : TypeId} {ls : List TypeId} {fs : Array Field} {r : Go.Reach} {b0 : Nat} {v : Value} {d : DataW H} {p : List MemPlace} (hs : P.underlying t = some (.struct fs)) (hl : leavesOf P n t = some ls) (hC : P.cellsOf t = ls.length)
    (hv : Value.okWide P w r b0 t v) (h : DataW.Trod enc P w base spare held t v d p) :
    ∃ cs : Array Value, v = .agg cs ∧ cs.size = ls.length ∧ ∀ (i : Nat) (t' : TypeId), ls[i]? = some t' → ∃ u m y, cs[i]? = some u ∧ DataW.trod enc P w base spare held m t' [u] = some y ∧ Rows.uptoBulk y.1 ≤ Rows.uptoBulk d := by
  obtain ⟨cs, rfl, hsz⟩ := okWide_struct hs hv
  obtain ⟨fuel, hf⟩ := h
  refine ⟨cs, rfl, hsz.trans hC, fun i t' hi => ?_⟩
  obtain ⟨u, m, y, h1, h2, h3⟩ := trod_leavesB n t ls hl fuel cs.toList (d, p) hf (by simpa using hsz.trans hC) i t' hi
  exact ⟨u, m, y, by simpa using h1, h2, h3⟩
/-- a slice of structs -/
theorem open_rowsB {n : Nat} {t e : TypeId} {ls : List TypeId} {fuel : Nat} {cs : List Value} {x : DataW H × List MemPlace} (ht : P.underlying t = some (.slice e)) (hl : leavesOf P n e = some ls) (hC : P.cellsOf e = ls.length) (hpos : 0 < ls.length)
    (h : DataW.trod enc P w base spare held fuel t cs = some x) :
    ∃ (v : Value) (m : Nat) (C : Nat → Nat → Value), cs = [v] ∧ SR w v m ls.length C ∧ ∀ i, i < m → ∀ (j : Nat) (t' : TypeId), ls[j]? = some t' → ∃ q y, DataW.trod enc P w base spare held q t' [C i j] = some y ∧ Rows.uptoBulk y.1 ≤ Rows.uptoBulk x.1 := by
  rcases open_slice ht h with ⟨h0, _⟩ | ⟨a, len, cap, m, q, D, Pl, hcs, hb, hle, hm, hmm, hx, hi⟩
  · exact ⟨_, 0, fun _ _ => undef, h0, ⟨none, 0, rfl, Nat.le_refl _, Nat.zero_le _, fun i hi => by omega⟩, fun i hi => by omega⟩
  · have hlm : len ≤ m := by rw [hmm]; split <;> omega
    have key : ∀ i, i < len → ∀ (j : Nat) (t' : TypeId), ls[j]? = some t' → ∃ u q y, w.cell? (a.add (i * ls.length + j)) = some u ∧ DataW.trod enc P w base spare held q t' [u] = some y ∧ Rows.uptoBulk y.1 ≤ Rows.uptoBulk x.1 := by
      intro i hil j t' hj
      obtain ⟨cs', hc, ht'⟩ := hi i (by omega)
      rw [hC] at hc
      obtain ⟨_, hcl, hat⟩ := World.cells?_some hc
      obtain ⟨u, q', y, h1, h2, h3⟩ := trod_leavesB n e ls hl q cs' _ ht' hcl j t' hj
      have hjl : j < ls.length := (List.getElem?_eq_some_iff.1 hj).1
      refine ⟨u, q', y, ?_, h2, Nat.le_trans h3 ?_⟩
      · rw [← Go.Deep.add_add, hat j hjl, h1]
      · have e1 : x.1 = .slice ((List.range len).map D) ((List.range (m - len)).map fun j => D (len + j)) := by rw [hx]
        rw [e1]
        exact elem_le (List.mem_map.2 ⟨i, List.mem_range.2 hil, rfl⟩)
    refine ⟨_, len, fun i j => (w.cell? (a.add (i * ls.length + j))).getD undef, hcs, ⟨some a, cap, rfl, hle, hm, fun i hil => ?_⟩, fun i hil j t' hj => ?_⟩
    · have k0 := key 0 (by omega) 0 _ (List.getElem?_eq_getElem hpos)
      obtain ⟨u0, _, _, h0, _⟩ := k0
      obtain ⟨b, off, spot⟩ := a
      have hsp : spot = none := by simpa [Addr.add] using World.cell?_spot h0
      subst hsp
      refine ⟨b, off, rfl, fun j hj => ?_⟩
      obtain ⟨u, _, _, hu, _⟩ := key i hil j _ (List.getElem?_eq_getElem hj)
      have hadd : (⟨b, off, none⟩ : Addr).add (i * ls.length + j) = ⟨b, off + i * ls.length + j, none⟩ := by unfold Addr.add; simp [Nat.add_assoc]
      dsimp only
      rw [← hadd, hu]; rfl
    · obtain ⟨u, q', y, h1, h2, h3⟩ := key i hil j t' hj
      exact ⟨q', y, by dsimp only; rw [h1]; exact h2, h3⟩
end
section
variable {H : Type} {enc : TypeId × Value → H} {W : World}
def gInt : Value → Int | .int .i64 k => k | _ => 0
def gStr : Value → List UInt8 | .string s => s.data.toList | _ => []
theorem gInt_of {q : Nat} {v : Value} {y : DataW H × List MemPlace} (h : DataW.trod enc Tryz.prog W 0 (fun _ => true) true q 3 [v] = some y) : v = .int .i64 (gInt v) := by
  obtain ⟨k, e, _⟩ := int_trod Tryz.underlying3 h
  rw [e]; rfl
theorem gStr_of {q : Nat} {v : Value} {y : DataW H × List MemPlace} (h : DataW.trod enc Tryz.prog W 0 (fun _ => true) true q 9 [v] = some y) : v = .string (bs (gStr v)) ∧ (gStr v).length ≤ maxLen ∧ (gStr v).length ≤ Rows.uptoBulk y.1 := by
  obtain ⟨s, e, ey, hs⟩ := DataW.trod_string Tryz.underlying9 h
  simp only [List.cons.injEq, and_true] at e
  rw [e, ey]
  exact ⟨by show _ = Value.string (bs s.data.toList); rw [bs_of], by show s.data.toList.length ≤ _; rw [Array.length_toList]; exact hs, by show s.data.toList.length ≤ s.data.toList.length + 1; omega⟩
def gBool : Value → Bool | .bool b => b | _ => false
theorem gBool_of {q : Nat} {v : Value} {y : DataW H × List MemPlace} (h : DataW.trod enc Tryz.prog W 0 (fun _ => true) true q 4 [v] = some y) : v = .bool (gBool v) := by
  obtain ⟨k, e, _⟩ := DataW.trod_bool Tryz.underlying4 h
  simp only [List.cons.injEq, and_true] at e
  rw [e]; rfl

theorem leaves_pts : leavesOf Tryz.prog 4 37 = some [3, 3] := by kernel_rfl
theorem pts_trod {fuel : Nat} {v : Value} {x : DataW H × List MemPlace} (h : DataW.trod enc Tryz.prog W 0 (fun _ => true) true fuel 44 [v] = some x) : ∃ l : List Pnt, SPt W v l := by
  obtain ⟨v', m, C, hcs, ⟨a, cap, rfl, h1, h2, h3⟩, hC⟩ := open_rowsB Tryz.underlying44 leaves_pts (by kernel_rfl) (by decide) h
  simp at hcs
  subst hcs
  let X : Nat → Pnt := fun i => ⟨gInt (C i 0), gInt (C i 1)⟩
  have hl : ((List.range m).map X).length = m := by simp
  have hk : ∀ i, i < m → pti ((List.range m).map X) i = X i := fun i hi => by simp [pti, hi]
  refine ⟨(List.range m).map X, ⟨a, cap, by rw [hl], by rw [hl]; exact h1, h2, fun i hi => ?_⟩⟩
  · rw [hl] at hi
    obtain ⟨b, off, ha, hc⟩ := h3 i hi
    refine ⟨b, off, ha, ?_⟩
    rw [hk i hi]
    obtain ⟨q0, y0, t0, _⟩ := hC i hi 0 _ rfl
    obtain ⟨q1, y1, t1, _⟩ := hC i hi 1 _ rfl
    exact ⟨by rw [← gInt_of t0]; exact hc 0 (by decide), by rw [← gInt_of t1]; exact hc 1 (by decide)⟩
theorem ptss_trod {fuel : Nat} {v : Value} {x : DataW H × List MemPlace} (h : DataW.trod enc Tryz.prog W 0 (fun _ => true) true fuel 45 [v] = some x) : ∃ (holes : List (List Pnt)) (hvs : List Value), hvs.length = holes.length ∧ (Sl W v hvs.length fun i => hvs.getD i default) ∧ ∀ i, i < holes.length → SPt W (hvs.getD i default) (holes.getD i []) := by
  obtain ⟨v', m, C, hcs, ⟨a, cap, rfl, h1, h2, h3⟩, hC⟩ := open_rowsB (n := 1) Tryz.underlying45 (by kernel_rfl : leavesOf Tryz.prog 1 44 = some [44]) (by kernel_rfl) (by decide) h
  simp at hcs
  subst hcs
  have hz : ∀ i, ∃ z : List Pnt, i < m → SPt W (C i 0) z := by
    intro i
    by_cases hi : i < m
    · obtain ⟨q, y, t, _⟩ := hC i hi 0 _ rfl
      obtain ⟨z, hz⟩ := pts_trod t
      exact ⟨z, fun _ => hz⟩
    · exact ⟨[], fun h => absurd h hi⟩
  let Z : Nat → List Pnt := fun i => Classical.choose (hz i)
  have hZ : ∀ i, i < m → SPt W (C i 0) (Z i) := fun i => Classical.choose_spec (hz i)
  refine ⟨(List.range m).map Z, (List.range m).map fun i => C i 0, by simp, ⟨a, cap, by simp, by simpa using h1, h2, fun i hi => ?_⟩, fun i hi => ?_⟩
  · have hi : i < m := by simpa using hi
    obtain ⟨b, off, ha, hc⟩ := h3 i hi
    refine ⟨b, off, ha, ?_⟩
    have := hc 0 (by decide)
    simpa [hi] using this
  · have hi : i < m := by simpa using hi
    have e1 : ((List.range m).map fun i => C i 0).getD i default = C i 0 := by simp [hi]
    have e2 : ((List.range m).map Z).getD i [] = Z i := by simp [hi]
    rw [e1, e2]
    exact hZ i hi
theorem pts_one {fuel : Nat} {v : Value} {x : DataW H × List MemPlace} (h : DataW.trod enc Tryz.prog W 0 (fun _ => true) true fuel 44 [v] = some x) : ∃ z : List Pnt, SPt W v z := pts_trod h
theorem ptss_one {fuel : Nat} {v : Value} {x : DataW H × List MemPlace} (h : DataW.trod enc Tryz.prog W 0 (fun _ => true) true fuel 45 [v] = some x) : ∃ z : List (List Pnt) × List Value, z.2.length = z.1.length ∧ (Sl W v z.2.length fun i => z.2.getD i default) ∧ ∀ i, i < z.1.length → SPt W (z.2.getD i default) (z.1.getD i []) := by
  obtain ⟨a, b, h⟩ := ptss_trod h
  exact ⟨(a, b), h⟩
theorem leaves_prts : leavesOf Tryz.prog 4 61 = some [9, 3, 3, 9, 9, 3, 44, 45, 9, 3, 3, 3, 3, 3, 3, 3, 3, 3] := by kernel_rfl
theorem prts_trod {fuel : Nat} {v : Value} {x : DataW H × List MemPlace} (h : DataW.trod enc Tryz.prog W 0 (fun _ => true) true fuel 27 [v] = some x) : ∃ l : List Prt, SPr W v l ∧ (∀ y ∈ l, PrtOK W y) := by
  obtain ⟨v', m, C, hcs, ⟨a, cap, rfl, h1, h2, h3⟩, hC⟩ := open_rowsB Tryz.underlying27 leaves_prts (by kernel_rfl) (by decide) h
  simp at hcs
  subst hcs
  have hz0 : ∀ i, ∃ z : List Pnt, i < m → SPt W (C i 6) z := by
    intro i
    by_cases hi : i < m
    · obtain ⟨q, y, t, _⟩ := hC i hi 6 _ rfl
      obtain ⟨z, hz⟩ := pts_one t
      exact ⟨z, fun _ => hz⟩
    · exact ⟨[], fun h => absurd h hi⟩
  let Z0 : Nat → List Pnt := fun i => Classical.choose (hz0 i)
  have hZ0 : ∀ i, i < m → (fun z => SPt W (C i 6) z) (Z0 i) := fun i => Classical.choose_spec (hz0 i)
  have hz1 : ∀ i, ∃ z : List (List Pnt) × List Value, i < m → z.2.length = z.1.length ∧ (Sl W (C i 7) z.2.length fun i => z.2.getD i default) ∧ ∀ i, i < z.1.length → SPt W (z.2.getD i default) (z.1.getD i []) := by
    intro i
    by_cases hi : i < m
    · obtain ⟨q, y, t, _⟩ := hC i hi 7 _ rfl
      obtain ⟨z, hz⟩ := ptss_one t
      exact ⟨z, fun _ => hz⟩
    · exact ⟨([], []), fun h => absurd h hi⟩
  let Z1 : Nat → List (List Pnt) × List Value := fun i => Classical.choose (hz1 i)
  have hZ1 : ∀ i, i < m → (fun z => z.2.length = z.1.length ∧ (Sl W (C i 7) z.2.length fun i => z.2.getD i default) ∧ ∀ i, i < z.1.length → SPt W (z.2.getD i default) (z.1.getD i [])) (Z1 i) := fun i => Classical.choose_spec (hz1 i)
  let X : Nat → Prt := fun i => ⟨gStr (C i 0), gInt (C i 1), gInt (C i 2), gStr (C i 3), gStr (C i 4), gInt (C i 5), C i 6, C i 7, gStr (C i 8), gInt (C i 9), gInt (C i 10), gInt (C i 11), gInt (C i 12), gInt (C i 13), gInt (C i 14), gInt (C i 15), gInt (C i 16), gInt (C i 17), Z0 i, (Z1 i).1, (Z1 i).2⟩
  have hl : ((List.range m).map X).length = m := by simp
  have hk : ∀ i, i < m → pri ((List.range m).map X) i = X i := fun i hi => by simp [pri, hi]
  refine ⟨(List.range m).map X, ⟨a, cap, by rw [hl], by rw [hl]; exact h1, h2, fun i hi => ?_⟩, ?_⟩
  · rw [hl] at hi
    obtain ⟨b, off, ha, hc⟩ := h3 i hi
    refine ⟨b, off, ha, ?_⟩
    rw [hk i hi]
    obtain ⟨q0, y0, t0, _⟩ := hC i hi 0 _ rfl
    obtain ⟨q1, y1, t1, _⟩ := hC i hi 1 _ rfl
    obtain ⟨q2, y2, t2, _⟩ := hC i hi 2 _ rfl
    obtain ⟨q3, y3, t3, _⟩ := hC i hi 3 _ rfl
    obtain ⟨q4, y4, t4, _⟩ := hC i hi 4 _ rfl
    obtain ⟨q5, y5, t5, _⟩ := hC i hi 5 _ rfl
    obtain ⟨q6, y6, t6, _⟩ := hC i hi 6 _ rfl
    obtain ⟨q7, y7, t7, _⟩ := hC i hi 7 _ rfl
    obtain ⟨q8, y8, t8, _⟩ := hC i hi 8 _ rfl
    obtain ⟨q9, y9, t9, _⟩ := hC i hi 9 _ rfl
    obtain ⟨q10, y10, t10, _⟩ := hC i hi 10 _ rfl
    obtain ⟨q11, y11, t11, _⟩ := hC i hi 11 _ rfl
    obtain ⟨q12, y12, t12, _⟩ := hC i hi 12 _ rfl
    obtain ⟨q13, y13, t13, _⟩ := hC i hi 13 _ rfl
    obtain ⟨q14, y14, t14, _⟩ := hC i hi 14 _ rfl
    obtain ⟨q15, y15, t15, _⟩ := hC i hi 15 _ rfl
    obtain ⟨q16, y16, t16, _⟩ := hC i hi 16 _ rfl
    obtain ⟨q17, y17, t17, _⟩ := hC i hi 17 _ rfl
    exact ⟨by rw [← (gStr_of t0).1]; exact hc 0 (by decide), by rw [← gInt_of t1]; exact hc 1 (by decide), by rw [← gInt_of t2]; exact hc 2 (by decide), by rw [← (gStr_of t3).1]; exact hc 3 (by decide), by rw [← (gStr_of t4).1]; exact hc 4 (by decide), by rw [← gInt_of t5]; exact hc 5 (by decide), hc 6 (by decide), hc 7 (by decide), by rw [← (gStr_of t8).1]; exact hc 8 (by decide), by rw [← gInt_of t9]; exact hc 9 (by decide), by rw [← gInt_of t10]; exact hc 10 (by decide), by rw [← gInt_of t11]; exact hc 11 (by decide), by rw [← gInt_of t12]; exact hc 12 (by decide), by rw [← gInt_of t13]; exact hc 13 (by decide), by rw [← gInt_of t14]; exact hc 14 (by decide), by rw [← gInt_of t15]; exact hc 15 (by decide), by rw [← gInt_of t16]; exact hc 16 (by decide), by rw [← gInt_of t17]; exact hc 17 (by decide)⟩
  · intro xx hxx
    obtain ⟨i, hi, rfl⟩ := List.mem_map.1 hxx
    have hi := List.mem_range.1 hi
    obtain ⟨q0, y0, t0, u0⟩ := hC i hi 0 _ rfl
    obtain ⟨q1, y1, t1, u1⟩ := hC i hi 1 _ rfl
    obtain ⟨q2, y2, t2, u2⟩ := hC i hi 2 _ rfl
    obtain ⟨q3, y3, t3, u3⟩ := hC i hi 3 _ rfl
    obtain ⟨q4, y4, t4, u4⟩ := hC i hi 4 _ rfl
    obtain ⟨q5, y5, t5, u5⟩ := hC i hi 5 _ rfl
    obtain ⟨q6, y6, t6, u6⟩ := hC i hi 6 _ rfl
    obtain ⟨q7, y7, t7, u7⟩ := hC i hi 7 _ rfl
    obtain ⟨q8, y8, t8, u8⟩ := hC i hi 8 _ rfl
    obtain ⟨q9, y9, t9, u9⟩ := hC i hi 9 _ rfl
    obtain ⟨q10, y10, t10, u10⟩ := hC i hi 10 _ rfl
    obtain ⟨q11, y11, t11, u11⟩ := hC i hi 11 _ rfl
    obtain ⟨q12, y12, t12, u12⟩ := hC i hi 12 _ rfl
    obtain ⟨q13, y13, t13, u13⟩ := hC i hi 13 _ rfl
    obtain ⟨q14, y14, t14, u14⟩ := hC i hi 14 _ rfl
    obtain ⟨q15, y15, t15, u15⟩ := hC i hi 15 _ rfl
    obtain ⟨q16, y16, t16, u16⟩ := hC i hi 16 _ rfl
    obtain ⟨q17, y17, t17, u17⟩ := hC i hi 17 _ rfl
    exact ⟨hZ0 i hi, (hZ1 i hi).1, (hZ1 i hi).2.1, (hZ1 i hi).2.2⟩
theorem leaves_spots : leavesOf Tryz.prog 4 55 = some [9, 3, 3, 3, 4] := by kernel_rfl
theorem spots_trod {fuel : Nat} {v : Value} {x : DataW H × List MemPlace} (h : DataW.trod enc Tryz.prog W 0 (fun _ => true) true fuel 22 [v] = some x) : ∃ l : List Spo, SSo W v l := by
  obtain ⟨v', m, C, hcs, ⟨a, cap, rfl, h1, h2, h3⟩, hC⟩ := open_rowsB Tryz.underlying22 leaves_spots (by kernel_rfl) (by decide) h
  simp at hcs
  subst hcs
  let X : Nat → Spo := fun i => ⟨gStr (C i 0), gInt (C i 1), gInt (C i 2), gInt (C i 3), gBool (C i 4)⟩
  have hl : ((List.range m).map X).length = m := by simp
  have hk : ∀ i, i < m → soi ((List.range m).map X) i = X i := fun i hi => by simp [soi, hi]
  refine ⟨(List.range m).map X, ⟨a, cap, by rw [hl], by rw [hl]; exact h1, h2, fun i hi => ?_⟩⟩
  · rw [hl] at hi
    obtain ⟨b, off, ha, hc⟩ := h3 i hi
    refine ⟨b, off, ha, ?_⟩
    rw [hk i hi]
    obtain ⟨q0, y0, t0, _⟩ := hC i hi 0 _ rfl
    obtain ⟨q1, y1, t1, _⟩ := hC i hi 1 _ rfl
    obtain ⟨q2, y2, t2, _⟩ := hC i hi 2 _ rfl
    obtain ⟨q3, y3, t3, _⟩ := hC i hi 3 _ rfl
    obtain ⟨q4, y4, t4, _⟩ := hC i hi 4 _ rfl
    exact ⟨by rw [← (gStr_of t0).1]; exact hc 0 (by decide), by rw [← gInt_of t1]; exact hc 1 (by decide), by rw [← gInt_of t2]; exact hc 2 (by decide), by rw [← gInt_of t3]; exact hc 3 (by decide), by rw [← gBool_of t4]; exact hc 4 (by decide)⟩
theorem arr_of {cs : Array Value} {l : List Value} (h : cs.size = l.length) (hi : ∀ i (hi : i < l.length), cs[i]? = some l[i]) : cs = l.toArray := by
  apply Array.ext
  · simpa using h
  · intro i h1 h2
    have := hi i (by omega)
    rw [Array.getElem?_eq_getElem h1] at this
    simpa using this
theorem leaves_nest : leavesOf Tryz.prog 4 24 = some [9, 3, 22] := by kernel_rfl
theorem leaves_sheet : leavesOf Tryz.prog 4 26 = some [9, 9, 3, 3, 3, 9] := by kernel_rfl
set_option maxRecDepth 100000 in
theorem nest_arg {b0 : Nat} {v : Value} {d : DataW H} {p : List MemPlace} (hv : Value.okWide Tryz.prog W .any b0 24 v) (h : DataW.Trod enc Tryz.prog W 0 (fun _ => true) true 24 v d p) :
    ∃ (nm : List UInt8) (gp : Int) (sv : Value) (S : List Spo), v = .agg #[.string (bs nm), .int .i64 gp, sv] ∧ SSo W sv S := by
  obtain ⟨cs, rfl, hsz, hc⟩ := open_leavesB Tryz.underlying24 leaves_nest (by kernel_rfl) hv h
  obtain ⟨u0, m0, y0, c0, t0, b0⟩ := hc 0 _ rfl
  obtain ⟨u1, m1, y1, c1, t1, b1⟩ := hc 1 _ rfl
  obtain ⟨u2, m2, y2, c2, t2, b2⟩ := hc 2 _ rfl
  obtain ⟨S, s1⟩ := spots_trod t2
  have g0 := gStr_of t0
  have g1 := gInt_of t1
  refine ⟨gStr u0, gInt u1, u2, S, ?_, s1⟩
  congr 1
  refine arr_of (l := [.string (bs (gStr u0)), .int .i64 (gInt u1), u2]) hsz fun i hi => ?_
  match i, hi with
  | 0, _ => rw [c0]; exact congrArg some g0.1
  | 1, _ => rw [c1]; exact congrArg some g1
  | 2, _ => exact c2
set_option maxRecDepth 100000 in
theorem sheet_arg {b0 : Nat} {v : Value} {d : DataW H} {p : List MemPlace} (hv : Value.okWide Tryz.prog W .any b0 26 v) (h : DataW.Trod enc Tryz.prog W 0 (fun _ => true) true 26 v d p) :
    ∃ sh : Sht, v = .agg (shtA sh) ∧ sh.id.length ≤ Rows.uptoBulk d := by
  obtain ⟨cs, rfl, hsz, hc⟩ := open_leavesB Tryz.underlying26 leaves_sheet (by kernel_rfl) hv h
  obtain ⟨u0, m0, y0, c0, t0, b0⟩ := hc 0 _ rfl
  obtain ⟨u1, m1, y1, c1, t1, b1⟩ := hc 1 _ rfl
  obtain ⟨u2, m2, y2, c2, t2, b2⟩ := hc 2 _ rfl
  obtain ⟨u3, m3, y3, c3, t3, b3⟩ := hc 3 _ rfl
  obtain ⟨u4, m4, y4, c4, t4, b4⟩ := hc 4 _ rfl
  obtain ⟨u5, m5, y5, c5, t5, b5⟩ := hc 5 _ rfl
  have g0 := gStr_of t0
  have g1 := gStr_of t1
  have g2 := gInt_of t2
  have g3 := gInt_of t3
  have g4 := gInt_of t4
  have g5 := gStr_of t5
  refine ⟨⟨gStr u0, gStr u1, gInt u2, gInt u3, gInt u4, gStr u5⟩, ?_, Nat.le_trans g0.2.2 b0⟩
  congr 1
  refine arr_of (l := [.string (bs (gStr u0)), .string (bs (gStr u1)), .int .i64 (gInt u2), .int .i64 (gInt u3), .int .i64 (gInt u4), .string (bs (gStr u5))]) hsz fun i hi => ?_
  match i, hi with
  | 0, _ => rw [c0]; exact congrArg some g0.1
  | 1, _ => rw [c1]; exact congrArg some g1.1
  | 2, _ => rw [c2]; exact congrArg some g2
  | 3, _ => rw [c3]; exact congrArg some g3
  | 4, _ => rw [c4]; exact congrArg some g4
  | 5, _ => rw [c5]; exact congrArg some g5.1
theorem parts_arg {a : Option Addr} {n c : Nat} {d : DataW H} {p : List MemPlace} (h : DataW.Trod enc Tryz.prog W 0 (fun _ => true) true 27 (.slice a n c) d p) : ∃ l : List Prt, SPr W (.slice a n c) l ∧ ∀ y ∈ l, PrtOK W y := by
  obtain ⟨fuel, hf⟩ := h
  exact prts_trod (v := .slice a n c) hf
end
end Go.Proofs.YtfmhickjefogdaaGreat

/- The law for every sheet that fits the form's own reach. -/
namespace Go.Proofs.YtfmhickjefogdaaGreat
open Go.ChangeShapes Go.WideShapes Go.ChangeAt Go.RowKit Go.Deep

section
variable {H : Type} {enc : TypeId × Value → H} {W : World}
set_option maxRecDepth 100000 in
theorem sheet_sz {sh : Sht} {d : DataW H} {p : List MemPlace} (h : DataW.Trod enc Tryz.prog W 0 (fun _ => true) true 26 (.agg (shtA sh)) d p) : sh.id.length ∈ d.weights Tryz.prog 26 := by
  obtain ⟨fuel, hf⟩ := h
  obtain ⟨xs, m, _, hxe, _, hxl, hg⟩ := DataW.trod_struct Tryz.underlying26 hf
  have hx0 := hg 0 _ rfl
  have hlt : 0 < xs.length := by rw [hxl]; decide
  rw [List.getElem?_eq_getElem hlt] at hx0
  obtain ⟨s, h1, h2, _⟩ := DataW.trod_string Tryz.underlying9 hx0
  have hc : (List.take (Tryz.prog.cellsOf 9) (List.drop 0 (Value.agg (shtA sh)).cells.toList)) = [.string (bs sh.id)] := by
    rw [show Tryz.prog.cellsOf 9 = 1 from by kernel_rfl]; rfl
  have hs : s = bs sh.id := by
    have := h1.symm.trans hc
    simp only [List.cons.injEq, Value.string.injEq, and_true] at this
    exact this
  have e1 : d = .agg (xs.map (·.1)) := congrArg Prod.fst hxe
  rw [e1]
  unfold DataW.weights
  rw [Tryz.underlying26]
  refine DataW.weights_mem_each (j := 0) (t := 9) (d := xs[0].1) rfl (by rw [List.getElem?_map, List.getElem?_eq_getElem hlt]; rfl) _ ?_
  rw [h2, hs]
  simp only [DataW.weights, List.mem_singleton]
  rfl
end
end Go.Proofs.YtfmhickjefogdaaGreat
