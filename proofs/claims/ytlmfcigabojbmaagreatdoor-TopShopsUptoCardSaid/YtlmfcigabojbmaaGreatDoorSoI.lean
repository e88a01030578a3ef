/- slices.Sort and slices.Compact of integers that a call owns. -/
import Derived.Test.YtlmfcigabojbmaaGreatDoorApp
import Derived.Test.YtlmfcigabojbmaaGreatDoorGen
import Derived.Test.YtlmfcigabojbmaaGreatDoorShelf
import Derived.Lib.SlicesCompact
import Derived.Sort.Grow
set_option linter.unusedSimpArgs false
set_option linter.unusedVariables false
namespace Go.Proofs.YtlmfcigabojbmaaGreatDoor
open Go.RowKit

theorem compact_mem {zs : List Int} {x : Int} : x ∈ Lib.compact zs ↔ x ∈ zs := by
  unfold Lib.compact
  have h1 : ∀ m, m ≤ zs.length → ∀ j, j < m → zs.toArray[j]! ∈ Lib.compactUpTo zs.toArray m := by
    intro m
    induction m with
    | zero => intro _ j hj; omega
    | succ m ih =>
      intro hm j hj
      rw [Lib.compactUpTo_succ]
      by_cases hk : Lib.keeps zs.toArray m = true
      · rw [if_pos hk, List.mem_append]
        by_cases e : j = m
        · subst e; exact .inr (List.mem_singleton.2 rfl)
        · exact .inl (ih (by omega) j (by omega))
      · rw [if_neg hk, List.append_nil]
        by_cases e : j = m
        · subst e
          have : ¬ (j = 0 ∨ zs.toArray[j]! ≠ zs.toArray[j - 1]!) := by
            intro h; apply hk; unfold Lib.keeps; exact decide_eq_true h
          have h0 : j ≠ 0 := fun h => this (.inl h)
          have h2 : zs.toArray[j]! = zs.toArray[j - 1]! := by
            by_cases e : zs.toArray[j]! = zs.toArray[j - 1]!
            · exact e
            · exact absurd (.inr e) this
          rw [h2]
          exact ih (by omega) (j - 1) (by omega)
        · exact ih (by omega) j (by omega)
  constructor
  · intro h
    unfold Lib.compactUpTo at h
    obtain ⟨j, hj, rfl⟩ := List.mem_map.1 h
    have := List.mem_range.1 (List.mem_filter.1 hj).1
    rw [getElem!_pos _ j (by simpa using this)]
    simp
  · intro h
    obtain ⟨j, hj, rfl⟩ := List.mem_iff_getElem.1 h
    have := h1 zs.length (Nat.le_refl _) j hj
    rwa [getElem!_pos _ j (by simpa using hj), List.getElem_toArray] at this
theorem compact_len (zs : List Int) : (Lib.compact zs).length ≤ zs.length := by
  unfold Lib.compact Lib.compactUpTo
  rw [List.length_map]
  exact Nat.le_trans (List.length_filter_le _ _) (by simp)
def sortL (zs : List Int) : List Int := zs.mergeSort fun x y => decide (x ≤ y)
theorem sortL_mem {zs : List Int} {x : Int} : x ∈ sortL zs ↔ x ∈ zs := List.mem_mergeSort
theorem sortL_len (zs : List Int) : (sortL zs).length = zs.length := List.length_mergeSort ..
theorem holds_of {w : World} {B g n cap : Nat} {zs : List Int} (ho : OwnI w B (.slice (some ⟨g, 0, none⟩) n cap) zs) : Sort.Holds (Value.int .i64) w g 0 zs.toArray ∧ g < w.heap.size ∧ B ≤ g ∧ n = zs.length ∧ zs.length ≤ cap ∧ cap ≤ maxLen := by
  have ho' : w.ownsRow B 3 1 (.slice (some ⟨g, 0, none⟩) n cap) zs.length (zs.map (Value.int .i64)) := ho
  obtain ⟨hB, hlt⟩ := World.ownsRow.lt ho' g rfl
  have hc := ho'.2
  obtain ⟨hc0, hc1, hc2⟩ : n = zs.length ∧ zs.length ≤ cap ∧ cap ≤ maxLen := by
    rcases hc with ⟨e, _⟩ | ⟨g', cap', cur, e, _, _, h1, h2, _⟩
    · cases e
    · simp at e; obtain ⟨_, e1, rfl⟩ := e; exact ⟨e1, h1, h2⟩
  subst hc0
  refine ⟨fun j hj => ?_, hlt, hB, rfl, hc1, hc2⟩
  simp only [List.size_toArray] at hj
  have e1 := ho'.cellAt j (by simpa using hj)
  refine ⟨?_, ?_⟩
  · rw [Nat.zero_add, e1]; simp [hj]
  · rw [Nat.zero_add]; exact ho'.frozenAt j
theorem put_below (enc : Int → Value) {w : World} {n g : Nat} (hg : n ≤ g) (q : Nat) (d : Array Int) : Below n w (Sort.putRow enc (Sort.ahead w q) g 0 d) :=
  ⟨rfl, rfl, rfl, by rw [Sort.size_putRow]; exact Nat.le_refl _, fun k hk => by
    unfold Sort.putRow Sort.mapBlock
    simp only [Array.getElem?_modify]
    rw [if_neg (by omega)]; rfl⟩
theorem grow_below {w w' : World} {n : Nat} (h : Below n w w') (hn : n ≤ w'.heap.size) (os : Array Obj) : Below n w (Sort.grow w' os) :=
  ⟨h.os, h.tape, h.output, by rw [Sort.size_grow]; exact Nat.le_trans h.size (Nat.le_add_right _ _), fun k hk => by
    simp only [Sort.grow]; rw [Array.getElem?_append_left (by omega)]; exact h.block k hk⟩
/-- it is nil, or one's own, and holds these -/
def RowH (w : World) (B : Nat) (v : Value) (zs : List Int) : Prop := (v = .slice none 0 0 ∧ zs = []) ∨ ∃ g cap, v = .slice (some ⟨g, 0, none⟩) zs.length cap ∧ Sort.Holds (Value.int .i64) w g 0 zs.toArray ∧ g < w.heap.size ∧ B ≤ g ∧ zs.length ≤ cap ∧ cap ≤ maxLen
theorem RowH.of {w : World} {B : Nat} {v : Value} {zs : List Int} (h : OwnI w B v zs) : RowH w B v zs := by
  have h' : w.ownsRow B 3 1 v zs.length (zs.map (Value.int .i64)) := h
  rcases h'.2 with ⟨rfl, hn⟩ | ⟨g, cap, cur, rfl, _⟩
  · exact .inl ⟨rfl, List.eq_nil_of_length_eq_zero hn⟩
  · obtain ⟨h1, h2, h3, _, h5, h6⟩ := holds_of h
    exact .inr ⟨g, cap, rfl, h1, h2, h3, h5, h6⟩
theorem RowH.si {w : World} {B : Nat} {v : Value} {zs : List Int} (h : RowH w B v zs) : SI w v zs := by
  rcases h with ⟨rfl, rfl⟩ | ⟨g, cap, rfl, h1, _, _, h5, h6⟩
  · exact SI_nil w
  · refine ⟨_, cap, rfl, h5, h6, fun i hi => ⟨g, 0, rfl, ?_⟩⟩
    have := (h1 i (by simpa using hi)).1
    rw [this, getElem!_pos _ i (by simpa using hi), List.getElem_toArray]
    dsimp only
    rw [gi_lt hi]
theorem RowH.kept {w w' : World} {B : Nat} {v : Value} {zs : List Int} (h : RowH w B v zs) {row : Option Nat} (hg : w.grownBy w' row) (hne : v.ownBlock ≠ row) : RowH w' B v zs := by
  rcases h with ⟨rfl, rfl⟩ | ⟨g, cap, rfl, h1, h2, h3, h4, h5⟩
  · exact .inl ⟨rfl, rfl⟩
  · have hb : w'.heap[g]? = w.heap[g]? := hg.block g h2 (fun e => hne (by rw [← e]; rfl))
    refine .inr ⟨g, cap, rfl, fun j hj => ?_, Nat.lt_of_lt_of_le h2 hg.size, h3, h4, h5⟩
    obtain ⟨a1, a2⟩ := h1 j hj
    unfold World.cell? World.frozen? at *
    dsimp only at *
    rw [hb]
    exact ⟨a1, a2⟩
/-- slices.Sort -/
theorem sort_any (v : Value) (B : Nat) (zs : List Int) (w : World) (h : RowH w B v zs) (hl : zs.length ≤ 1000000) :
    Calls Tryz.prog 59 #[v] w fun e w' => e = .returned (.tuple #[]) ∧ RowH w' B v (sortL zs) ∧ (∀ n, n ≤ B → n ≤ w.heap.size → Below n w w') ∧ w.grownBy w' v.ownBlock := by
  rcases h with ⟨rfl, rfl⟩ | ⟨g, cap, rfl, h1, h2, h3, h4, h5⟩
  · refine (Tryz.slices_Sort_int_none none 0 w).mono ?_
    rintro e w' ⟨rfl, rfl⟩
    exact ⟨rfl, .inl ⟨rfl, List.eq_nil_of_length_eq_zero (sortL_len [])⟩, fun n _ _ => Below.refl _ _, ⟨rfl, rfl, rfl, Nat.le_refl _, fun _ _ _ => rfl⟩⟩
  · refine (Tryz.slices_Sort_int g 0 cap zs w h1 h2 (by omega)).mono ?_
    rintro e w' ⟨rfl, q, os, rfl⟩
    refine ⟨rfl, .inr ⟨g, cap, by rw [sortL_len], ?_, ?_, h3, by rw [sortL_len]; exact h4, h5⟩, fun n hn hw => ?_, ?_⟩
    · exact Sort.holds_grow _ _ _ _ _ _ (by rw [Sort.size_putRow]; exact h2) (Sort.holds_putRow _ _ _ _ zs.toArray _ (Sort.holds_ahead _ w q g 0 _ h1) (by simp))
    · rw [Sort.size_grow, Sort.size_putRow]
      exact Nat.lt_of_lt_of_le h2 (Nat.le_add_right _ _)
    · exact grow_below (put_below _ (by omega) q _) (by rw [Sort.size_putRow]; exact hw) os
    · refine ⟨rfl, rfl, rfl, by rw [Sort.size_grow, Sort.size_putRow]; exact Nat.le_add_right _ _, fun b hb hne => ?_⟩
      have hb' : b ≠ g := fun e => hne (by rw [e]; rfl)
      have e1 : (Sort.grow (Sort.putRow (Value.int .i64) (Sort.ahead w q) g 0 (zs.mergeSort fun x y => decide (x ≤ y)).toArray) os).heap[b]? = (Sort.putRow (Value.int .i64) (Sort.ahead w q) g 0 (zs.mergeSort fun x y => decide (x ≤ y)).toArray).heap[b]? := by
        simp only [Sort.grow]; rw [Array.getElem?_append_left (by rw [Sort.size_putRow]; exact hb)]
      rw [e1]
      unfold Sort.putRow Sort.mapBlock
      simp only [Array.getElem?_modify]
      rw [if_neg (fun e => hb' e.symm)]
      rfl
/-- slices.Compact: what it returns reads as what is left -/
theorem compact_any (v : Value) (B : Nat) (zs : List Int) (w : World) (h : RowH w B v zs) (hl : zs.length ≤ 1000000) :
    Calls Tryz.prog 60 #[v] w fun e w' => ∃ v', e = .returned v' ∧ SI w' v' (Lib.compact zs) ∧ ∀ n, n ≤ B → Below n w w' := by
  rcases h with ⟨rfl, rfl⟩ | ⟨g, cap, rfl, h1, h2, h3, h4, h5⟩
  · refine (Tryz.slices_Compact_int_empty none 0 w).mono ?_
    rintro e w' ⟨rfl, rfl⟩
    exact ⟨_, rfl, SI_nil _, fun n _ => Below.refl _ _⟩
  · refine (Tryz.slices_Compact_int g 0 cap zs w h1 (by omega) h4).mono ?_
    rintro e w' ⟨rfl, q, rfl⟩
    have hc := compact_len zs
    refine ⟨_, rfl, ⟨_, cap, rfl, by omega, h5, fun i hi => ⟨g, 0, rfl, ?_⟩⟩, fun n hn => put_below _ (by omega) q _⟩
    have hs : (Lib.compact zs ++ List.replicate (zs.length - (Lib.compact zs).length) 0).toArray.size = zs.toArray.size := by simp; omega
    have hh := Sort.holds_putRow (Value.int .i64) (Sort.ahead w q) g 0 zs.toArray _ (Sort.holds_ahead _ w q g 0 _ h1) hs
    have := (hh i (by simp; omega)).1
    rw [this, getElem!_pos _ i (by simp; omega), List.getElem_toArray, List.getElem_append_left hi]
    dsimp only
    rw [gi_lt hi]
end Go.Proofs.YtlmfcigabojbmaaGreatDoor
--names: Tryz.slices_Sort_int Tryz.slices_Sort_int_none Tryz.slices_Compact_int Tryz.slices_Compact_int_empty Tryz.bits_Len
