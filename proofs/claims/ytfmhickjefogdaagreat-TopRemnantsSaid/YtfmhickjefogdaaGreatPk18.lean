/- remnant's columns (printed by wip/gen_ree.py). -/
import Derived.Test.YtfmhickjefogdaaGreatPk01
import Derived.Test.YtfmhickjefogdaaGreatPk04
import Derived.Test.YtfmhickjefogdaaGreatShelf
import Derived.Lib.SlicesCompact
import Derived.Sort.Grow
import Derived.Test.YtfmhickjefogdaaGreatPk16
import Derived.Test.YtfmhickjefogdaaGreatPk14
import Derived.Laws.Cover1
import Derived.Shelf.SlSortCmp.QuietGrown
set_option linter.unusedSimpArgs false
set_option linter.unusedVariables false

/- slices.Sort and slices.Compact of integers that a call owns. -/
namespace Go.Proofs.YtfmhickjefogdaaGreat
open Go.RowKit

theorem compact_mem {zs : List Int} {x : Int} : x ∈ Lib.compact zs ↔ x ∈ zs := by
  unfold Lib.compact
  have h1 : ∀ m, m ≤ zs.length → ∀ j, j < m → zs.toArray[j]! ∈ Lib.compactUpTo zs.toArray m := by
    intro m
    induction m with
    | zero => intro _ j hj; omega
    | succ m ih =>
      intro hm j hj
      rw [Lib.compactUpTo_succ]
      by_cases hk : Lib.keeps zs.toArray m = true
      · rw [if_pos hk, List.mem_append]
        by_cases e : j = m
        · subst e; exact .inr (List.mem_singleton.2 rfl)
        · exact .inl (ih (by omega) j (by omega))
      · rw [if_neg hk, List.append_nil]
        by_cases e : j = m
        · subst e
          have : ¬ (j = 0 ∨ zs.toArray[j]! ≠ zs.toArray[j - 1]!) := by
            intro h; apply hk; unfold Lib.keeps; exact decide_eq_true h
          have h0 : j ≠ 0 := fun h => this (.inl h)
          have h2 : zs.toArray[j]! = zs.toArray[j - 1]! := by
            by_cases e : zs.toArray[j]! = zs.toArray[j - 1]!
            · exact e
            · exact absurd (.inr e) this
          rw [h2]
          exact ih (by omega) (j - 1) (by omega)
        · exact ih (by omega) j (by omega)
  constructor
  · intro h
    unfold Lib.compactUpTo at h
    obtain ⟨j, hj, rfl⟩ := List.mem_map.1 h
    have := List.mem_range.1 (List.mem_filter.1 hj).1
    rw [getElem!_pos _ j (by simpa using this)]
    simp
  · intro h
    obtain ⟨j, hj, rfl⟩ := List.mem_iff_getElem.1 h
    have := h1 zs.length (Nat.le_refl _) j hj
    rwa [getElem!_pos _ j (by simpa using hj), List.getElem_toArray] at this
theorem compact_len (zs : List Int) : (Lib.compact zs).length ≤ zs.length := by
  unfold Lib.compact Lib.compactUpTo
  rw [List.length_map]
  exact Nat.le_trans (List.length_filter_le _ _) (by simp)
def sortL (zs : List Int) : List Int := zs.mergeSort fun x y => decide (x ≤ y)
theorem sortL_mem {zs : List Int} {x : Int} : x ∈ sortL zs ↔ x ∈ zs := List.mem_mergeSort
theorem sortL_len (zs : List Int) : (sortL zs).length = zs.length := List.length_mergeSort ..
theorem holds_of {w : World} {B g n cap : Nat} {zs : List Int} (ho : OwnI w B (.slice (some ⟨g, 0, none⟩) n cap) zs) : Sort.Holds (Value.int .i64) w g 0 zs.toArray ∧ g < w.heap.size ∧ B ≤ g ∧ n = zs.length ∧ zs.length ≤ cap ∧ cap ≤ maxLen := by
  have ho' : w.ownsRow B 3 1 (.slice (some ⟨g, 0, none⟩) n cap) zs.length (zs.map (Value.int .i64)) := ho
  obtain ⟨hB, hlt⟩ := World.ownsRow.lt ho' g rfl
  have hc := ho'.2
  obtain ⟨hc0, hc1, hc2⟩ : n = zs.length ∧ zs.length ≤ cap ∧ cap ≤ maxLen := by
    rcases hc with ⟨e, _⟩ | ⟨g', cap', cur, e, _, _, h1, h2, _⟩
    · cases e
    · simp at e; obtain ⟨_, e1, rfl⟩ := e; exact ⟨e1, h1, h2⟩
  subst hc0
  refine ⟨fun j hj => ?_, hlt, hB, rfl, hc1, hc2⟩
  simp only [List.size_toArray] at hj
  have e1 := ho'.cellAt j (by simpa using hj)
  refine ⟨?_, ?_⟩
  · rw [Nat.zero_add, e1]; simp [hj]
  · rw [Nat.zero_add]; exact ho'.frozenAt j
theorem put_below (enc : Int → Value) {w : World} {n g : Nat} (hg : n ≤ g) (q : Nat) (d : Array Int) : Below n w (Sort.putRow enc (Sort.ahead w q) g 0 d) :=
  ⟨rfl, rfl, rfl, by rw [Sort.size_putRow]; exact Nat.le_refl _, fun k hk => by
    unfold Sort.putRow Sort.mapBlock
    simp only [Array.getElem?_modify]
    rw [if_neg (by omega)]; rfl⟩
theorem grow_below {w w' : World} {n : Nat} (h : Below n w w') (hn : n ≤ w'.heap.size) (os : Array Obj) : Below n w (Sort.grow w' os) :=
  ⟨h.os, h.tape, h.output, by rw [Sort.size_grow]; exact Nat.le_trans h.size (Nat.le_add_right _ _), fun k hk => by
    simp only [Sort.grow]; rw [Array.getElem?_append_left (by omega)]; exact h.block k hk⟩
/-- it is nil, or one's own, and holds these -/
def RowH (w : World) (B : Nat) (v : Value) (zs : List Int) : Prop := (v = .slice none 0 0 ∧ zs = []) ∨ ∃ g cap, v = .slice (some ⟨g, 0, none⟩) zs.length cap ∧ Sort.Holds (Value.int .i64) w g 0 zs.toArray ∧ g < w.heap.size ∧ B ≤ g ∧ zs.length ≤ cap ∧ cap ≤ maxLen
theorem RowH.of {w : World} {B : Nat} {v : Value} {zs : List Int} (h : OwnI w B v zs) : RowH w B v zs := by
  have h' : w.ownsRow B 3 1 v zs.length (zs.map (Value.int .i64)) := h
  rcases h'.2 with ⟨rfl, hn⟩ | ⟨g, cap, cur, rfl, _⟩
  · exact .inl ⟨rfl, List.eq_nil_of_length_eq_zero hn⟩
  · obtain ⟨h1, h2, h3, _, h5, h6⟩ := holds_of h
    exact .inr ⟨g, cap, rfl, h1, h2, h3, h5, h6⟩
theorem RowH.si {w : World} {B : Nat} {v : Value} {zs : List Int} (h : RowH w B v zs) : SI w v zs := by
  rcases h with ⟨rfl, rfl⟩ | ⟨g, cap, rfl, h1, _, _, h5, h6⟩
  · exact SI_nil w
  · refine ⟨_, cap, rfl, h5, h6, fun i hi => ⟨g, 0, rfl, ?_⟩⟩
    have := (h1 i (by simpa using hi)).1
    rw [this, getElem!_pos _ i (by simpa using hi), List.getElem_toArray]
    dsimp only
    rw [gi_lt hi]
theorem RowH.kept {w w' : World} {B : Nat} {v : Value} {zs : List Int} (h : RowH w B v zs) {row : Option Nat} (hg : w.grownBy w' row) (hne : v.ownBlock ≠ row) : RowH w' B v zs := by
  rcases h with ⟨rfl, rfl⟩ | ⟨g, cap, rfl, h1, h2, h3, h4, h5⟩
  · exact .inl ⟨rfl, rfl⟩
  · have hb : w'.heap[g]? = w.heap[g]? := hg.block g h2 (fun e => hne (by rw [← e]; rfl))
    refine .inr ⟨g, cap, rfl, fun j hj => ?_, Nat.lt_of_lt_of_le h2 hg.size, h3, h4, h5⟩
    obtain ⟨a1, a2⟩ := h1 j hj
    unfold World.cell? World.frozen? at *
    dsimp only at *
    rw [hb]
    exact ⟨a1, a2⟩
/-- slices.Sort -/
theorem sort_any (v : Value) (B : Nat) (zs : List Int) (w : World) (h : RowH w B v zs) (hl : zs.length ≤ 1000000) :
    Calls Tryz.prog 76 #[v] w fun e w' => e = .returned (.tuple #[]) ∧ RowH w' B v (sortL zs) ∧ (∀ n, n ≤ B → n ≤ w.heap.size → Below n w w') ∧ w.grownBy w' v.ownBlock := by
  rcases h with ⟨rfl, rfl⟩ | ⟨g, cap, rfl, h1, h2, h3, h4, h5⟩
  · refine (Tryz.slices_Sort_int_none none 0 w).mono ?_
    rintro e w' ⟨rfl, rfl⟩
    exact ⟨rfl, .inl ⟨rfl, List.eq_nil_of_length_eq_zero (sortL_len [])⟩, fun n _ _ => Below.refl _ _, ⟨rfl, rfl, rfl, Nat.le_refl _, fun _ _ _ => rfl⟩⟩
  · refine (Tryz.slices_Sort_int g 0 cap zs w h1 h2 (by omega)).mono ?_
    rintro e w' ⟨rfl, q, os, rfl⟩
    refine ⟨rfl, .inr ⟨g, cap, by rw [sortL_len], ?_, ?_, h3, by rw [sortL_len]; exact h4, h5⟩, fun n hn hw => ?_, ?_⟩
    · exact Sort.holds_grow _ _ _ _ _ _ (by rw [Sort.size_putRow]; exact h2) (Sort.holds_putRow _ _ _ _ zs.toArray _ (Sort.holds_ahead _ w q g 0 _ h1) (by simp))
    · rw [Sort.size_grow, Sort.size_putRow]
      exact Nat.lt_of_lt_of_le h2 (Nat.le_add_right _ _)
    · exact grow_below (put_below _ (by omega) q _) (by rw [Sort.size_putRow]; exact hw) os
    · refine ⟨rfl, rfl, rfl, by rw [Sort.size_grow, Sort.size_putRow]; exact Nat.le_add_right _ _, fun b hb hne => ?_⟩
      have hb' : b ≠ g := fun e => hne (by rw [e]; rfl)
      have e1 : (Sort.grow (Sort.putRow (Value.int .i64) (Sort.ahead w q) g 0 (zs.mergeSort fun x y => decide (x ≤ y)).toArray) os).heap[b]? = (Sort.putRow (Value.int .i64) (Sort.ahead w q) g 0 (zs.mergeSort fun x y => decide (x ≤ y)).toArray).heap[b]? := by
        simp only [Sort.grow]; rw [Array.getElem?_append_left (by rw [Sort.size_putRow]; exact hb)]
      rw [e1]
      unfold Sort.putRow Sort.mapBlock
      simp only [Array.getElem?_modify]
      rw [if_neg (fun e => hb' e.symm)]
      rfl
/-- slices.Compact: what it returns reads as what is left -/
theorem compact_any (v : Value) (B : Nat) (zs : List Int) (w : World) (h : RowH w B v zs) (hl : zs.length ≤ 1000000) :
    Calls Tryz.prog 77 #[v] w fun e w' => ∃ v', e = .returned v' ∧ SI w' v' (Lib.compact zs) ∧ ∀ n, n ≤ B → Below n w w' := by
  rcases h with ⟨rfl, rfl⟩ | ⟨g, cap, rfl, h1, h2, h3, h4, h5⟩
  · refine (Tryz.slices_Compact_int_empty none 0 w).mono ?_
    rintro e w' ⟨rfl, rfl⟩
    exact ⟨_, rfl, SI_nil _, fun n _ => Below.refl _ _⟩
  · refine (Tryz.slices_Compact_int g 0 cap zs w h1 (by omega) h4).mono ?_
    rintro e w' ⟨rfl, q, rfl⟩
    have hc := compact_len zs
    refine ⟨_, rfl, ⟨_, cap, rfl, by omega, h5, fun i hi => ⟨g, 0, rfl, ?_⟩⟩, fun n hn => put_below _ (by omega) q _⟩
    have hs : (Lib.compact zs ++ List.replicate (zs.length - (Lib.compact zs).length) 0).toArray.size = zs.toArray.size := by simp; omega
    have hh := Sort.holds_putRow (Value.int .i64) (Sort.ahead w q) g 0 zs.toArray _ (Sort.holds_ahead _ w q g 0 _ h1) hs
    have := (hh i (by simp; omega)).1
    rw [this, getElem!_pos _ i (by simp; omega), List.getElem_toArray, List.getElem_append_left hi]
    dsimp only
    rw [gi_lt hi]
end Go.Proofs.YtfmhickjefogdaaGreat
--names: Tryz.slices_Sort_int Tryz.slices_Sort_int_none Tryz.slices_Compact_int Tryz.slices_Compact_int_empty Tryz.bits_Len

/- remnant's sides (printed by wip/gen_rec.py). -/
namespace Go.Proofs.YtfmhickjefogdaaGreat
open Go.RowKit

theorem compact_asc {zs : List Int} (h : zs.Pairwise (· ≤ ·)) : (Lib.compact zs).Pairwise (· < ·) := by
  unfold Lib.compact Lib.compactUpTo
  rw [List.pairwise_map]
  refine List.Pairwise.imp_of_mem (R := fun a b : Nat => a < b) ?_ (List.Pairwise.sublist List.filter_sublist List.pairwise_lt_range)
  intro a b ha hb hab
  obtain ⟨hb1, hb2⟩ := List.mem_filter.1 hb
  have hb1 := List.mem_range.1 hb1
  unfold Lib.keeps at hb2
  rw [decide_eq_true_eq] at hb2
  rw [List.pairwise_iff_getElem] at h
  have h2 : zs.toArray[b]! ≠ zs.toArray[b - 1]! := by
    rcases hb2 with e | e
    · omega
    · exact e
  have le : ∀ i j, i ≤ j → j < zs.length → zs.toArray[i]! ≤ zs.toArray[j]! := fun i j hij hj => by
    rw [getElem!_pos _ i (by simp; omega), getElem!_pos _ j (by simpa using hj), List.getElem_toArray, List.getElem_toArray]
    rcases Nat.lt_or_eq_of_le hij with g | g
    · exact h i j (by omega) hj g
    · subst g; exact Int.le_refl _
  have h3 := le a (b - 1) (by omega) (by omega)
  have h4 := le (b - 1) b (by omega) hb1
  omega
theorem sortL_asc (zs : List Int) : (sortL zs).Pairwise (· ≤ ·) := by
  have := List.pairwise_mergeSort (le := fun x y : Int => decide (x ≤ y)) (fun a b c h1 h2 => by simp only [decide_eq_true_eq] at *; omega) (fun a b => by simp only [Bool.or_eq_true, decide_eq_true_eq]; omega) zs
  exact this.imp fun h => of_decide_eq_true h
def inL (L x : Int) : Bool := decide (0 ≤ x) && decide (x ≤ L)
def sdV (L : Int) (tk : List Rct) : List Int := [0, L] ++ (tk.flatMap fun t => [t.x0, t.x1]).filter (inL L)
theorem sdV_mem {L : Int} (h0 : 0 ≤ L) {tk : List Rct} {x : Int} : x ∈ sdV L tk ↔ SideS L tk x := by
  unfold sdV SideS
  simp only [List.mem_append, List.mem_cons, List.not_mem_nil, or_false, List.mem_filter, List.mem_flatMap, inL, Bool.and_eq_true, decide_eq_true_eq]
  constructor
  · rintro ((h | h) | ⟨⟨t, h1, h2⟩, h3, h4⟩)
    · exact ⟨by omega, by omega, .inl h⟩
    · exact ⟨by omega, by omega, .inr (.inl h)⟩
    · exact ⟨h3, h4, .inr (.inr ⟨t, h1, h2⟩)⟩
  · rintro ⟨h1, h2, h | h | ⟨t, h3, h4⟩⟩
    · exact .inl (.inl h)
    · exact .inl (.inr h)
    · exact .inr ⟨⟨t, h3, h4⟩, h1, h2⟩
theorem sdV_len (L : Int) (tk : List Rct) : (sdV L tk).length ≤ 2 + 2 * tk.length := by
  unfold sdV
  rw [List.length_append]
  have h2 : (tk.flatMap fun t => [t.x0, t.x1]).length = 2 * tk.length := by
    induction tk with
    | nil => rfl
    | cons t tk ih => rw [List.flatMap_cons, List.length_append, ih, List.length_cons]; simp; omega
  have h1 := List.length_filter_le (inL L) (tk.flatMap fun t => [t.x0, t.x1])
  simp only [List.length_cons, List.length_nil]
  omega
theorem sdV_succ (L : Int) (tk : List Rct) (k : Nat) (h : k < tk.length) : sdV L (tk.take (k + 1)) = sdV L (tk.take k) ++ [(rci tk k).x0, (rci tk k).x1].filter (inL L) := by
  unfold sdV
  have e : tk[k]?.toList = [rci tk k] := by simp [h, rci]
  rw [List.take_add_one, e, List.flatMap_append, List.filter_append, List.append_assoc]
  rfl
theorem sd_step (p : Int → Bool) (A xs : List Int) (j : Nat) (hj : j < xs.length) : A ++ (xs.take (j + 1)).filter p = if p (gi xs j) = true then (A ++ (xs.take j).filter p) ++ [gi xs j] else A ++ (xs.take j).filter p := by
  have e : xs[j]?.toList = [gi xs j] := by simp [hj, gi]
  rw [List.take_add_one, e, List.filter_append]
  by_cases c : p (gi xs j) = true
  · rw [if_pos c, List.append_assoc]; simp [c]
  · rw [if_neg c]; simp [c]
/-- the sides -/
structure SidL (L : Int) (tk : List Rct) (xs : List Int) : Prop where
  asc : xs.Pairwise (· < ·)
  mem : ∀ x, x ∈ xs ↔ SideS L tk x
  len : xs.length ≤ 2 + 2 * tk.length
theorem sidL_of {L : Int} (h0 : 0 ≤ L) (tk : List Rct) : SidL L tk (Lib.compact (sortL (sdV L tk))) :=
  ⟨compact_asc (sortL_asc _), fun _ => (compact_mem.trans sortL_mem).trans (sdV_mem h0), Nat.le_trans (compact_len _) (by rw [sortL_len]; exact sdV_len L tk)⟩
theorem boxP (w : World) (L W : Int) (pa : Option Addr) (pn pc : Nat) : ∃ W1, Hid (ObjAt W1 w.heap.size #[.int .i64 L, .int .i64 W, .slice pa pn pc] 91) ∧ Hid (Below w.heap.size w W1) ∧ Hid (w.alloc (.cells #[.int .i64 L, .int .i64 W, .slice pa pn pc] 91) = W1) ∧ Hid (W1.heap.size = w.heap.size + 1) :=
  ⟨_, ObjAt.new w _ _, (Below.refl _ _).alloc (Nat.le_refl _) _, rfl, by show _ = _; simp⟩
theorem two_int (w : World) (B : Nat) (a b : Int) (hB : B ≤ w.heap.size) : ∃ W1, Hid (OwnI W1 B (.slice (some ⟨w.heap.size, 0, none⟩) 2 2) [a, b]) ∧ Hid (Below w.heap.size w W1) ∧ Hid (w.alloc (.cells #[.int .i64 a, .int .i64 b] 3) = W1) :=
  ⟨_, World.ownsRow_lit w #[.int .i64 a, .int .i64 b] 2 hB (by unfold maxLen; omega) rfl, (Below.refl _ _).alloc (Nat.le_refl _) _, rfl⟩
theorem ix2_0 (a b : Int) (w : World) : (Instr.index 109 (.agg #[.int .i64 a, .int .i64 b]) (.int .i64 0)).run Tryz.prog w = .ok (.int .i64 a) w := by kernel_rfl
theorem ix2_1 (a b : Int) (w : World) : (Instr.index 109 (.agg #[.int .i64 a, .int .i64 b]) (.int .i64 1)).run Tryz.prog w = .ok (.int .i64 b) w := by kernel_rfl
def RetSid (L : Int) (tk : List Rct) (w : World) (e : Ending) (w' : World) : Prop := ∃ v xs, e = .returned v ∧ SI w' v xs ∧ SidL L tk xs ∧ Below w.heap.size w w'
set_option maxRecDepth 100000 in
set_option maxHeartbeats 4000000 in
theorem eSides_any (L W : Int) (v : Value) (tk : List Rct) (w : World) (h : SRc w v tk) (h0 : 0 ≤ L) (hn : tk.length ≤ 32) : Calls Tryz.prog 48 #[.agg #[.int .i64 L, .int .i64 W, v]] w (RetSid L tk w) := by
  obtain ⟨pa, pc, rfl, _, _, p3⟩ := h
  have P3 := Lib.hid p3
  clear p3
  have HSL := Lib.hid (sidL_of h0 tk)
  clear h0
  obtain ⟨W1, HP1, HB1, HW1, HSZ⟩ := boxP w L W pa tk.length pc
  obtain ⟨W2, HO2, HB2, HW2⟩ := two_int W1 W1.heap.size 0 L (Nat.le_refl _)
  go_enter Tryz.func48, Tryz.ntmps48
  go_upto_region 1 with fail
  rw [HW1.out]
  have p0 := HP1.out.cell 0
  dsimp at p0
  go_upto_region 2 with fail
  rw [HW2.out]
  clear p0
  have p2 := (HP1.out.keep HB2.out).cell 2
  dsimp at p2
  go_wp2_with fail
  clear p2 HW1 HW2
  go_loopw [3, 14] (fun s i wr => ∃ k : Nat, k ≤ tk.length ∧ i = .int .i64 k ∧ Hid (Below W1.heap.size W1 wr) ∧ Hid (OwnI wr W1.heap.size s (sdV L (tk.take k)))) (fun _ i _ => tk.length - (intOf i).toNat)
  case atStart => exact ⟨0, Nat.zero_le _, rfl, HB2, HO2⟩
  case round =>
    obtain ⟨k, hk, rfl, hb, ho⟩ := hrel
    by_cases hlt : k < tk.length
    · have i1 : (k : Int) < tk.length := by omega
      obtain ⟨pb, po, rfl, hc⟩ := P3.out k hlt
      have HC := Lib.hid (hc.keep (ext_trans HB1.out hb.out))
      have HTS := Lib.hid (sdV_succ L tk k hlt)
      have HTL : Hid ((sdV L (tk.take k)).length ≤ 66) := by
        have := sdV_len L (tk.take k)
        rw [List.length_take] at this
        show _ ≤ _
        omega
      clear hc
      obtain ⟨⟨tx0, ty0, tx1, ty1⟩, he⟩ : ∃ t, rci tk k = t := ⟨_, rfl⟩
      rw [he] at HC HTS
      clear he
      dsimp only at HTS
      obtain ⟨A, hA⟩ : ∃ A, sdV L (tk.take k) = A := ⟨_, rfl⟩
      rw [hA] at HTS HTL ho
      clear hA
      go_upto_region 4 with fail
      refine wp_region_en 2 gmT gmT_ok [⟨pb, po + k * 4, rcCells ⟨tx0, ty0, tx1, ty1⟩⟩] (fun v => v = wr) [] [(16, .ix k 0)] [(17, .agg (rcA ⟨tx0, ty0, tx1, ty1⟩))] 5 17 39 (#[.int .i64 0, .int .i64 0, .int .i64 0, .int .i64 0]) (rcA ⟨tx0, ty0, tx1, ty1⟩) (by kernel_rfl) rfl ⟨_, _, rfl, ⟨rfl, rfl, rfl⟩, rfl, rfl, rfl⟩ (by decide) alloc_Rect (by kernel_rfl) rfl (rc_one _)
        (obsC (fun u hu => by cases hu; exact (rc_range HC.out)) obsN) trivial ?_
      conv => whnf
      refine And.intro (under_of ⟨rfl, hlt, rfl, rfl⟩) ?_
      conv => whnf
      refine And.intro (Nat.le_of_ble_eq_true rfl) ?_
      conv => whnf
      intro f3
      conv => whnf
      refine And.intro (rfl) ?_
      conv => whnf
      refine And.intro ⟨rfl, rfl⟩ ?_
      intro w2 h2
      conv => whnf
      cases h2
      obtain ⟨W3, HT3, HB3', HW3⟩ := newObj wr (rcA ⟨tx0, ty0, tx1, ty1⟩) 39
      rw [HW3.out]
      have HB3 := Lib.hid (ext_trans hb.out HB3'.out)
      have HO3 := Lib.hid (ho.out.below HB3'.out)
      have r0 := HT3.out.cell 0
      have r2 := HT3.out.cell 2
      simp only [rcA] at r0 r2
      dsimp at r0 r2
      clear HW3 HB3' HT3 ho hb
      go_wp2_with fail
      clear r0 r2
      go_loopw [3, 25] (fun s i wr2 => ∃ j : Nat, j ≤ 2 ∧ i = .int .i64 j ∧ Hid (Below W1.heap.size W1 wr2) ∧ Hid (OwnI wr2 W1.heap.size s (A ++ (([tx0, tx1] : List Int).take j).filter (inL L)))) (fun _ i _ => 2 - (intOf i).toNat)
      case atStart => exact ⟨0, Nat.zero_le _, rfl, HB3, by show OwnI _ _ _ _; rw [show (([tx0, tx1] : List Int).take 0).filter (inL L) = [] from rfl, List.append_nil]; exact HO3.out⟩
      case round =>
        obtain ⟨j, hj, rfl, hb2, ho2⟩ := hrel
        obtain rfl | rfl | rfl : j = 0 ∨ j = 1 ∨ j = 2 := by omega
        · have q0 := (HP1.out.keep hb2.out).cell 0
          dsimp at q0
          have HST := Lib.hid (sd_step (inL L) A [tx0, tx1] 0 (by simp))
          have HLN : Hid ((A ++ (([tx0, tx1] : List Int).take 0).filter (inL L)).length ≤ 68) := by
            have h1 := List.length_filter_le (inL L) (([tx0, tx1] : List Int).take 0)
            have h2 := HTL.out
            rw [List.length_take] at h1
            show _ ≤ _
            rw [List.length_append]
            simp only [List.length_cons, List.length_nil] at h1
            omega
          obtain ⟨Aj, hAj⟩ : ∃ x, A ++ (([tx0, tx1] : List Int).take 0).filter (inL L) = x := ⟨_, rfl⟩
          rw [hAj] at HST HLN ho2
          clear hAj
          go_wp2_with fail
          rw [show (Sem.run Tryz.prog (Instr.index 109 (.agg #[.int .i64 tx0, .int .i64 tx1]) (.int .i64 0)) wr) = .ok (.int .i64 tx0) wr from ix2_0 _ _ _]
          go_wp2_with fail
          refine (eWithin_any tx0 0 L wr).mono ?_
          rintro e w4 ⟨rfl, hb4⟩
          have HB4 := Lib.hid (ext_trans hb2.out hb4)
          have HO4 := Lib.hid (ho2.out.below hb4)
          clear hb2 ho2 hb4 q0
          rw [show gi [tx0, tx1] 0 = tx0 from rfl, show inL L tx0 = (decide (0 ≤ tx0) && decide (tx0 ≤ L)) from rfl] at HST
          obtain ⟨z, hz⟩ : ∃ z, (decide (0 ≤ tx0) && decide (tx0 ≤ L)) = z := ⟨_, rfl⟩
          rw [hz] at HST ⊢
          clear hz
          cases z
          · have HO5 : Hid (OwnI w4 W1.heap.size u3 (A ++ (([tx0, tx1] : List Int).take (0 + 1)).filter (inL L))) := by show OwnI ..; have := HST.out; rw [if_neg (by decide)] at this; rw [this]; exact HO4.out
            clear HST HO4
            go_wp2_with fail
            go_roundw
            case rel => exact ⟨0 + 1, by omega, rfl, HB4, HO5⟩
            case measure => simp [intOf]
          · have HTT : Hid (A ++ (([tx0, tx1] : List Int).take (0 + 1)).filter (inL L) = Aj ++ [tx0]) := by have := HST.out; rw [if_pos rfl] at this; exact this
            clear HST
            obtain ⟨W6, HW6⟩ : ∃ W6, Hid (w4.alloc (.cells #[.int .i64 tx0] 3) = W6) := ⟨_, rfl⟩
            have HB6 : Hid (Below w4.heap.size w4 W6) := by show Below ..; rw [← HW6.out]; exact (Below.refl _ _).alloc (Nat.le_refl _) _
            have HS6 : Hid (SI W6 (.slice (some ⟨w4.heap.size, 0, none⟩) 1 1) [tx0]) := by show SI ..; rw [← HW6.out]; exact SI_one w4 tx0 3
            go_wp2_with (at_builtin; rw [HW6.out]; refine wpList_app_int rfl (.tmp 32) (.tmp 34) rfl W1.heap.size u3 _ Aj [tx0] rfl rfl (HO4.out.below HB6.out) HS6.out (by have := HLN.out; rw [List.length_singleton]; omega) (Nat.le_trans HB4.out.size HB6.out.size) ?_)
            intro v7 w7 ho7 hg7 _
            have HO7 : Hid (OwnI w7 W1.heap.size v7 (A ++ (([tx0, tx1] : List Int).take (0 + 1)).filter (inL L))) := by show OwnI ..; rw [HTT.out]; exact ho7
            have hlt7 : ∀ r, u3.ownBlock = some r → W1.heap.size ≤ r := fun r hr => (World.ownsRow.lt HO4.out r hr).1
            have HB7 := Lib.hid ((ext_trans HB4.out HB6.out).grown hg7 (ext_trans HB4.out HB6.out).size hlt7)
            clear ho7 hg7 hlt7 HW6 HS6 HB6 HO4 HB4 HTT
            go_wp2_with fail
            go_roundw
            case rel => exact ⟨0 + 1, by omega, rfl, HB7, HO7⟩
            case measure => simp [intOf]
        · have q0 := (HP1.out.keep hb2.out).cell 0
          dsimp at q0
          have HST := Lib.hid (sd_step (inL L) A [tx0, tx1] 1 (by simp))
          have HLN : Hid ((A ++ (([tx0, tx1] : List Int).take 1).filter (inL L)).length ≤ 68) := by
            have h1 := List.length_filter_le (inL L) (([tx0, tx1] : List Int).take 1)
            have h2 := HTL.out
            rw [List.length_take] at h1
            show _ ≤ _
            rw [List.length_append]
            simp only [List.length_cons, List.length_nil] at h1
            omega
          obtain ⟨Aj, hAj⟩ : ∃ x, A ++ (([tx0, tx1] : List Int).take 1).filter (inL L) = x := ⟨_, rfl⟩
          rw [hAj] at HST HLN ho2
          clear hAj
          go_wp2_with fail
          rw [show (Sem.run Tryz.prog (Instr.index 109 (.agg #[.int .i64 tx0, .int .i64 tx1]) (.int .i64 1)) wr) = .ok (.int .i64 tx1) wr from ix2_1 _ _ _]
          go_wp2_with fail
          refine (eWithin_any tx1 0 L wr).mono ?_
          rintro e w4 ⟨rfl, hb4⟩
          have HB4 := Lib.hid (ext_trans hb2.out hb4)
          have HO4 := Lib.hid (ho2.out.below hb4)
          clear hb2 ho2 hb4 q0
          rw [show gi [tx0, tx1] 1 = tx1 from rfl, show inL L tx1 = (decide (0 ≤ tx1) && decide (tx1 ≤ L)) from rfl] at HST
          obtain ⟨z, hz⟩ : ∃ z, (decide (0 ≤ tx1) && decide (tx1 ≤ L)) = z := ⟨_, rfl⟩
          rw [hz] at HST ⊢
          clear hz
          cases z
          · have HO5 : Hid (OwnI w4 W1.heap.size u3 (A ++ (([tx0, tx1] : List Int).take (1 + 1)).filter (inL L))) := by show OwnI ..; have := HST.out; rw [if_neg (by decide)] at this; rw [this]; exact HO4.out
            clear HST HO4
            go_wp2_with fail
            go_roundw
            case rel => exact ⟨1 + 1, by omega, rfl, HB4, HO5⟩
            case measure => simp [intOf]
          · have HTT : Hid (A ++ (([tx0, tx1] : List Int).take (1 + 1)).filter (inL L) = Aj ++ [tx1]) := by have := HST.out; rw [if_pos rfl] at this; exact this
            clear HST
            obtain ⟨W6, HW6⟩ : ∃ W6, Hid (w4.alloc (.cells #[.int .i64 tx1] 3) = W6) := ⟨_, rfl⟩
            have HB6 : Hid (Below w4.heap.size w4 W6) := by show Below ..; rw [← HW6.out]; exact (Below.refl _ _).alloc (Nat.le_refl _) _
            have HS6 : Hid (SI W6 (.slice (some ⟨w4.heap.size, 0, none⟩) 1 1) [tx1]) := by show SI ..; rw [← HW6.out]; exact SI_one w4 tx1 3
            go_wp2_with (at_builtin; rw [HW6.out]; refine wpList_app_int rfl (.tmp 32) (.tmp 34) rfl W1.heap.size u3 _ Aj [tx1] rfl rfl (HO4.out.below HB6.out) HS6.out (by have := HLN.out; rw [List.length_singleton]; omega) (Nat.le_trans HB4.out.size HB6.out.size) ?_)
            intro v7 w7 ho7 hg7 _
            have HO7 : Hid (OwnI w7 W1.heap.size v7 (A ++ (([tx0, tx1] : List Int).take (1 + 1)).filter (inL L))) := by show OwnI ..; rw [HTT.out]; exact ho7
            have hlt7 : ∀ r, u3.ownBlock = some r → W1.heap.size ≤ r := fun r hr => (World.ownsRow.lt HO4.out r hr).1
            have HB7 := Lib.hid ((ext_trans HB4.out HB6.out).grown hg7 (ext_trans HB4.out HB6.out).size hlt7)
            clear ho7 hg7 hlt7 HW6 HS6 HB6 HO4 HB4 HTT
            go_wp2_with fail
            go_roundw
            case rel => exact ⟨1 + 1, by omega, rfl, HB7, HO7⟩
            case measure => simp [intOf]
        · have HO5 : Hid (OwnI wr W1.heap.size u3 (sdV L (tk.take (k + 1)))) := by show OwnI ..; rw [HTS.out]; exact ho2.out
          go_wp2_with fail
          go_roundw
          case rel => exact ⟨k + 1, by omega, by go_num, hb2, HO5⟩
          case measure => simp [intOf]; omega
    · have i1 : ¬ (k : Int) < tk.length := by omega
      have e : k = tk.length := by omega
      have HO6 : Hid (OwnI wr W1.heap.size u3 (sdV L tk)) := by show OwnI ..; have := ho.out; rw [e, List.take_length] at this; exact this
      have HLL : Hid ((sdV L tk).length ≤ 66) := by have := sdV_len L tk; show _ ≤ _; omega
      clear e ho
      obtain ⟨zs, hzs⟩ : ∃ zs, sdV L tk = zs := ⟨_, rfl⟩
      rw [hzs] at HO6 HLL HSL
      clear hzs
      go_wp2_with fail
      refine (sort_any _ W1.heap.size zs wr (RowH.of HO6.out) (by have := HLL.out; omega)).mono ?_
      rintro e w8 ⟨rfl, hr8, hb8, _⟩
      have HR8 := Lib.hid hr8
      have HB8 := Lib.hid ((ext_trans HB1.out hb.out).trans (hb8 w.heap.size (by have := HSZ.out; omega) (ext_trans HB1.out hb.out).size))
      clear hr8 hb8 HO6
      go_wp2_with fail
      refine (compact_any _ W1.heap.size (sortL zs) w8 HR8.out (by rw [sortL_len]; have := HLL.out; omega)).mono ?_
      rintro e w9 ⟨v9, rfl, hs9, hb9⟩
      have HB9 := Lib.hid (hb9 w.heap.size (by have := HSZ.out; omega))
      clear hb9
      go_wp2_with fail
      go_ret
      exact ⟨_, _, rfl, hs9, HSL.out, HB8.out.trans HB9.out⟩
end Go.Proofs.YtfmhickjefogdaaGreat

/- The comparisons and the two sorts of remnant. -/
namespace Go.Proofs.YtfmhickjefogdaaGreat
open Go.RowKit Go.Sort

theorem below_grow (w : World) (n : Nat) (os : Array Obj) : Below w.heap.size w (grow (w.drewN n) os) :=
  ⟨rfl, rfl, rfl, by rw [size_grow]; exact Nat.le_add_right _ _, fun k hk => by simp [grow]; rw [Array.getElem?_append_left (by exact hk)]⟩
/-- w' is w after draws, with new blocks behind it -/
def GR (w w' : World) : Prop := ∃ q os, w' = grow (w.drewN q) os
theorem GR.refl (w : World) : GR w w := ⟨0, #[], by rw [grow_empty]; rfl⟩
theorem GR.alloc {w w' : World} (h : GR w w') (o : Obj) : GR w (w'.alloc o) := by
  obtain ⟨q, os, rfl⟩ := h; exact ⟨q, os ++ #[o], by rw [alloc_eq_grow, grow_grow]⟩
/-! cmp.Or of integers -/
def orL : List Int → Int
  | [] => 0
  | x :: xs => if x = 0 then orL xs else x
theorem orL_drop {xs : List Int} : ∀ k, (∀ j, j < k → gi xs j = 0) → orL xs = orL (xs.drop k)
  | 0, _ => by rw [List.drop_zero]
  | k + 1, h => by
    rw [orL_drop k fun j hj => h j (by omega)]
    by_cases hk : k < xs.length
    · rw [List.drop_eq_getElem_cons hk]
      have := h k (by omega)
      rw [gi_lt hk] at this
      show (if xs[k] = 0 then _ else _) = _
      rw [if_pos this]
    · rw [List.drop_eq_nil_of_le (by omega), List.drop_eq_nil_of_le (by omega)]
theorem orL_at {xs : List Int} {k : Nat} (hk : k < xs.length) (h : ∀ j, j < k → gi xs j = 0) (hx : gi xs k ≠ 0) : orL xs = gi xs k := by
  rw [orL_drop k h, List.drop_eq_getElem_cons hk]
  rw [gi_lt hk] at *
  exact if_neg hx
set_option maxRecDepth 100000 in
theorem or_any (v : Value) (xs : List Int) (w : World) (h : SI w v xs) : Calls Tryz.prog 21 #[v] w fun e w' => e = .returned (.int .i64 (orL xs)) ∧ w' = w := by
  obtain ⟨pa, pc, rfl, c0, c1, p3⟩ := h
  have P3 := Lib.hid p3
  clear p3
  have hm : xs.length ≤ 9223372036854775807 := by unfold maxLen at c1; omega
  clear c0 c1
  go_enter Tryz.func21, Tryz.ntmps21
  go_wp2_with fail
  go_loopw [8] (fun i wr => ∃ k : Nat, k ≤ xs.length ∧ i = .int .i64 k ∧ wr = w ∧ Hid (∀ j, j < k → gi xs j = 0)) (fun i _ => xs.length - (intOf i).toNat)
  case atStart => exact ⟨0, Nat.zero_le _, rfl, rfl, fun j hj => by omega⟩
  case round =>
    obtain ⟨k, hk, rfl, hw, hz⟩ := hrel
    subst hw
    by_cases hlt : k < xs.length
    · have i1 : (k : Int) < xs.length := by omega
      obtain ⟨pb, po, rfl, hc⟩ := P3.out k hlt
      obtain ⟨x, hx⟩ : ∃ x, Hid (gi xs k = x) := ⟨_, rfl⟩
      rw [hx.out] at hc
      by_cases h0 : x = 0
      · have HZ2 : Hid (∀ j, j < k + 1 → gi xs j = 0) := fun j hj => by
          rcases Nat.lt_or_eq_of_le (Nat.lt_succ_iff.1 hj) with g | g
          · exact hz.out j g
          · subst g; rw [hx.out]; exact h0
        subst h0
        clear hz hx
        go_wp2_with fail
        go_roundw
        case rel => exact ⟨k + 1, by omega, by go_num, trivial, HZ2⟩
        case measure => simp [intOf]; omega
      · have C : Hid (orL xs = x) := by show orL xs = x; rw [← hx.out]; exact orL_at hlt hz.out (by rw [hx.out]; exact h0)
        have hb : (x != 0) = true := by simpa using h0
        clear hz hx
        go_wp2_with fail
        go_ret
        exact ⟨ret_int C.out.symm, rfl⟩
    · have i1 : ¬ (k : Int) < xs.length := by omega
      have e : k = xs.length := by omega
      have C : Hid (orL xs = 0) := by show orL xs = 0; rw [orL_drop k hz.out, List.drop_eq_nil_of_le (by omega)]; rfl
      clear hz e
      go_wp2_with fail
      go_ret
      exact ⟨ret_int C.out.symm, rfl⟩
/-! numbers kept small, so that a difference tells the order -/
def clp (x : Int) : Int := max (-1000000) (min x 1000000)
theorem clp_in (x : Int) : -1000000 ≤ clp x ∧ clp x ≤ 1000000 := by unfold clp; omega
theorem clp_id {x : Int} (h : -1000000 ≤ x) (h' : x ≤ 1000000) : clp x = x := by unfold clp; omega
def snE (s : Spn) : List Value := [.int .i64 (clp s.a), .int .i64 (clp s.b)]
theorem snE_one (x : Spn) : ∀ v ∈ snE x, v.oneCell' = true := by
  intro v hv
  simp only [snE, List.mem_cons, List.not_mem_nil, or_false] at hv
  rcases hv with rfl | rfl <;> rfl
def SmSn (s : Spn) : Prop := -1000000 ≤ s.a ∧ s.a ≤ 1000000 ∧ -1000000 ≤ s.b ∧ s.b ≤ 1000000
theorem snE_id {s : Spn} (h : SmSn s) : snE s = snCells s := by unfold snE snCells; rw [clp_id h.1 h.2.1, clp_id h.2.2.1 h.2.2.2]
def snCmp (x y : Spn) : Int := clp x.a - clp y.a
theorem swo_sn : Sort.SWO (ltOf snCmp) := by
  refine ⟨fun x => ?_, fun x y z h1 h2 => ?_, fun x y z h1 h2 => ?_⟩
  · unfold ltOf snCmp; rw [decide_eq_false_iff_not]; omega
  · unfold ltOf snCmp at *; rw [decide_eq_true_eq] at *; omega
  · unfold ltOf snCmp at *; rw [decide_eq_false_iff_not] at *; omega
theorem boxSnG (w : World) (a b : Spn) : ∃ W1, Hid (ObjAt W1 w.heap.size (snA a) 113) ∧ Hid (ObjAt W1 (w.heap.size + 1) (snA b) 113) ∧ Hid (GR w W1) ∧ Hid ((w.alloc (.cells #[.int .i64 a.a, .int .i64 a.b] 113)).alloc (.cells #[.int .i64 b.a, .int .i64 b.b] 113) = W1) :=
  ⟨_, (ObjAt.new w (snA a) 113).alloc _, (by have h := ObjAt.new (w.alloc (.cells (snA a) 113)) (snA b) 113; rw [size_alloc] at h; exact h), ((GR.refl w).alloc _).alloc _, rfl⟩
set_option maxRecDepth 100000 in
theorem columns1_any (a b : Spn) (w : World) (h : -1000000 ≤ a.a ∧ a.a ≤ 1000000) (h' : -1000000 ≤ b.a ∧ b.a ≤ 1000000) : Calls Tryz.prog 79 #[.agg #[.int .i64 a.a, .int .i64 a.b], .agg #[.int .i64 b.a, .int .i64 b.b]] w fun e w' => e = .returned (.int .i64 (a.a - b.a)) ∧ GR w w' := by
  obtain ⟨W1, HA, HB, HG, HW⟩ := boxSnG w a b
  have w0 : IntKind.i64.wrap (a.a - b.a) = a.a - b.a := IntWalk.i64_in _ (by omega)
  go_enter Tryz.func79, Tryz.ntmps79
  go_upto_region 1 with fail
  rw [HW.out]
  have p0 := HA.out.cell 0
  have q0 := HB.out.cell 0
  simp only [snA] at p0 q0
  dsimp at p0 q0
  go_wp2_with fail
  go_ret
  exact ⟨rfl, HG.out⟩
theorem enter_columns1 : ∀ args w, (callFunc 79 args).run Tryz.prog w = .ok (.enter 79 args) w := enters_of Tryz.func79 (by kernel_rfl) rfl
theorem agg_Sn : ∀ w, (isAgg 113).run Tryz.prog w = .ok true w := Tryz.isAgg113
theorem size_Sn : ∀ w, (Go.sizeOf 113).run Tryz.prog w = .ok 2 w := Tryz.sizeOf113
theorem flat_same {α : Type} {f g : α → List Value} {l : List α} (h : ∀ x ∈ l, f x = g x) : l.flatMap f = l.flatMap g := by
  induction l with
  | nil => rfl
  | cons x l ih => rw [List.flatMap_cons, List.flatMap_cons, h x (List.mem_cons_self ..), ih fun y hy => h y (List.mem_cons_of_mem _ hy)]
/-- slices.SortFunc of spans -/
theorem sortSn_any (w : World) (B g n cap : Nat) (L : List Spn) (ho : OwnSn w B (.slice (some ⟨g, 0, none⟩) n cap) L) (hr : ∀ s ∈ L, SmSn s) (hl : L.length ≤ 100000) :
    Calls Tryz.prog 78 #[.slice (some ⟨g, 0, none⟩) n cap, .func (.func 79) #[] #[]] w fun e w' =>
      e = .returned (.tuple #[]) ∧ w.grownBy w' (some g) ∧ ∃ L', L'.Perm L ∧ (∀ i j, i < j → j < L'.length → (sni L' i).a ≤ (sni L' j).a) ∧ SSn w' (.slice (some ⟨g, 0, none⟩) n cap) L' := by
  have ho : w.ownsRow B 113 2 (.slice (some ⟨g, 0, none⟩) n cap) L.length (L.flatMap snE) := by
    rw [flat_same (g := snCells) fun x hx => snE_id (hr x hx)]; exact ho
  have hH := holdsK_of (enc := snE) (k := 2) (fun _ => rfl) (by omega) ho
  have hlt := World.ownsRow.lt ho g rfl
  obtain ⟨rfl, hc1, hc2⟩ : n = L.length ∧ L.length ≤ cap ∧ cap ≤ maxLen := by
    rcases ho.2 with ⟨e, _⟩ | ⟨g', cap', cur, e, _, _, h1, h2, _⟩
    · cases e
    · simp at e; obtain ⟨_, e1, rfl⟩ := e; exact ⟨e1, h1, h2⟩
  have hcmp : CmpLays Tryz.prog 79 #[] snE 2 snCmp g 0 L.toArray.size w := fun m os dk _ x y =>
    (columns1_any ⟨clp x.a, clp x.b⟩ ⟨clp y.a, clp y.b⟩ _ (clp_in _) (clp_in _)).mono fun e w' ⟨he, hg⟩ => ⟨he, hg⟩
  have key := AnyQ.slices_SortFunc Tryz.sortS 2 agg_Sn size_Sn snE (fun _ => rfl) snE_one snCmp swo_sn 79 #[] g 0 cap L.toArray w enter_columns1 hcmp hH hlt.2 (by simp; omega)
  rw [List.size_toArray] at key
  refine key.mono ?_
  rintro e w' ⟨rfl, d', q, os, hp, hs, rfl⟩
  have hperm : d'.toList.Perm L := by
    have := perm_in (d := L.toArray) (d' := d') (by rw [List.size_toArray]; exact hp)
    simpa using this
  have hsz : d'.size = L.length := by have := hp.1; simpa using this
  have hel : ∀ i, i < d'.size → sni d'.toList i = d'[i]! := fun i hi => by
    rw [sni_lt (by simpa using hi)]
    simp [hi]
  have hsm : ∀ i, i < d'.size → SmSn d'[i]! := fun i hi => hr _ (hperm.mem_iff.1 (by rw [← hel i hi]; exact sni_mem (by simpa using hi)))
  refine ⟨rfl, below_worldK _ _ _ _ _ _ _, d'.toList, hperm, fun i j hij hj => ?_, ?_⟩
  · have hj : j < d'.size := by simpa using hj
    have := hs i j (Nat.zero_le _) hij (by omega)
    unfold ltOf snCmp at this
    rw [decide_eq_false_iff_not] at this
    rw [hel i (by omega), hel j hj]
    have h1 := hsm i (by omega)
    have h2 := hsm j hj
    unfold SmSn at h1 h2
    rw [clp_id h2.1 h2.2.1, clp_id h1.1 h1.2.1] at this
    omega
  have hln : d'.toList.length = L.length := by simpa using hsz
  refine ⟨_, cap, by rw [hln], by rw [Array.length_toList, hsz]; exact hc1, hc2, fun i hi => ⟨g, 0, rfl, ?_⟩⟩
  rw [Array.length_toList] at hi
  have key : ∀ j, j < 2 → (sortWorldK snE 2 w g 0 L.length d' os).cell? ⟨g, i * 2 + j, none⟩ = some (snE d'[i]!)[j]! := fun j hj => at_worldK hH hlt.2 (by simpa using hsz) hi hj
  rw [snE_id (hsm i hi)] at key
  rw [hel i hi, Nat.zero_add]
  exact ⟨key 0 (by omega), key 1 (by omega)⟩
/-! rectangles -/
def rcE (r : Rct) : List Value := [.int .i64 (clp r.x0), .int .i64 (clp r.y0), .int .i64 (clp r.x1), .int .i64 (clp r.y1)]
theorem rcE_one (x : Rct) : ∀ v ∈ rcE x, v.oneCell' = true := by
  intro v hv
  simp only [rcE, List.mem_cons, List.not_mem_nil, or_false] at hv
  rcases hv with rfl | rfl | rfl | rfl <;> rfl
def SmRc (r : Rct) : Prop := (-1000000 ≤ r.x0 ∧ r.x0 ≤ 1000000 ∧ -1000000 ≤ r.y0 ∧ r.y0 ≤ 1000000) ∧ -1000000 ≤ r.x1 ∧ r.x1 ≤ 1000000 ∧ -1000000 ≤ r.y1 ∧ r.y1 ≤ 1000000
theorem rcE_id {r : Rct} (h : SmRc r) : rcE r = rcCells r := by unfold rcE rcCells; rw [clp_id h.1.1 h.1.2.1, clp_id h.1.2.2.1 h.1.2.2.2, clp_id h.2.1 h.2.2.1, clp_id h.2.2.2.1 h.2.2.2.2]
def rcO (x y : Rct) : Int := orL [x.y0 - y.y0, x.x0 - y.x0, x.y1 - y.y1, x.x1 - y.x1]
def clR (r : Rct) : Rct := ⟨clp r.x0, clp r.y0, clp r.x1, clp r.y1⟩
def rcCmp (x y : Rct) : Int := rcO (clR x) (clR y)
theorem rcCmp_lt (x y : Rct) : ltOf rcCmp x y = decide ((clR x).y0 < (clR y).y0 ∨ ((clR x).y0 = (clR y).y0 ∧ ((clR x).x0 < (clR y).x0 ∨ ((clR x).x0 = (clR y).x0 ∧ ((clR x).y1 < (clR y).y1 ∨ ((clR x).y1 = (clR y).y1 ∧ (clR x).x1 < (clR y).x1)))))) := by
  unfold ltOf rcCmp rcO
  generalize clR x = a
  generalize clR y = b
  rw [Bool.eq_iff_iff, decide_eq_true_eq, decide_eq_true_eq]
  simp only [orL]
  repeat' split
  all_goals omega
theorem swo_rc : Sort.SWO (ltOf rcCmp) := by
  refine ⟨fun x => ?_, fun x y z h1 h2 => ?_, fun x y z h1 h2 => ?_⟩
  · rw [rcCmp_lt, decide_eq_false_iff_not]; omega
  · rw [rcCmp_lt, decide_eq_true_eq] at *; omega
  · rw [rcCmp_lt, decide_eq_false_iff_not] at *; omega
theorem boxRG (w : World) (a b : Rct) : ∃ W1, Hid (ObjAt W1 w.heap.size (rcA a) 39) ∧ Hid (ObjAt W1 (w.heap.size + 1) (rcA b) 39) ∧ Hid (GR w W1) ∧ Hid ((w.alloc (.cells #[.int .i64 a.x0, .int .i64 a.y0, .int .i64 a.x1, .int .i64 a.y1] 39)).alloc (.cells #[.int .i64 b.x0, .int .i64 b.y0, .int .i64 b.x1, .int .i64 b.y1] 39) = W1) :=
  ⟨_, (ObjAt.new w (rcA a) 39).alloc _, (by have h := ObjAt.new (w.alloc (.cells (rcA a) 39)) (rcA b) 39; rw [size_alloc] at h; exact h), ((GR.refl w).alloc _).alloc _, rfl⟩
theorem four_int (w : World) (a b c d : Int) : ∃ W1, Hid (SI W1 (.slice (some ⟨w.heap.size, 0, none⟩) 4 4) [a, b, c, d]) ∧ Hid (∀ w0, GR w0 w → GR w0 W1) ∧ Hid (Below w.heap.size w W1) ∧ Hid (w.alloc (.cells #[.int .i64 a, .int .i64 b, .int .i64 c, .int .i64 d] 3) = W1) :=
  ⟨_, OwnI.si (B := w.heap.size) (World.ownsRow_lit w #[.int .i64 a, .int .i64 b, .int .i64 c, .int .i64 d] 4 (Nat.le_refl _) (by unfold maxLen; omega) rfl), fun _ h => h.alloc _, (Below.refl _ _).alloc (Nat.le_refl _) _, rfl⟩
set_option maxRecDepth 100000 in
set_option maxHeartbeats 1000000 in
theorem frees1_any (a b : Rct) (w : World) (ha : SmRc a) (hb : SmRc b) : Calls Tryz.prog 52 #[.agg #[.int .i64 a.x0, .int .i64 a.y0, .int .i64 a.x1, .int .i64 a.y1], .agg #[.int .i64 b.x0, .int .i64 b.y0, .int .i64 b.x1, .int .i64 b.y1]] w fun e w' => e = .returned (.int .i64 (rcO a b)) ∧ GR w w' := by
  obtain ⟨W1, HA, HB, HG, HW⟩ := boxRG w a b
  obtain ⟨W2, HS, HG2, _, HW2⟩ := four_int W1 (a.y0 - b.y0) (a.x0 - b.x0) (a.y1 - b.y1) (a.x1 - b.x1)
  unfold SmRc at ha hb
  have w0 : IntKind.i64.wrap (a.y0 - b.y0) = a.y0 - b.y0 := IntWalk.i64_in _ (by omega)
  have w1 : IntKind.i64.wrap (a.x0 - b.x0) = a.x0 - b.x0 := IntWalk.i64_in _ (by omega)
  have w2 : IntKind.i64.wrap (a.y1 - b.y1) = a.y1 - b.y1 := IntWalk.i64_in _ (by omega)
  have w3 : IntKind.i64.wrap (a.x1 - b.x1) = a.x1 - b.x1 := IntWalk.i64_in _ (by omega)
  clear ha hb
  go_enter Tryz.func52, Tryz.ntmps52
  go_upto_region 1 with fail
  rw [HW.out]
  have p0 := HA.out.cell 0
  have p1 := HA.out.cell 1
  have p2 := HA.out.cell 2
  have p3 := HA.out.cell 3
  have q0 := HB.out.cell 0
  have q1 := HB.out.cell 1
  have q2 := HB.out.cell 2
  have q3 := HB.out.cell 3
  simp only [rcA] at p0 p1 p2 p3 q0 q1 q2 q3
  dsimp at p0 p1 p2 p3 q0 q1 q2 q3
  go_wp2_with (go_at_call 21; rw [HW2.out]; refine (or_any _ _ W2 HS.out).mono ?_; rintro e w4 ⟨rfl, rfl⟩)
  go_ret
  exact ⟨rfl, HG2.out _ HG.out⟩
theorem enter_frees1 : ∀ args w, (callFunc 52 args).run Tryz.prog w = .ok (.enter 52 args) w := enters_of Tryz.func52 (by kernel_rfl) rfl
theorem agg_Rc : ∀ w, (isAgg 39).run Tryz.prog w = .ok true w := Tryz.isAgg39
theorem size_Rc : ∀ w, (Go.sizeOf 39).run Tryz.prog w = .ok 4 w := Tryz.sizeOf39
theorem isRect_nil (F : FuncId) (w : World) : Calls Tryz.prog 102 #[.slice none 0 0, .int .i64 0, .int .i64 0, .func (.func F) #[] #[]] w fun e w' => e = .returned (.tuple #[]) ∧ w' = w := by
  go_enter Tryz.func102, Tryz.ntmps102
  go_wp2_with fail
  refine wp_loop_rounds 1 ?_
  rw [rounds_succ]
  go_wp2_with fail
  refine bodyPost_end (results_none Tryz.results102 _ _ _) rfl ?_
  exact ⟨rfl, rfl⟩
theorem pdRect_nil (F : FuncId) (n : Int) (w : World) : Calls Tryz.prog 83 #[.slice none 0 0, .int .i64 0, .int .i64 0, .int .i64 n, .func (.func F) #[] #[]] w fun e w' => e = .returned (.tuple #[]) ∧ w' = w := by
  go_enter Tryz.func83, Tryz.ntmps83
  go_wp2_with fail
  refine wp_loop_rounds 1 ?_
  rw [rounds_succ]
  go_wp2_with fail
  refine (isRect_nil F w).mono ?_
  rintro e w1 ⟨rfl, rfl⟩
  go_wp2_with fail
  refine bodyPost_ret (v := .tuple #[]) (results_none Tryz.results83 _ _ _) rfl ?_
  exact ⟨rfl, rfl⟩
theorem sfRect_nil (F : FuncId) (w : World) : Calls Tryz.prog 51 #[.slice none 0 0, .func (.func F) #[] #[]] w fun e w' => e = .returned (.tuple #[]) ∧ w' = w := by
  have hl := Lib.hid (Tryz.bits_Len 0 w (by omega) (by omega))
  go_enter Tryz.func51, Tryz.ntmps51
  go_wp2_with (go_at_call 84; refine hl.out.mono ?_; rintro e w1 ⟨rfl, rfl⟩)
  refine (pdRect_nil F _ _).mono ?_
  rintro e w1 ⟨rfl, rfl⟩
  go_wp2_with fail
  refine bodyPost_end (results_none Tryz.results51 _ _ _) rfl ?_
  exact ⟨rfl, rfl⟩
/-- slices.SortFunc of rectangles: nothing is lost -/
theorem sortRc_any (v : Value) (w : World) (B : Nat) (L : List Rct) (ho : OwnRc w B v L) (hr : ∀ s ∈ L, SmRc s) (hl : L.length ≤ 1000000) :
    Calls Tryz.prog 51 #[v, .func (.func 52) #[] #[]] w fun e w' =>
      e = .returned (.tuple #[]) ∧ w.grownBy w' v.ownBlock ∧ ∃ L', L'.Perm L ∧ SRc w' v L' := by
  have h0 : w.ownsRow B 39 4 v L.length (L.flatMap rcCells) := ho
  rcases h0.2 with ⟨rfl, hn⟩ | ⟨g, cap, cur, rfl, _⟩
  · refine (sfRect_nil _ w).mono ?_
    rintro e w' ⟨rfl, rfl⟩
    have : L = [] := List.length_eq_zero_iff.1 hn
    subst this
    exact ⟨rfl, World.grownBy.refl _ _, [], List.Perm.refl _, (OwnRc_nil _ 0).s⟩
  · have ho : w.ownsRow B 39 4 (.slice (some ⟨g, 0, none⟩) L.length cap) L.length (L.flatMap rcE) := by
      rw [flat_same (g := rcCells) fun x hx => rcE_id (hr x hx)]; exact ho
    have hH := holdsK_of (enc := rcE) (k := 4) (fun _ => rfl) (by omega) ho
    have hlt := World.ownsRow.lt ho g rfl
    obtain ⟨hc1, hc2⟩ : L.length ≤ cap ∧ cap ≤ maxLen := by
      rcases ho.2 with ⟨e, _⟩ | ⟨g', cap', cur, e, _, _, h1, h2, _⟩
      · cases e
      · simp at e; obtain ⟨_, rfl⟩ := e; exact ⟨h1, h2⟩
    have hcmp : CmpLays Tryz.prog 52 #[] rcE 4 rcCmp g 0 L.toArray.size w := fun m os dk _ x y =>
      (frees1_any (clR x) (clR y) _ ⟨⟨(clp_in _).1, (clp_in _).2, (clp_in _).1, (clp_in _).2⟩, (clp_in _).1, (clp_in _).2, (clp_in _).1, (clp_in _).2⟩ ⟨⟨(clp_in _).1, (clp_in _).2, (clp_in _).1, (clp_in _).2⟩, (clp_in _).1, (clp_in _).2, (clp_in _).1, (clp_in _).2⟩).mono fun e w' ⟨he, hg⟩ => ⟨he, hg⟩
    have key := AnyQ.slices_SortFunc Tryz.sortR 4 agg_Rc size_Rc rcE (fun _ => rfl) rcE_one rcCmp swo_rc 52 #[] g 0 cap L.toArray w enter_frees1 hcmp hH hlt.2 (by simp; omega)
    rw [List.size_toArray] at key
    refine key.mono ?_
    rintro e w' ⟨rfl, d', q, os, hp, hs, rfl⟩
    have hperm : d'.toList.Perm L := by
      have := perm_in (d := L.toArray) (d' := d') (by rw [List.size_toArray]; exact hp)
      simpa using this
    have hsz : d'.size = L.length := by have := hp.1; simpa using this
    have hel : ∀ i, i < d'.size → rci d'.toList i = d'[i]! := fun i hi => by
      rw [rci_lt (by simpa using hi)]
      simp [hi]
    have hsm : ∀ i, i < d'.size → SmRc d'[i]! := fun i hi => hr _ (hperm.mem_iff.1 (by rw [← hel i hi]; exact rci_mem (by simpa using hi)))
    refine ⟨rfl, below_worldK _ _ _ _ _ _ _, d'.toList, hperm, ?_⟩
    have hln : d'.toList.length = L.length := by simpa using hsz
    refine ⟨_, cap, by rw [hln], by rw [Array.length_toList, hsz]; exact hc1, hc2, fun i hi => ⟨g, 0, rfl, ?_⟩⟩
    rw [Array.length_toList] at hi
    have key : ∀ j, j < 4 → (sortWorldK rcE 4 w g 0 L.length d' os).cell? ⟨g, i * 4 + j, none⟩ = some (rcE d'[i]!)[j]! := fun j hj => at_worldK hH hlt.2 (by simpa using hsz) hi hj
    rw [rcE_id (hsm i hi)] at key
    rw [hel i hi, Nat.zero_add]
    exact ⟨key 0 (by omega), key 1 (by omega), key 2 (by omega), key 3 (by omega)⟩
end Go.Proofs.YtfmhickjefogdaaGreat

/- remnant's columns (printed by wip/gen_ree.py). -/
namespace Go.Proofs.YtfmhickjefogdaaGreat
open Go.RowKit

theorem alloc_Span : ∀ w, (Instr.alloc 113 true (.tuple #[])).run Tryz.prog w = .ok (.pointer (some ⟨w.heap.size, 0, none⟩)) (w.alloc (.cells #[.int .i64 0, .int .i64 0] 113)) := fun w => by go_simp
theorem sn_one (x : Spn) : (snA x).all (·.oneCell') = true := by simp [snA, Value.oneCell']
theorem spnL_succ (W : Int) (tk : List Rct) (a b : Int) (k : Nat) (h : k < tk.length) : spnL W (tk.take (k + 1)) a b = if inCol a b (rci tk k) = true then spnL W (tk.take k) a b ++ [spnOf (rci tk k)] else spnL W (tk.take k) a b := by
  unfold spnL
  have e : tk[k]?.toList = [rci tk k] := by simp [h, rci]
  rw [List.take_add_one, e, List.filter_append, List.map_append]
  by_cases c : inCol a b (rci tk k) = true
  · rw [if_pos c]; simp [c]
  · rw [if_neg c]; simp [c]
theorem spnL_len (W : Int) (tk : List Rct) (a b : Int) : (spnL W tk a b).length ≤ 1 + tk.length := by
  unfold spnL
  rw [List.length_cons, List.length_map]
  have := List.length_filter_le (inCol a b) tk
  omega
theorem colT_len (W a b : Int) (ss : List Spn) : ∀ k, (colT W a b ss k).length ≤ k
  | 0 => Nat.le_refl _
  | k + 1 => by
    have := colT_len W a b ss k
    unfold colT
    split
    · rw [List.length_append, List.length_singleton]; omega
    · omega
/-- boxes that a plate keeps -/
def TkOK (t : Rct) : Prop := t.x0 < t.x1 ∧ t.y0 < t.y1 ∧ -40000 ≤ t.x0 ∧ t.x1 ≤ 40000 ∧ -40000 ≤ t.y0 ∧ t.y1 ≤ 40000
theorem tkE_ok {L W gp : Int} {ts : List Rct} (h : PlIn L W gp ts) : ∀ t ∈ tkE gp ts, TkOK t := by
  intro t ht
  unfold tkE at ht
  obtain ⟨h1, h2⟩ := List.mem_filter.1 ht
  obtain ⟨u, hu, rfl⟩ := List.mem_map.1 h1
  obtain ⟨i, hi, e⟩ := List.mem_iff_getElem.1 hu
  have := h.t i hi
  rw [rci_lt hi, e] at this
  unfold rctOK enl at h2
  rw [Bool.and_eq_true, decide_eq_true_eq, decide_eq_true_eq] at h2
  have h0 := h.g0
  have h1 := h.g1
  unfold TkOK enl
  dsimp only at *
  omega
theorem spnL_sm {W : Int} (h1 : 1 ≤ W) (h2 : W ≤ 32768) {tk : List Rct} (ht : ∀ t ∈ tk, TkOK t) (a b : Int) : ∀ s ∈ spnL W tk a b, SmSn s ∧ s.a < s.b := by
  intro s hs
  unfold spnL at hs
  rcases List.mem_cons.1 hs with rfl | hs
  · unfold SmSn; dsimp only; omega
  · obtain ⟨t, h3, rfl⟩ := List.mem_map.1 hs
    have := ht t (List.mem_filter.1 h3).1
    unfold TkOK at this
    unfold SmSn spnOf; dsimp only; omega
theorem one_Spn (w : World) (B : Nat) (x : Spn) (hB : B ≤ w.heap.size) : ∃ W1, Hid (OwnSn W1 B (.slice (some ⟨w.heap.size, 0, none⟩) 1 1) [x]) ∧ Hid (Below w.heap.size w W1) ∧ Hid (w.alloc (.cells #[.int .i64 x.a, .int .i64 x.b] 113) = W1) :=
  ⟨_, World.ownsRow_lit w #[.int .i64 x.a, .int .i64 x.b] 1 hB (by unfold maxLen; omega) rfl, (Below.refl _ _).alloc (Nat.le_refl _) _, rfl⟩
theorem OwnSn.form {w : World} {B : Nat} {v : Value} {l : List Spn} (h : OwnSn w B v l) (h0 : 0 < l.length) : ∃ g c, v = .slice (some ⟨g, 0, none⟩) l.length c ∧ B ≤ g ∧ g < w.heap.size := by
  have h1 : w.ownsRow B 113 2 v l.length (l.flatMap snCells) := h
  rcases h1.2 with ⟨_, e⟩ | ⟨g, cap, cur, rfl, _⟩
  · omega
  · have := World.ownsRow.lt h1 g rfl
    exact ⟨g, cap, rfl, this.1, this.2⟩
/-- the columns of two sides -/
def RetCol (W : Int) (tk : List Rct) (a b : Int) (w : World) (e : Ending) (w' : World) : Prop := ∃ v m, e = .returned v ∧ OwnRc w' w.heap.size v m ∧ (∀ r, r ∈ m ↔ ColS W (spnL W tk a b) a b r) ∧ m.length ≤ 40 ∧ Below w.heap.size w w'
set_option maxRecDepth 100000 in
set_option maxHeartbeats 4000000 in
theorem eColumns_any (L W a b : Int) (v : Value) (tk : List Rct) (w : World) (h : SRc w v tk) (hW1 : 1 ≤ W) (hW2 : W ≤ 32768) (htk : ∀ t ∈ tk, TkOK t) (hn : tk.length ≤ 32) : Calls Tryz.prog 49 #[.agg #[.int .i64 L, .int .i64 W, v], .int .i64 a, .int .i64 b] w (RetCol W tk a b w) := by
  obtain ⟨pa, pc, rfl, _, _, p3⟩ := h
  have P3 := Lib.hid p3
  clear p3
  have HSM := Lib.hid (spnL_sm hW1 hW2 htk a b)
  have wW : IntKind.i64.wrap (W + 1) = W + 1 := IntWalk.i64_in _ (by omega)
  clear hW1 hW2 htk
  obtain ⟨W1, HP1, HB1, HW1, HSZ⟩ := boxP w L W pa tk.length pc
  obtain ⟨W2, HO2, HB2, HW2⟩ := one_Spn W1 W1.heap.size ⟨W, W + 1⟩ (Nat.le_refl _)
  go_enter Tryz.func49, Tryz.ntmps49
  go_upto_region 1 with fail
  rw [HW1.out]
  have p1 := HP1.out.cell 1
  dsimp at p1
  go_upto_region 2 with fail
  rw [HW2.out]
  clear p1 wW
  have p2 := (HP1.out.keep HB2.out).cell 2
  dsimp at p2
  go_wp2_with fail
  clear p2 HW1 HW2
  go_loopw [7, 25] (fun s i wr => ∃ k : Nat, k ≤ tk.length ∧ i = .int .i64 k ∧ Hid (Below W1.heap.size W1 wr) ∧ Hid (OwnSn wr W1.heap.size s (spnL W (tk.take k) a b))) (fun _ i _ => tk.length - (intOf i).toNat)
  case atStart => exact ⟨0, Nat.zero_le _, rfl, HB2, HO2⟩
  case round =>
    obtain ⟨k, hk, rfl, hb, ho⟩ := hrel
    by_cases hlt : k < tk.length
    · have i1 : (k : Int) < tk.length := by omega
      obtain ⟨pb, po, rfl, hc⟩ := P3.out k hlt
      have HC := Lib.hid (hc.keep (ext_trans HB1.out hb.out))
      have HTS := Lib.hid (spnL_succ W tk a b k hlt)
      have HTL : Hid ((spnL W (tk.take k) a b).length ≤ 33) := by
        have := spnL_len W (tk.take k) a b
        rw [List.length_take] at this
        show _ ≤ _
        omega
      clear hc
      obtain ⟨⟨tx0, ty0, tx1, ty1⟩, he⟩ : ∃ t, rci tk k = t := ⟨_, rfl⟩
      rw [he] at HC HTS
      clear he
      obtain ⟨A, hA⟩ : ∃ A, spnL W (tk.take k) a b = A := ⟨_, rfl⟩
      rw [hA] at HTS HTL ho
      clear hA
      go_upto_region 4 with fail
      refine wp_region_en 2 gmT gmT_ok [⟨pb, po + k * 4, rcCells ⟨tx0, ty0, tx1, ty1⟩⟩] (fun v => v = wr) [] [(27, .ix k 0)] [(28, .agg (rcA ⟨tx0, ty0, tx1, ty1⟩))] 9 28 39 (#[.int .i64 0, .int .i64 0, .int .i64 0, .int .i64 0]) (rcA ⟨tx0, ty0, tx1, ty1⟩) (by kernel_rfl) rfl ⟨_, _, rfl, ⟨rfl, rfl, rfl⟩, rfl, rfl, rfl⟩ (by decide) alloc_Rect (by kernel_rfl) rfl (rc_one _)
        (obsC (fun u hu => by cases hu; exact (rc_range HC.out)) obsN) trivial ?_
      conv => whnf
      refine And.intro (under_of ⟨rfl, hlt, rfl, rfl⟩) ?_
      conv => whnf
      refine And.intro (Nat.le_of_ble_eq_true rfl) ?_
      conv => whnf
      intro f3
      conv => whnf
      refine And.intro (rfl) ?_
      conv => whnf
      refine And.intro ⟨rfl, rfl⟩ ?_
      intro w2 h2
      conv => whnf
      cases h2
      obtain ⟨W3, HT3, HB3', HW3⟩ := newObj wr (rcA ⟨tx0, ty0, tx1, ty1⟩) 39
      obtain ⟨bq, hbq⟩ : ∃ b, wr.heap.size = b := ⟨_, rfl⟩
      rw [hbq] at HT3
      rw [HW3.out, hbq]
      have HB3 := Lib.hid (ext_trans hb.out HB3'.out)
      have HO3 := Lib.hid (ho.out.below HB3'.out)
      clear HW3 HB3' ho hb hbq
      go_upto_region 5 with fail
      refine wp_region_et gmT gmT_ok [⟨bq, 0, (rcA ⟨tx0, ty0, tx1, ty1⟩).toList⟩] (Below W3.heap.size W3) [(9, 0)] [] [(40, .bool (inCol a b ⟨tx0, ty0, tx1, ty1⟩))] (by kernel_rfl) (Below.refl _ _)
        (obsC (fun u hu => rangeKeep (range_new HT3.out) hu) obsN) ⟨rfl, trivial⟩ ?_
      conv => whnf
      intro f4
      conv => whnf
      refine And.intro (rfl) ?_
      conv => whnf
      intro w4 h4
      have HB4 := Lib.hid (ext_trans HB3.out h4)
      have HT4 := Lib.hid (HT3.out.keep h4)
      have HO4 := Lib.hid (HO3.out.below h4)
      clear h4 HB3 HT3 HO3
      obtain ⟨z, hz⟩ : ∃ z, inCol a b ⟨tx0, ty0, tx1, ty1⟩ = z := ⟨_, rfl⟩
      rw [hz] at HTS ⊢
      clear hz
      cases z
      · have HO5 : Hid (OwnSn w4 W1.heap.size u7 (spnL W (tk.take (k + 1)) a b)) := by show OwnSn ..; have := HTS.out; rw [if_neg (by decide)] at this; rw [this]; exact HO4.out
        clear HO4 HT4
        go_wp2_with fail
        go_roundw
        case rel => exact ⟨k + 1, by omega, by go_num, HB4, HO5⟩
        case measure => simp [intOf]; omega
      · have HTT : Hid (spnL W (tk.take (k + 1)) a b = A ++ [⟨ty0, ty1⟩]) := by have := HTS.out; rw [if_pos rfl] at this; exact this
        have r1 := HT4.out.cell 1
        have r3 := HT4.out.cell 3
        simp only [rcA] at r1 r3
        dsimp at r1 r3
        obtain ⟨W6, HN6, HB6, HW6⟩ := newObj w4 (snA ⟨ty0, ty1⟩) 113
        go_wp2_with (at_builtin; rw [show w4.alloc (.cells #[.int .i64 ty0, .int .i64 ty1] 113) = W6 from HW6.out]; refine wpList_app_Sn rfl (.tmp 41) (.tmp 49) rfl W1.heap.size u7 A [⟨ty0, ty1⟩] rfl (HO4.out.below HB6.out) ⟨w4.heap.size, 0, none⟩ 1 1 rfl (sSn_one (snC HN6.out)) (by have := HTL.out; simp; omega) (Nat.le_trans HB4.out.size HB6.out.size) ?_)
        intro v7 w7 ho7 hg7 _
        have HO7 : Hid (OwnSn w7 W1.heap.size v7 (spnL W (tk.take (k + 1)) a b)) := by show OwnSn ..; rw [HTT.out]; exact ho7
        have hlt7 : ∀ r, u7.ownBlock = some r → W1.heap.size ≤ r := fun r hr => (OwnSn.lt HO4.out r hr).1
        have HB7 := Lib.hid ((ext_trans HB4.out HB6.out).grown hg7 (ext_trans HB4.out HB6.out).size hlt7)
        clear ho7 hg7 hlt7 HW6 HN6 HB6 HO4 HB4 HTT r1 r3
        go_wp2_with fail
        go_roundw
        case rel => exact ⟨k + 1, by omega, by go_num, HB7, HO7⟩
        case measure => simp [intOf]; omega
    · have i1 : ¬ (k : Int) < tk.length := by omega
      have e : k = tk.length := by omega
      have HO6 : Hid (OwnSn wr W1.heap.size u7 (spnL W tk a b)) := by show OwnSn ..; have := ho.out; rw [e, List.take_length] at this; exact this
      have HLL : Hid ((spnL W tk a b).length ≤ 33) := by have := spnL_len W tk a b; show _ ≤ _; omega
      have HL0 : Hid (0 < (spnL W tk a b).length) := by show _ < _; unfold spnL; rw [List.length_cons]; omega
      clear e ho
      have HPW := Lib.hid (HP1.out.keep hb.out)
      have HBW := Lib.hid (ext_trans HB1.out hb.out)
      obtain ⟨bs, hbs⟩ : ∃ bs, spnL W tk a b = bs := ⟨_, rfl⟩
      rw [hbs] at HO6 HLL HL0 HSM
      have HBS := Lib.hid hbs
      clear hbs
      obtain ⟨g, cp, rfl, hg1, hg2⟩ := HO6.out.form HL0.out
      have HG1 := Lib.hid hg1
      clear hg1 hg2
      go_wp2_with fail
      refine (sortSn_any wr W1.heap.size g bs.length cp bs HO6.out (fun s hs => (HSM.out s hs).1) (by have := HLL.out; omega)).mono ?_
      rintro e w5 ⟨rfl, hg5, ss, hp5, hs5, hv5⟩
      have HB5 := Lib.hid (HBW.out.grown hg5 HBW.out.size (fun r hr => by cases hr; have := HG1.out; have := HSZ.out; omega))
      have HP5 := Lib.hid (HPW.out.grown hg5 (fun e => by cases e; have := HG1.out; have := HSZ.out; omega))
      have HCS := Lib.hid (colT_set (W := W) (a := a) (b := b) hp5 hs5 (fun s hs => (HSM.out s hs).2))
      have HLS : Hid (ss.length ≤ 33) := by show _ ≤ _; rw [hp5.length_eq]; exact HLL.out
      have HSZ5 : Hid (w.heap.size < w5.heap.size) := Nat.lt_of_lt_of_le (show w.heap.size < wr.heap.size from HPW.out.lt) hg5.size
      have HSS : Hid (∀ i, i < ss.length → SmSn (sni ss i)) := fun i hi => (HSM.out _ (hp5.mem_iff.1 (sni_mem hi))).1
      have hln : bs.length = ss.length := hp5.length_eq.symm
      clear hp5 hs5 hg5 HPW HBW HO6 HLL HL0 HSM hb
      rw [hln] at hv5 ⊢
      clear hln
      obtain ⟨sa, sc, e5, _, _, q3⟩ := hv5
      cases e5
      have Q3 := Lib.hid q3
      clear q3
      have hss : ss.length ≤ 33 := HLS.out
      go_wp2_with fail
      go_loopw [10, 11, 56] (fun v y i wr => ∃ k : Nat, k ≤ ss.length ∧ i = .int .i64 k ∧ y = .int .i64 (colY ss k) ∧ Hid (Below w5.heap.size w5 wr) ∧ Hid (OwnRc wr w5.heap.size v (colT W a b ss k))) (fun _ _ i _ => ss.length - (intOf i).toNat)
      case atStart => exact ⟨0, Nat.zero_le _, rfl, rfl, Below.refl _ _, OwnRc_nil _ _⟩
      case round =>
        obtain ⟨k, hk, rfl, rfl, hb, ho⟩ := hrel
        by_cases hlt : k < ss.length
        · have i1 : (k : Int) < ss.length := by omega
          obtain ⟨pb, po, e, hc⟩ := Q3.out k hlt
          cases e
          have HC := Lib.hid (hc.keep hb.out)
          have HPr := Lib.hid (HP5.out.keep hb.out)
          have HTL := Lib.hid (colT_len W a b ss k)
          have HYS : Hid (colY ss (k + 1) = max (colY ss k) (sni ss k).b) := rfl
          have HTS : Hid (colT W a b ss (k + 1) = if colY ss k < min (sni ss k).a W then colT W a b ss k ++ [⟨a, colY ss k, b, min (sni ss k).a W⟩] else colT W a b ss k) := rfl
          clear hc
          obtain ⟨⟨sA, sB⟩, he⟩ : ∃ t, sni ss k = t := ⟨_, rfl⟩
          rw [he] at HC HTS HYS
          clear he
          dsimp only at HTS HYS
          obtain ⟨A, hA⟩ : ∃ A, colT W a b ss k = A := ⟨_, rfl⟩
          obtain ⟨y, hy⟩ : ∃ y, colY ss k = y := ⟨_, rfl⟩
          rw [hA] at HTS HTL ho
          rw [hy] at HTS HYS
          rw [hy]
          clear hA hy
          go_upto_region 13 with fail
          refine wp_region_en 2 gmT gmT_ok [⟨g, 0 + k * 2, snCells ⟨sA, sB⟩⟩] (fun v => v = wr) [] [(58, .ix k 0)] [(59, .agg (snA ⟨sA, sB⟩))] 13 59 113 (#[.int .i64 0, .int .i64 0]) (snA ⟨sA, sB⟩) (by kernel_rfl) rfl ⟨_, _, rfl, ⟨rfl, rfl, rfl⟩, rfl, rfl, rfl⟩ (by decide) alloc_Span (by kernel_rfl) rfl (sn_one _)
            (obsC (fun u hu => by cases hu; exact (sn_range HC.out)) obsN) trivial ?_
          conv => whnf
          refine And.intro (under_of ⟨rfl, hlt, rfl, rfl⟩) ?_
          conv => whnf
          refine And.intro (Nat.le_of_ble_eq_true rfl) ?_
          conv => whnf
          intro f5
          conv => whnf
          refine And.intro (rfl) ?_
          conv => whnf
          refine And.intro ⟨rfl, rfl⟩ ?_
          intro w2 h2
          conv => whnf
          cases h2
          obtain ⟨W6, HT6, HB6', HW6⟩ := newObj wr (snA ⟨sA, sB⟩) 113
          obtain ⟨bq, hbq⟩ : ∃ b, wr.heap.size = b := ⟨_, rfl⟩
          rw [hbq] at HT6
          rw [HW6.out, hbq]
          have HB6 := Lib.hid (ext_trans hb.out HB6'.out)
          have HO6 := Lib.hid (ho.out.below HB6'.out)
          have HP6 := Lib.hid (HPr.out.keep HB6'.out)
          have HNQ : Hid (u10.ownBlock ≠ some bq) := fun e => by have := (OwnRc.lt ho.out _ e).2; omega
          clear HW6 HB6' ho hb hbq HPr
          go_upto_region 14 with fail
          refine wp_region_et gmT gmT_ok [⟨bq, 0, (snA ⟨sA, sB⟩).toList⟩, ⟨w.heap.size, 0, (#[.int .i64 L, .int .i64 W, .slice pa tk.length pc] : Array Value).toList⟩] (Below W6.heap.size W6) [(13, 0), (3, 1)] [] [(14, .int .i64 (min sA W))] (by kernel_rfl) (Below.refl _ _)
            (obsC (fun u hu => rangeKeep (range_new HT6.out) hu) (obsC (fun u hu => rangeKeep (range_new HP6.out) hu) obsN)) ⟨rfl, rfl, trivial⟩ ?_
          conv => whnf
          intro f6
          conv => whnf
          refine And.intro (rfl) ?_
          conv => whnf
          intro w7 h7
          have HB7 := Lib.hid (ext_trans HB6.out h7)
          have HT7 := Lib.hid (HT6.out.keep h7)
          have HO7 := Lib.hid (HO6.out.below h7)
          clear h7 HB6 HT6 HO6 HP6
          obtain ⟨en, hen⟩ : ∃ en, min sA W = en := ⟨_, rfl⟩
          rw [hen] at HTS ⊢
          clear hen
          by_cases c : y < en
          · have HTT : Hid (colT W a b ss (k + 1) = A ++ [⟨a, y, b, en⟩]) := by have := HTS.out; rw [if_pos c] at this; exact this
            obtain ⟨W8, HN8, HB8, HW8⟩ := newObj w7 (rcA ⟨a, y, b, en⟩) 39
            go_wp2_with (at_builtin; rw [show w7.alloc (.cells #[.int .i64 a, .int .i64 y, .int .i64 b, .int .i64 en] 39) = W8 from HW8.out]; refine wpList_app_Rc rfl (.tmp 68) (.tmp 76) rfl w5.heap.size u10 A [⟨a, y, b, en⟩] rfl (HO7.out.below HB8.out) ⟨w7.heap.size, 0, none⟩ 1 1 rfl (sRc_one (rcC HN8.out)) (by have := HTL.out; have := HLS.out; simp; omega) (Nat.le_trans HB7.out.size HB8.out.size) ?_)
            intro v9 w9 ho9 hg9 _
            have HO9 : Hid (OwnRc w9 w5.heap.size v9 (colT W a b ss (k + 1))) := by show OwnRc ..; rw [HTT.out]; exact ho9
            have hlt9 : ∀ r, u10.ownBlock = some r → w5.heap.size ≤ r := fun r hr => (OwnRc.lt HO7.out r hr).1
            have HB9 := Lib.hid ((ext_trans HB7.out HB8.out).grown hg9 (ext_trans HB7.out HB8.out).size hlt9)
            have HT9 := Lib.hid ((HT7.out.keep HB8.out).grown hg9 HNQ.out)
            clear ho9 hg9 hlt9 HW8 HN8 HB8 HO7 HB7 HTT HT7 c
            go_upto_region 17 with fail
            refine wp_region_et gmT gmT_ok [⟨bq, 0, (snA ⟨sA, sB⟩).toList⟩] (Below w9.heap.size w9) [(13, 0)] [] [(11, .int .i64 (max y sB))] (by kernel_rfl) (Below.refl _ _)
              (obsC (fun u hu => rangeKeep (range_new HT9.out) hu) obsN) ⟨rfl, trivial⟩ ?_
            conv => whnf
            intro f8
            conv => whnf
            refine And.intro (rfl) ?_
            conv => whnf
            intro wA hA
            have HBA := Lib.hid (ext_trans HB9.out hA)
            have HOA := Lib.hid (HO9.out.below hA)
            clear hA
            rw [← HYS.out]
            go_wp2_with fail
            go_roundw
            case rel => exact ⟨k + 1, by omega, by go_num, rfl, HBA, HOA⟩
            case measure => simp [intOf]; omega
          · have HO9 : Hid (OwnRc w7 w5.heap.size u10 (colT W a b ss (k + 1))) := by show OwnRc ..; have := HTS.out; rw [if_neg c] at this; rw [this]; exact HO7.out
            go_upto_region 17 with fail
            clear c
            refine wp_region_et gmT gmT_ok [⟨bq, 0, (snA ⟨sA, sB⟩).toList⟩] (Below w7.heap.size w7) [(13, 0)] [] [(11, .int .i64 (max y sB))] (by kernel_rfl) (Below.refl _ _)
              (obsC (fun u hu => rangeKeep (range_new HT7.out) hu) obsN) ⟨rfl, trivial⟩ ?_
            conv => whnf
            intro f8
            conv => whnf
            refine And.intro (rfl) ?_
            conv => whnf
            intro wA hA
            have HBA := Lib.hid (ext_trans HB7.out hA)
            have HOA := Lib.hid (HO9.out.below hA)
            clear hA
            rw [← HYS.out]
            go_wp2_with fail
            go_roundw
            case rel => exact ⟨k + 1, by omega, by go_num, rfl, HBA, HOA⟩
            case measure => simp [intOf]; omega
        · have i1 : ¬ (k : Int) < ss.length := by omega
          have e : k = ss.length := by omega
          have HCM : Hid (∀ r, r ∈ colT W a b ss k ↔ ColS W (spnL W tk a b) a b r) := by rw [e, HBS.out]; exact HCS.out
          have HCL := Lib.hid (colT_len W a b ss k)
          clear e
          go_wp2_with fail
          go_ret
          exact ⟨_, _, rfl, ho.out.mono (Nat.le_of_lt HSZ5.out), HCM.out, by have := HCL.out; have := HLS.out; omega, HB5.out.trans (hb.out.mono (Nat.le_of_lt HSZ5.out))⟩
end Go.Proofs.YtfmhickjefogdaaGreat
