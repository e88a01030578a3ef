/- The builtin append onto berths and stays that a call owns. -/
import Derived.Test.YtlmfcigabojbmaaGreatDoorDokK
set_option linter.unusedSimpArgs false
set_option linter.unusedVariables false
namespace Go.Proofs.YtlmfcigabojbmaaGreatDoor
open Go.RowKit
/-! Ber -/
theorem Tryz_infoBerth : (Tryz.prog.info? 50).map (fun i => (i.zero, i.size, i.bytes)) = some (some (.agg #[.string ⟨#[]⟩, .string ⟨#[]⟩, .int .i64 0, .int .i64 0, .int .i64 0, .int .i64 0, .int .i64 0, .int .i64 0]), 8, 80) := by kernel_rfl
theorem BAt.nth {w : World} {b off : Nat} {x : Ber} (h : BAt w b off x) (j : Nat) (u : Value) (hj : (beCells x)[j]? = some u) : w.cell? ⟨b, off + j, none⟩ = some u := by
  obtain ⟨y0, y1, y2, y3, y4, y5, y6, y7⟩ := h
  match j, hj with
  | 0, hj => simp [beCells] at hj; subst hj; exact y0
  | 1, hj => simp [beCells] at hj; subst hj; exact y1
  | 2, hj => simp [beCells] at hj; subst hj; exact y2
  | 3, hj => simp [beCells] at hj; subst hj; exact y3
  | 4, hj => simp [beCells] at hj; subst hj; exact y4
  | 5, hj => simp [beCells] at hj; subst hj; exact y5
  | 6, hj => simp [beCells] at hj; subst hj; exact y6
  | 7, hj => simp [beCells] at hj; subst hj; exact y7
theorem SB.flat {w : World} {ad : Addr} {n cap : Nat} {l : List Ber} (h : SB w (.slice (some ad) n cap) l) : n = l.length ∧ ∀ (j : Nat) u, (l.flatMap beCells)[j]? = some u → w.cell? (ad.add j) = some u := by
  obtain ⟨a, cap', e, h1, h2, h3⟩ := h
  simp at e
  obtain ⟨rfl, rfl, rfl⟩ := e
  refine ⟨rfl, fun j u hj => ?_⟩
  have hjl := (List.getElem?_eq_some_iff.1 hj).1
  rw [flat_len beCells beCells_len] at hjl
  have hi : j / 8 < l.length := by omega
  obtain ⟨b, off, ha, hc⟩ := h3 (j / 8) hi
  have ha := Option.some.inj ha
  subst ha
  have e := flat_get beCells beCells_len l (j / 8) (j % 8) hi (by omega)
  rw [show j / 8 * 8 + j % 8 = j by omega, hj, ← bri_lt hi] at e
  have := hc.nth (j % 8) u e.symm
  rw [show (⟨b, off, none⟩ : Addr).add j = ⟨b, off + j, none⟩ by unfold Addr.add; split <;> simp_all]
  rwa [show off + j / 8 * 8 + j % 8 = off + j by omega] at this
theorem OwnB_empty (w : World) (B : Nat) (h : B ≤ w.heap.size) : OwnB (w.alloc (.cells #[] 50)) B (.slice (some ⟨w.heap.size, 0, none⟩) 0 0) [] :=
  World.ownsRow_lit w #[] 0 h (Nat.zero_le _) rfl
theorem beOne (x : Ber) : ∀ v ∈ beCells x, v.oneCell' = true := by
  intro v hv
  simp only [beCells, List.mem_cons, List.not_mem_nil, or_false] at hv
  rcases hv with rfl | rfl | rfl | rfl | rfl | rfl | rfl | rfl <;> rfl
theorem wp_app_B {o : Oper} {a : Act} {K : Act → World → Prop} {Q : Exit → Act → World → Prop} {w : World} (s x : Operand)
    (ho : o.op = .call { callee := .builtin .append, args := #[s, x], argTypes := #[26, 26] }) (B : Nat) (v : Value) (l m : List Ber) (hs : a.eval s = v) (hown : OwnB w B v l)
    (ad : Addr) (n c : Nat) (hx : a.eval x = .slice (some ad) n c) (hy : SB w (.slice (some ad) n c) m) (hlen : l.length + m.length ≤ 1000000) (hb : B ≤ w.heap.size)
    (h : ∀ v' w', OwnB w' B v' (l ++ m) → w.grownBy w' v.ownBlock → (v'.ownBlock = v.ownBlock ∨ v'.ownBlock = some w.heap.size) → K (a.put o.dst v') w') : o.wp Tryz.prog a w K Q := by
  obtain ⟨i, hi, hz0, hz1, hz2⟩ := info_parts Tryz_infoBerth
  obtain ⟨rfl, hf⟩ := hy.flat
  refine wp_app_gen s x 26 50 ho i (.agg #[.string ⟨#[]⟩, .string ⟨#[]⟩, .int .i64 0, .int .i64 0, .int .i64 0, .int .i64 0, .int .i64 0, .int .i64 0]) 8 80 Tryz.underlying26 hi hz0 hz1 hz2 rfl (by decide) B v l.length (l.flatMap beCells) hs hown ad m.length c hx (m.flatMap beCells) (flat_len beCells beCells_len m) hf (fun u hu => ?_) (by unfold maxLen; omega) (by omega) hb fun v' w' h1 h2 h3 => h v' w' ?_ h2 h3
  · obtain ⟨z, _, hz⟩ := List.mem_flatMap.1 hu
    exact beOne z u hz
  · unfold OwnB
    rw [List.length_append, List.flatMap_append]
    exact h1
theorem wpList_app_B {ops : Array Oper} {rest : List Oper} {o : Oper} {a : Act} {Q : Exit → Act → World → Prop} {w : World} (hw : Region.wanted o (yielded ops a.tmps) = true) (s x : Operand)
    (ho : o.op = .call { callee := .builtin .append, args := #[s, x], argTypes := #[26, 26] }) (B : Nat) (v : Value) (l m : List Ber) (hs : a.eval s = v) (hown : OwnB w B v l)
    (ad : Addr) (n c : Nat) (hx : a.eval x = .slice (some ad) n c) (hy : SB w (.slice (some ad) n c) m) (hlen : l.length + m.length ≤ 1000000) (hb : B ≤ w.heap.size)
    (h : ∀ v' w', OwnB w' B v' (l ++ m) → w.grownBy w' v.ownBlock → (v'.ownBlock = v.ownBlock ∨ v'.ownBlock = some w.heap.size) → wpList Tryz.prog ops Q rest (a.put o.dst v') w') : wpList Tryz.prog ops Q (o :: rest) a w :=
  wpList_step fun K hK => by
    rw [if_pos hw]
    exact wp_app_B s x ho B v l m hs hown ad n c hx hy hlen hb fun v' w' a1 a2 a3 => hK _ _ (h v' w' a1 a2 a3)
theorem sB_one {w : World} {g : Nat} {x : Ber} (h : BAt w g 0 x) : SB w (.slice (some ⟨g, 0, none⟩) 1 1) [x] := by
  refine ⟨_, _, rfl, Nat.le_refl _, by unfold maxLen; omega, fun i hi => ⟨g, 0, rfl, ?_⟩⟩
  obtain rfl : i = 0 := by simp at hi; omega
  exact h
/-! Ber -/
theorem Tryz_infoStay : (Tryz.prog.info? 50).map (fun i => (i.zero, i.size, i.bytes)) = some (some (.agg #[.string ⟨#[]⟩, .string ⟨#[]⟩, .int .i64 0, .int .i64 0, .int .i64 0, .int .i64 0, .int .i64 0, .int .i64 0]), 8, 80) := by kernel_rfl
theorem YAt.nth {w : World} {b off : Nat} {x : Ber} (h : YAt w b off x) (j : Nat) (u : Value) (hj : (syCells x)[j]? = some u) : w.cell? ⟨b, off + j, none⟩ = some u := by
  obtain ⟨y0, y1, y2, y3, y4, y5, y6, y7⟩ := h
  match j, hj with
  | 0, hj => simp [syCells] at hj; subst hj; exact y0
  | 1, hj => simp [syCells] at hj; subst hj; exact y1
  | 2, hj => simp [syCells] at hj; subst hj; exact y2
  | 3, hj => simp [syCells] at hj; subst hj; exact y3
  | 4, hj => simp [syCells] at hj; subst hj; exact y4
  | 5, hj => simp [syCells] at hj; subst hj; exact y5
  | 6, hj => simp [syCells] at hj; subst hj; exact y6
  | 7, hj => simp [syCells] at hj; subst hj; exact y7
theorem SY.flat {w : World} {ad : Addr} {n cap : Nat} {l : List Ber} (h : SY w (.slice (some ad) n cap) l) : n = l.length ∧ ∀ (j : Nat) u, (l.flatMap syCells)[j]? = some u → w.cell? (ad.add j) = some u := by
  obtain ⟨a, cap', e, h1, h2, h3⟩ := h
  simp at e
  obtain ⟨rfl, rfl, rfl⟩ := e
  refine ⟨rfl, fun j u hj => ?_⟩
  have hjl := (List.getElem?_eq_some_iff.1 hj).1
  rw [flat_len syCells syCells_len] at hjl
  have hi : j / 8 < l.length := by omega
  obtain ⟨b, off, ha, hc⟩ := h3 (j / 8) hi
  have ha := Option.some.inj ha
  subst ha
  have e := flat_get syCells syCells_len l (j / 8) (j % 8) hi (by omega)
  rw [show j / 8 * 8 + j % 8 = j by omega, hj, ← bri_lt hi] at e
  have := hc.nth (j % 8) u e.symm
  rw [show (⟨b, off, none⟩ : Addr).add j = ⟨b, off + j, none⟩ by unfold Addr.add; split <;> simp_all]
  rwa [show off + j / 8 * 8 + j % 8 = off + j by omega] at this
theorem OwnY_empty (w : World) (B : Nat) (h : B ≤ w.heap.size) : OwnY (w.alloc (.cells #[] 50)) B (.slice (some ⟨w.heap.size, 0, none⟩) 0 0) [] :=
  World.ownsRow_lit w #[] 0 h (Nat.zero_le _) rfl
theorem syOne (x : Ber) : ∀ v ∈ syCells x, v.oneCell' = true := by
  intro v hv
  simp only [syCells, List.mem_cons, List.not_mem_nil, or_false] at hv
  rcases hv with rfl | rfl | rfl | rfl | rfl | rfl | rfl | rfl <;> rfl
theorem wp_app_Y {o : Oper} {a : Act} {K : Act → World → Prop} {Q : Exit → Act → World → Prop} {w : World} (s x : Operand)
    (ho : o.op = .call { callee := .builtin .append, args := #[s, x], argTypes := #[26, 26] }) (B : Nat) (v : Value) (l m : List Ber) (hs : a.eval s = v) (hown : OwnY w B v l)
    (ad : Addr) (n c : Nat) (hx : a.eval x = .slice (some ad) n c) (hy : SY w (.slice (some ad) n c) m) (hlen : l.length + m.length ≤ 1000000) (hb : B ≤ w.heap.size)
    (h : ∀ v' w', OwnY w' B v' (l ++ m) → w.grownBy w' v.ownBlock → (v'.ownBlock = v.ownBlock ∨ v'.ownBlock = some w.heap.size) → K (a.put o.dst v') w') : o.wp Tryz.prog a w K Q := by
  obtain ⟨i, hi, hz0, hz1, hz2⟩ := info_parts Tryz_infoStay
  obtain ⟨rfl, hf⟩ := hy.flat
  refine wp_app_gen s x 26 50 ho i (.agg #[.string ⟨#[]⟩, .string ⟨#[]⟩, .int .i64 0, .int .i64 0, .int .i64 0, .int .i64 0, .int .i64 0, .int .i64 0]) 8 80 Tryz.underlying26 hi hz0 hz1 hz2 rfl (by decide) B v l.length (l.flatMap syCells) hs hown ad m.length c hx (m.flatMap syCells) (flat_len syCells syCells_len m) hf (fun u hu => ?_) (by unfold maxLen; omega) (by omega) hb fun v' w' h1 h2 h3 => h v' w' ?_ h2 h3
  · obtain ⟨z, _, hz⟩ := List.mem_flatMap.1 hu
    exact syOne z u hz
  · unfold OwnY
    rw [List.length_append, List.flatMap_append]
    exact h1
theorem wpList_app_Y {ops : Array Oper} {rest : List Oper} {o : Oper} {a : Act} {Q : Exit → Act → World → Prop} {w : World} (hw : Region.wanted o (yielded ops a.tmps) = true) (s x : Operand)
    (ho : o.op = .call { callee := .builtin .append, args := #[s, x], argTypes := #[26, 26] }) (B : Nat) (v : Value) (l m : List Ber) (hs : a.eval s = v) (hown : OwnY w B v l)
    (ad : Addr) (n c : Nat) (hx : a.eval x = .slice (some ad) n c) (hy : SY w (.slice (some ad) n c) m) (hlen : l.length + m.length ≤ 1000000) (hb : B ≤ w.heap.size)
    (h : ∀ v' w', OwnY w' B v' (l ++ m) → w.grownBy w' v.ownBlock → (v'.ownBlock = v.ownBlock ∨ v'.ownBlock = some w.heap.size) → wpList Tryz.prog ops Q rest (a.put o.dst v') w') : wpList Tryz.prog ops Q (o :: rest) a w :=
  wpList_step fun K hK => by
    rw [if_pos hw]
    exact wp_app_Y s x ho B v l m hs hown ad n c hx hy hlen hb fun v' w' a1 a2 a3 => hK _ _ (h v' w' a1 a2 a3)
theorem sY_one {w : World} {g : Nat} {x : Ber} (h : YAt w g 0 x) : SY w (.slice (some ⟨g, 0, none⟩) 1 1) [x] := by
  refine ⟨_, _, rfl, Nat.le_refl _, by unfold maxLen; omega, fun i hi => ⟨g, 0, rfl, ?_⟩⟩
  obtain rfl : i = 0 := by simp at hi; omega
  exact h
end Go.Proofs.YtlmfcigabojbmaaGreatDoor
