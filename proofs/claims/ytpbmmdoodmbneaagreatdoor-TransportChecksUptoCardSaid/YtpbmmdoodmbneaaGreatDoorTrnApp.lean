/- The builtin append onto moves and trips that a call owns; slices.Clone of them. -/
import Derived.Test.YtpbmmdoodmbneaaGreatDoorTrnMem
namespace Go.Proofs.YtpbmmdoodmbneaaGreatDoor
open Go.RowKit

/-! Mov -/
theorem Tryz_infoMove : (Tryz.prog.info? 39).map (fun i => (i.zero, i.size, i.bytes)) = some (some (.agg #[.string ⟨#[]⟩, .int .i64 0, .int .i64 0, .int .i64 0, .int .i64 0]), 5, 48) := by kernel_rfl
theorem MAt.nth {w : World} {b off : Nat} {x : Mov} (h : MAt w b off x) (j : Nat) (u : Value) (hj : (mvCells x)[j]? = some u) : w.cell? ⟨b, off + j, none⟩ = some u := by
  obtain ⟨y0, y1, y2, y3, y4⟩ := h
  match j, hj with
  | 0, hj => simp [mvCells] at hj; subst hj; exact y0
  | 1, hj => simp [mvCells] at hj; subst hj; exact y1
  | 2, hj => simp [mvCells] at hj; subst hj; exact y2
  | 3, hj => simp [mvCells] at hj; subst hj; exact y3
  | 4, hj => simp [mvCells] at hj; subst hj; exact y4
theorem SM.flat {w : World} {ad : Addr} {n cap : Nat} {l : List Mov} (h : SM w (.slice (some ad) n cap) l) : n = l.length ∧ ∀ (j : Nat) u, (l.flatMap mvCells)[j]? = some u → w.cell? (ad.add j) = some u := by
  obtain ⟨a, cap', e, h1, h2, h3⟩ := h
  simp at e
  obtain ⟨rfl, rfl, rfl⟩ := e
  refine ⟨rfl, fun j u hj => ?_⟩
  have hjl := (List.getElem?_eq_some_iff.1 hj).1
  rw [flat_len mvCells mvCells_len] at hjl
  have hi : j / 5 < l.length := by omega
  obtain ⟨b, off, ha, hc⟩ := h3 (j / 5) hi
  have ha := Option.some.inj ha
  subst ha
  have e := flat_get mvCells mvCells_len l (j / 5) (j % 5) hi (by omega)
  rw [show j / 5 * 5 + j % 5 = j by omega, hj, ← mvi_lt hi] at e
  have := hc.nth (j % 5) u e.symm
  rw [show (⟨b, off, none⟩ : Addr).add j = ⟨b, off + j, none⟩ by unfold Addr.add; split <;> simp_all]
  rwa [show off + j / 5 * 5 + j % 5 = off + j by omega] at this
theorem OwnM_empty (w : World) (B : Nat) (h : B ≤ w.heap.size) : OwnM (w.alloc (.cells #[] 39)) B (.slice (some ⟨w.heap.size, 0, none⟩) 0 0) [] :=
  World.ownsRow_lit w #[] 0 h (Nat.zero_le _) rfl
theorem mvOne (x : Mov) : ∀ v ∈ mvCells x, v.oneCell' = true := by
  intro v hv
  simp only [mvCells, List.mem_cons, List.not_mem_nil, or_false] at hv
  rcases hv with rfl | rfl | rfl | rfl | rfl <;> rfl
theorem wp_app_M {o : Oper} {a : Act} {K : Act → World → Prop} {Q : Exit → Act → World → Prop} {w : World} (s x : Operand)
    (ho : o.op = .call { callee := .builtin .append, args := #[s, x], argTypes := #[24, 24] }) (B : Nat) (v : Value) (l m : List Mov) (hs : a.eval s = v) (hown : OwnM w B v l)
    (ad : Addr) (n c : Nat) (hx : a.eval x = .slice (some ad) n c) (hy : SM w (.slice (some ad) n c) m) (hlen : l.length + m.length ≤ 1000000) (hb : B ≤ w.heap.size)
    (h : ∀ v' w', OwnM w' B v' (l ++ m) → w.grownBy w' v.ownBlock → (v'.ownBlock = v.ownBlock ∨ v'.ownBlock = some w.heap.size) → K (a.put o.dst v') w') : o.wp Tryz.prog a w K Q := by
  obtain ⟨i, hi, hz0, hz1, hz2⟩ := info_parts Tryz_infoMove
  obtain ⟨rfl, hf⟩ := hy.flat
  refine wp_app_gen s x 24 39 ho i (.agg #[.string ⟨#[]⟩, .int .i64 0, .int .i64 0, .int .i64 0, .int .i64 0]) 5 48 Tryz.underlying24 hi hz0 hz1 hz2 rfl (by decide) B v l.length (l.flatMap mvCells) hs hown ad m.length c hx (m.flatMap mvCells) (flat_len mvCells mvCells_len m) hf (fun u hu => ?_) (by unfold maxLen; omega) (by omega) hb fun v' w' h1 h2 h3 => h v' w' ?_ h2 h3
  · obtain ⟨z, _, hz⟩ := List.mem_flatMap.1 hu
    exact mvOne z u hz
  · unfold OwnM
    rw [List.length_append, List.flatMap_append]
    exact h1
theorem wpList_app_M {ops : Array Oper} {rest : List Oper} {o : Oper} {a : Act} {Q : Exit → Act → World → Prop} {w : World} (hw : Region.wanted o (yielded ops a.tmps) = true) (s x : Operand)
    (ho : o.op = .call { callee := .builtin .append, args := #[s, x], argTypes := #[24, 24] }) (B : Nat) (v : Value) (l m : List Mov) (hs : a.eval s = v) (hown : OwnM w B v l)
    (ad : Addr) (n c : Nat) (hx : a.eval x = .slice (some ad) n c) (hy : SM w (.slice (some ad) n c) m) (hlen : l.length + m.length ≤ 1000000) (hb : B ≤ w.heap.size)
    (h : ∀ v' w', OwnM w' B v' (l ++ m) → w.grownBy w' v.ownBlock → (v'.ownBlock = v.ownBlock ∨ v'.ownBlock = some w.heap.size) → wpList Tryz.prog ops Q rest (a.put o.dst v') w') : wpList Tryz.prog ops Q (o :: rest) a w :=
  wpList_step fun K hK => by
    rw [if_pos hw]
    exact wp_app_M s x ho B v l m hs hown ad n c hx hy hlen hb fun v' w' a1 a2 a3 => hK _ _ (h v' w' a1 a2 a3)
theorem sM_one {w : World} {g : Nat} {x : Mov} (h : MAt w g 0 x) : SM w (.slice (some ⟨g, 0, none⟩) 1 1) [x] := by
  refine ⟨_, _, rfl, Nat.le_refl _, by unfold maxLen; omega, fun i hi => ⟨g, 0, rfl, ?_⟩⟩
  obtain rfl : i = 0 := by simp at hi; omega
  exact h
def RetM (w : World) (l : List Mov) (e : Ending) (w' : World) : Prop := ∃ v, e = .returned v ∧ OwnM w' w.heap.size v l ∧ Below w.heap.size w w'
theorem cloneM_any (v : Value) (l : List Mov) (w : World) (h : SM w v l) (hl : l.length ≤ 100000) :
    Calls Tryz.prog 32 #[v] w (RetM w l) := by
  have qn : ∀ (w : World) (a : Option Addr) (n c n' c' : Nat), (binOp .eql 24 (.slice a n c) (.slice none n' c')).run Tryz.prog w = .ok (.bool a.isNone) w := fun w a n c n' c' => Lib.run_eql_slice_nil w _ _ a n c n' c' Tryz.underlying24
  have H := Lib.hid h
  obtain ⟨a, c, rfl, _, _, h3⟩ := h
  cases a with
  | none =>
    have hx : l = [] := by
      cases l with
      | nil => rfl
      | cons x r => obtain ⟨b, off, e, _⟩ := h3 0 (by simp); cases e
    clear h3 H
    subst hx
    go_enter Tryz.func32, Tryz.ntmps32
    go_wp2_with fail
    go_ret
    exact ⟨_, rfl, OwnM_nil _ _, Below.refl _ _⟩
  | some a =>
    clear h3
    generalize hn : l.length = n at H
    have hn' : l.length ≤ n := by omega
    go_enter Tryz.func32, Tryz.ntmps32
    go_wp2_with (at_builtin; refine wpList_app_M rfl (.tmp 5) (.tmp 6) rfl w.heap.size _ [] l rfl (OwnM_empty _ _ (Nat.le_refl _)) a n c rfl (H.out.keep ((Below.refl _ _).alloc (Nat.le_refl _) _)) (by simp; omega) (by simp) ?_)
    intro v' w' ho hg _
    have hb : Below w.heap.size w w' := ((Below.refl _ _).alloc (Nat.le_refl _) _).grown hg (by simp) (by simp [Value.ownBlock])
    clear hg
    go_wp2_with fail
    go_ret
    exact ⟨_, rfl, by simpa using ho, hb⟩

/-! Trp -/
theorem Tryz_infoTrip : (Tryz.prog.info? 43).map (fun i => (i.zero, i.size, i.bytes)) = some (some (.agg #[.string ⟨#[]⟩, .string ⟨#[]⟩, .int .i64 0, .int .i64 0]), 4, 48) := by kernel_rfl
theorem XAt.nth {w : World} {b off : Nat} {x : Trp} (h : XAt w b off x) (j : Nat) (u : Value) (hj : (tpCells x)[j]? = some u) : w.cell? ⟨b, off + j, none⟩ = some u := by
  obtain ⟨y0, y1, y2, y3⟩ := h
  match j, hj with
  | 0, hj => simp [tpCells] at hj; subst hj; exact y0
  | 1, hj => simp [tpCells] at hj; subst hj; exact y1
  | 2, hj => simp [tpCells] at hj; subst hj; exact y2
  | 3, hj => simp [tpCells] at hj; subst hj; exact y3
theorem SX.flat {w : World} {ad : Addr} {n cap : Nat} {l : List Trp} (h : SX w (.slice (some ad) n cap) l) : n = l.length ∧ ∀ (j : Nat) u, (l.flatMap tpCells)[j]? = some u → w.cell? (ad.add j) = some u := by
  obtain ⟨a, cap', e, h1, h2, h3⟩ := h
  simp at e
  obtain ⟨rfl, rfl, rfl⟩ := e
  refine ⟨rfl, fun j u hj => ?_⟩
  have hjl := (List.getElem?_eq_some_iff.1 hj).1
  rw [flat_len tpCells tpCells_len] at hjl
  have hi : j / 4 < l.length := by omega
  obtain ⟨b, off, ha, hc⟩ := h3 (j / 4) hi
  have ha := Option.some.inj ha
  subst ha
  have e := flat_get tpCells tpCells_len l (j / 4) (j % 4) hi (by omega)
  rw [show j / 4 * 4 + j % 4 = j by omega, hj, ← tpi_lt hi] at e
  have := hc.nth (j % 4) u e.symm
  rw [show (⟨b, off, none⟩ : Addr).add j = ⟨b, off + j, none⟩ by unfold Addr.add; split <;> simp_all]
  rwa [show off + j / 4 * 4 + j % 4 = off + j by omega] at this
theorem OwnX_empty (w : World) (B : Nat) (h : B ≤ w.heap.size) : OwnX (w.alloc (.cells #[] 43)) B (.slice (some ⟨w.heap.size, 0, none⟩) 0 0) [] :=
  World.ownsRow_lit w #[] 0 h (Nat.zero_le _) rfl
theorem tpOne (x : Trp) : ∀ v ∈ tpCells x, v.oneCell' = true := by
  intro v hv
  simp only [tpCells, List.mem_cons, List.not_mem_nil, or_false] at hv
  rcases hv with rfl | rfl | rfl | rfl <;> rfl
theorem wp_app_X {o : Oper} {a : Act} {K : Act → World → Prop} {Q : Exit → Act → World → Prop} {w : World} (s x : Operand)
    (ho : o.op = .call { callee := .builtin .append, args := #[s, x], argTypes := #[27, 27] }) (B : Nat) (v : Value) (l m : List Trp) (hs : a.eval s = v) (hown : OwnX w B v l)
    (ad : Addr) (n c : Nat) (hx : a.eval x = .slice (some ad) n c) (hy : SX w (.slice (some ad) n c) m) (hlen : l.length + m.length ≤ 1000000) (hb : B ≤ w.heap.size)
    (h : ∀ v' w', OwnX w' B v' (l ++ m) → w.grownBy w' v.ownBlock → (v'.ownBlock = v.ownBlock ∨ v'.ownBlock = some w.heap.size) → K (a.put o.dst v') w') : o.wp Tryz.prog a w K Q := by
  obtain ⟨i, hi, hz0, hz1, hz2⟩ := info_parts Tryz_infoTrip
  obtain ⟨rfl, hf⟩ := hy.flat
  refine wp_app_gen s x 27 43 ho i (.agg #[.string ⟨#[]⟩, .string ⟨#[]⟩, .int .i64 0, .int .i64 0]) 4 48 Tryz.underlying27 hi hz0 hz1 hz2 rfl (by decide) B v l.length (l.flatMap tpCells) hs hown ad m.length c hx (m.flatMap tpCells) (flat_len tpCells tpCells_len m) hf (fun u hu => ?_) (by unfold maxLen; omega) (by omega) hb fun v' w' h1 h2 h3 => h v' w' ?_ h2 h3
  · obtain ⟨z, _, hz⟩ := List.mem_flatMap.1 hu
    exact tpOne z u hz
  · unfold OwnX
    rw [List.length_append, List.flatMap_append]
    exact h1
theorem wpList_app_X {ops : Array Oper} {rest : List Oper} {o : Oper} {a : Act} {Q : Exit → Act → World → Prop} {w : World} (hw : Region.wanted o (yielded ops a.tmps) = true) (s x : Operand)
    (ho : o.op = .call { callee := .builtin .append, args := #[s, x], argTypes := #[27, 27] }) (B : Nat) (v : Value) (l m : List Trp) (hs : a.eval s = v) (hown : OwnX w B v l)
    (ad : Addr) (n c : Nat) (hx : a.eval x = .slice (some ad) n c) (hy : SX w (.slice (some ad) n c) m) (hlen : l.length + m.length ≤ 1000000) (hb : B ≤ w.heap.size)
    (h : ∀ v' w', OwnX w' B v' (l ++ m) → w.grownBy w' v.ownBlock → (v'.ownBlock = v.ownBlock ∨ v'.ownBlock = some w.heap.size) → wpList Tryz.prog ops Q rest (a.put o.dst v') w') : wpList Tryz.prog ops Q (o :: rest) a w :=
  wpList_step fun K hK => by
    rw [if_pos hw]
    exact wp_app_X s x ho B v l m hs hown ad n c hx hy hlen hb fun v' w' a1 a2 a3 => hK _ _ (h v' w' a1 a2 a3)
theorem sX_one {w : World} {g : Nat} {x : Trp} (h : XAt w g 0 x) : SX w (.slice (some ⟨g, 0, none⟩) 1 1) [x] := by
  refine ⟨_, _, rfl, Nat.le_refl _, by unfold maxLen; omega, fun i hi => ⟨g, 0, rfl, ?_⟩⟩
  obtain rfl : i = 0 := by simp at hi; omega
  exact h
def RetX (w : World) (l : List Trp) (e : Ending) (w' : World) : Prop := ∃ v, e = .returned v ∧ OwnX w' w.heap.size v l ∧ Below w.heap.size w w'
theorem cloneX_any (v : Value) (l : List Trp) (w : World) (h : SX w v l) (hl : l.length ≤ 100000) :
    Calls Tryz.prog 17 #[v] w (RetX w l) := by
  have qn : ∀ (w : World) (a : Option Addr) (n c n' c' : Nat), (binOp .eql 27 (.slice a n c) (.slice none n' c')).run Tryz.prog w = .ok (.bool a.isNone) w := fun w a n c n' c' => Lib.run_eql_slice_nil w _ _ a n c n' c' Tryz.underlying27
  have H := Lib.hid h
  obtain ⟨a, c, rfl, _, _, h3⟩ := h
  cases a with
  | none =>
    have hx : l = [] := by
      cases l with
      | nil => rfl
      | cons x r => obtain ⟨b, off, e, _⟩ := h3 0 (by simp); cases e
    clear h3 H
    subst hx
    go_enter Tryz.func17, Tryz.ntmps17
    go_wp2_with fail
    go_ret
    exact ⟨_, rfl, OwnX_nil _ _, Below.refl _ _⟩
  | some a =>
    clear h3
    generalize hn : l.length = n at H
    have hn' : l.length ≤ n := by omega
    go_enter Tryz.func17, Tryz.ntmps17
    go_wp2_with (at_builtin; refine wpList_app_X rfl (.tmp 5) (.tmp 6) rfl w.heap.size _ [] l rfl (OwnX_empty _ _ (Nat.le_refl _)) a n c rfl (H.out.keep ((Below.refl _ _).alloc (Nat.le_refl _) _)) (by simp; omega) (by simp) ?_)
    intro v' w' ho hg _
    have hb : Below w.heap.size w w' := ((Below.refl _ _).alloc (Nat.le_refl _) _).grown hg (by simp) (by simp [Value.ownBlock])
    clear hg
    go_wp2_with fail
    go_ret
    exact ⟨_, rfl, by simpa using ho, hb⟩

end Go.Proofs.YtpbmmdoodmbneaaGreatDoor
