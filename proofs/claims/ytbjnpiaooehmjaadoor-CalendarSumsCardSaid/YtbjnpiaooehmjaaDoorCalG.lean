/- Contract: New. -/
import Derived.Test.YtbjnpiaooehmjaaDoorCalF
namespace Go.Proofs.YtbjnpiaooehmjaaDoor
open Go.RowKit

theorem Tryd_infoSpan : (Tryd.prog.info? 42).map (fun i => (i.zero, i.size, i.bytes)) = some (some (.agg #[.int .i64 0, .int .i64 0]), 2, 16) := by kernel_rfl
theorem SpAt.nth {w : World} {b off : Nat} {x : Sp} (h : SpAt w b off x) : ∀ (j : Nat) u, (spCells x)[j]? = some u → w.cell? ⟨b, off + j, none⟩ = some u := by
  obtain ⟨y0, y1⟩ := h
  intro j u hj
  match j, hj with
  | 0, hj => simp [spCells] at hj; subst hj; exact y0
  | 1, hj => simp [spCells] at hj; subst hj; exact y1
theorem SP.flat {w : World} {ad : Addr} {n cap : Nat} {l : List Sp} (h : SP w (.slice (some ad) n cap) l) : n = l.length ∧ ∀ (j : Nat) u, (l.flatMap spCells)[j]? = some u → w.cell? (ad.add j) = some u := by
  obtain ⟨a, cap', e, h1, h2, h3⟩ := h
  simp at e
  obtain ⟨rfl, rfl, rfl⟩ := e
  refine ⟨rfl, fun j u hj => ?_⟩
  have hjl := (List.getElem?_eq_some_iff.1 hj).1
  rw [flat_len spCells spCells_len] at hjl
  have hi : j / 2 < l.length := by omega
  obtain ⟨b, off, ha, hc⟩ := h3 (j / 2) hi
  have ha := Option.some.inj ha
  subst ha
  have e := flat_get spCells spCells_len l (j / 2) (j % 2) hi (by omega)
  rw [show j / 2 * 2 + j % 2 = j by omega, hj, ← pi2_lt hi] at e
  have := hc.nth (j % 2) u e.symm
  rw [Lib.add_plain]
  rw [show off + j / 2 * 2 + j % 2 = off + j by omega] at this
  exact this
/-- whole lists of shifts onto a row -/
theorem wpList_app_sps {ops : Array Oper} {rest : List Oper} {o : Oper} {a : Act} {Q : Exit → Act → World → Prop} {w : World} (hw : Region.wanted o (yielded ops a.tmps) = true) (s x : Operand)
    (ho : o.op = .call { callee := .builtin .append, args := #[s, x], argTypes := #[22, 22] }) (B : Nat) (v : Value) (l m : List Sp) (hs : a.eval s = v) (hown : OwnSp w B v l)
    (ad : Addr) (n c : Nat) (hx : a.eval x = .slice (some ad) n c) (hy : SP w (.slice (some ad) n c) m) (hlen : l.length + m.length ≤ 1000000) (hb : B ≤ w.heap.size)
    (h : ∀ v' w', OwnSp w' B v' (l ++ m) → w.grownBy w' v.ownBlock → (v'.ownBlock = v.ownBlock ∨ v'.ownBlock = some w.heap.size) → wpList Tryd.prog ops Q rest (a.put o.dst v') w') : wpList Tryd.prog ops Q (o :: rest) a w :=
  wpList_step fun K hK => by
    rw [if_pos hw]
    obtain ⟨i, hi, hz0, hz1, hz2⟩ := info_parts Tryd_infoSpan
    obtain ⟨rfl, hf⟩ := hy.flat
    refine wp_app_gen s x 22 42 ho i (.agg #[.int .i64 0, .int .i64 0]) 2 16 Tryd.underlying22 hi hz0 hz1 hz2 rfl (by decide) B v l.length (l.flatMap spCells) hs hown ad m.length c hx (m.flatMap spCells) (flat_len spCells spCells_len m) hf (fun u hu => ?_) (by unfold maxLen; omega) (by omega) hb fun v' w' h1 h2 h3 => hK _ _ (h v' w' ?_ h2 h3)
    · obtain ⟨z, _, hz⟩ := List.mem_flatMap.1 hu
      simp only [spCells, List.mem_cons, List.not_mem_nil, or_false] at hz
      rcases hz with rfl | rfl <;> rfl
    · unfold OwnSp
      rw [List.length_append, List.flatMap_append]
      exact h1
theorem OwnSp_empty (w : World) (B : Nat) (hB : B ≤ w.heap.size) : OwnSp (w.alloc (.cells #[] 42)) B (.slice (some ⟨w.heap.size, 0, none⟩) 0 0) [] :=
  ⟨rfl, .inr ⟨w.heap.size, 0, #[], rfl, hB, (MapKept.heap_alloc w _).1, Nat.le_refl _, Nat.zero_le _, rfl, rfl⟩⟩
def RetSp (w : World) (l : List Sp) (e : Ending) (w' : World) : Prop := ∃ v, e = .returned v ∧ OwnSp w' w.heap.size v l ∧ Below w.heap.size w w'
/-- shifts that are not nil -/
theorem cloneSp_any (a : Addr) (n c : Nat) (l : List Sp) (w : World) (h : SP w (.slice (some a) n c) l) (hl : l.length ≤ 1000000) : Calls Tryd.prog 16 #[.slice (some a) n c] w (RetSp w l) := by
  have qn : ∀ (w : World) (a : Option Addr) (n c n' c' : Nat), (binOp .eql 22 (.slice a n c) (.slice none n' c')).run Tryd.prog w = .ok (.bool a.isNone) w := fun w a n c n' c' => Lib.run_eql_slice_nil w _ _ a n c n' c' Tryd.underlying22
  have H := Lib.hid h
  clear h
  go_enter Tryd.func16, Tryd.ntmps16
  go_wp2_with (at_builtin; refine wpList_app_sps rfl (.tmp 5) (.tmp 6) rfl w.heap.size _ [] l rfl (OwnSp_empty _ _ (Nat.le_refl _)) a n c rfl (H.out.keep ((Below.refl _ _).alloc (Nat.le_refl _) _)) (by simp; omega) (by simp) ?_)
  intro v' w' ho hg _
  have hb : Below w.heap.size w w' := ((Below.refl _ _).alloc (Nat.le_refl _) _).grown hg (by simp) (by simp [Value.ownBlock])
  clear hg
  go_wp2_with fail
  go_ret
  exact ⟨_, rfl, by simpa using ho, hb⟩

/-! the errors, step by step -/
def prevB (sh : List Sp) (k : Nat) : Int := if k = 0 then 0 else (pi2 sh (k - 1)).b
theorem drop_pi {sh : List Sp} {k : Nat} (h : k < sh.length) : sh.drop k = pi2 sh k :: sh.drop (k + 1) := by
  rw [List.drop_eq_getElem_cons h, pi2_lt h]
theorem drop_gi {l : List Int} {k : Nat} (h : k < l.length) : l.drop k = gi l k :: l.drop (k + 1) := by
  rw [List.drop_eq_getElem_cons h, gi_lt h]
theorem shE_bad {sh : List Sp} {k : Nat} (h : k < sh.length) (hb : (pi2 sh k).a < 0 ∨ (pi2 sh k).b ≤ (pi2 sh k).a ∨ 168 < (pi2 sh k).b) : shE (prevB sh k) (sh.drop k) = 9 := by
  rw [drop_pi h]; unfold shE; rw [if_pos hb]
theorem shE_ord {sh : List Sp} {k : Nat} (h : k < sh.length) (hb : ¬ ((pi2 sh k).a < 0 ∨ (pi2 sh k).b ≤ (pi2 sh k).a ∨ 168 < (pi2 sh k).b)) (hk : k ≠ 0) (ho : (pi2 sh k).a < (pi2 sh (k - 1)).b) : shE (prevB sh k) (sh.drop k) = 11 := by
  rw [drop_pi h]; unfold shE; rw [if_neg hb]
  unfold prevB; rw [if_neg hk, if_pos ho]
theorem shE_go {sh : List Sp} {k : Nat} (h : k < sh.length) (hb : ¬ ((pi2 sh k).a < 0 ∨ (pi2 sh k).b ≤ (pi2 sh k).a ∨ 168 < (pi2 sh k).b)) (ho : k ≠ 0 → ¬ (pi2 sh k).a < (pi2 sh (k - 1)).b) : shE (prevB sh (k + 1)) (sh.drop (k + 1)) = shE (prevB sh k) (sh.drop k) := by
  rw [drop_pi h]
  conv => rhs; unfold shE
  rw [if_neg hb]
  have hp : ¬ (pi2 sh k).a < prevB sh k := by
    unfold prevB
    split
    · omega
    · rename_i hk; exact ho hk
  rw [if_neg hp]
  unfold prevB
  rw [if_neg (by omega), Nat.add_sub_cancel]
theorem shE_end {sh : List Sp} : shE (prevB sh sh.length) (sh.drop sh.length) = 0 := by rw [List.drop_length]; rfl
def prevD (l : List Int) (k : Nat) : Int := if k = 0 then -1 else gi l (k - 1)
theorem clE_bad {l : List Int} {k : Nat} (h : k < l.length) (hb : gi l k < 0 ∨ 43690 < gi l k) : clE (prevD l k) (l.drop k) = 9 := by
  rw [drop_gi h]; unfold clE; rw [if_pos hb]
theorem clE_ord {l : List Int} {k : Nat} (h : k < l.length) (hb : ¬ (gi l k < 0 ∨ 43690 < gi l k)) (hk : k ≠ 0) (ho : gi l k ≤ gi l (k - 1)) : clE (prevD l k) (l.drop k) = 11 := by
  rw [drop_gi h]; unfold clE; rw [if_neg hb]
  unfold prevD; rw [if_neg hk, if_pos ho]
theorem clE_go {l : List Int} {k : Nat} (h : k < l.length) (hb : ¬ (gi l k < 0 ∨ 43690 < gi l k)) (ho : k ≠ 0 → ¬ gi l k ≤ gi l (k - 1)) : clE (prevD l (k + 1)) (l.drop (k + 1)) = clE (prevD l k) (l.drop k) := by
  rw [drop_gi h]
  conv => rhs; unfold clE
  rw [if_neg hb]
  have hp : ¬ gi l k ≤ prevD l k := by
    unfold prevD
    split
    · omega
    · rename_i hk; exact ho hk
  rw [if_neg hp]
  unfold prevD
  rw [if_neg (by omega), Nat.add_sub_cancel]
theorem clE_end {l : List Int} : clE (prevD l l.length) (l.drop l.length) = 0 := by rw [List.drop_length]; rfl
theorem newE_sh {sh : List Sp} {cl : List Int} (h1 : sh.length ≠ 0) (h2 : ¬ (21 < sh.length ∨ 400 < cl.length)) : newE sh cl = if shE (prevB sh 0) (sh.drop 0) ≠ 0 then shE (prevB sh 0) (sh.drop 0) else clE (prevD cl 0) (cl.drop 0) := by
  unfold newE
  rw [if_neg h1, if_neg h2]; rfl
end Go.Proofs.YtbjnpiaooehmjaaDoor
