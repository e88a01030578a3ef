/- Contracts: Heat, Links. -/
import Derived.Test.YtjbegegjpepkjaaDoorTraH
import Derived.WalkSpells
namespace Go.Proofs.YtjbegegjpepkjaaDoor
open Go.RowKit Go.Maps

theorem Heat_nil (a : ByteArray) (w : World) : Calls Tryd.prog 16 #[.pointer none, .string a] w fun e w' => e = .returned (.tuple #[.string ⟨#[]⟩, .int .i64 1]) ∧ w = w' := by
  go_enter Tryd.func16, Tryd.ntmps16
  go_wp2_with fail
  go_ret2
  exact ⟨rfl, rfl⟩
theorem Heat_yes (B rb : Nat) (l : List Lnk) (s : ByteArray) (w : World) (h : RegW B rb l w) (hs : s.size ≤ maxLen) (x : Lnk) (hx : fnd l s.data.toList = some x) :
    Calls Tryd.prog 16 #[.pointer (some ⟨rb, 0, none⟩), .string s] w (Ret w (.tuple #[.string (bs x.heat), .int .i64 0])) := by
  have HF := Lib.hid (find_yes B rb l s w h hs x hx)
  unfold lkArr at HF
  clear h hx
  go_enter Tryd.func16, Tryd.ntmps16
  go_wp2_with fail
  refine HF.out.mono ?_
  rintro e w1 ⟨rfl, hb⟩
  have HB := Lib.hid hb
  clear hb
  go_wp2_with fail
  go_ret2
  exact ⟨rfl, below_alloc HB.out _⟩
theorem Heat_no (B rb : Nat) (l : List Lnk) (s : ByteArray) (w : World) (h : RegW B rb l w) (hs : s.size ≤ maxLen) (hx : fnd l s.data.toList = none) :
    Calls Tryd.prog 16 #[.pointer (some ⟨rb, 0, none⟩), .string s] w (Ret w (.tuple #[.string ⟨#[]⟩, .int .i64 8])) := by
  have HF := Lib.hid (find_no B rb l s w h hs hx)
  unfold noArr at HF
  clear h hx
  go_enter Tryd.func16, Tryd.ntmps16
  go_wp2_with fail
  refine HF.out.mono ?_
  rintro e w1 ⟨rfl, hb⟩
  have HB := Lib.hid hb
  clear hb
  go_wp2_with fail
  go_ret2
  exact ⟨rfl, below_alloc HB.out _⟩

/-! Links -/
theorem LkAt.nth {w : World} {b off : Nat} {x : Lnk} (h : LkAt w b off x) : ∀ (j : Nat) u, (lkCells x)[j]? = some u → w.cell? ⟨b, off + j, none⟩ = some u := by
  obtain ⟨y0, y1, y2, y3, y4⟩ := h
  intro j u hj
  match j, hj with
  | 0, hj => simp [lkCells] at hj; subst hj; exact y0
  | 1, hj => simp [lkCells] at hj; subst hj; exact y1
  | 2, hj => simp [lkCells] at hj; subst hj; exact y2
  | 3, hj => simp [lkCells] at hj; subst hj; exact y3
  | 4, hj => simp [lkCells] at hj; subst hj; exact y4
theorem SK.flat {w : World} {ad : Addr} {n cap : Nat} {l : List Lnk} (h : SK w (.slice (some ad) n cap) l) : n = l.length ∧ ∀ (j : Nat) u, (l.flatMap lkCells)[j]? = some u → w.cell? (ad.add j) = some u := by
  obtain ⟨a, cap', e, h1, h2, h3⟩ := h
  simp at e
  obtain ⟨rfl, rfl, rfl⟩ := e
  refine ⟨rfl, fun j u hj => ?_⟩
  have hjl := (List.getElem?_eq_some_iff.1 hj).1
  rw [flat_len lkCells lkCells_len] at hjl
  have hi : j / 5 < l.length := by omega
  obtain ⟨b, off, ha, hc⟩ := h3 (j / 5) hi
  have ha := Option.some.inj ha
  subst ha
  have e := flat_get lkCells lkCells_len l (j / 5) (j % 5) hi (by omega)
  rw [show j / 5 * 5 + j % 5 = j by omega, hj, ← ki_lt hi] at e
  have := hc.nth (j % 5) u e.symm
  rw [Lib.add_plain]
  rw [show off + j / 5 * 5 + j % 5 = off + j by omega] at this
  exact this
/-- whole lists of links onto a row -/
theorem wpList_app_links {ops : Array Oper} {rest : List Oper} {o : Oper} {a : Act} {Q : Exit → Act → World → Prop} {w : World} (hw : Region.wanted o (yielded ops a.tmps) = true) (s x : Operand)
    (ho : o.op = .call { callee := .builtin .append, args := #[s, x], argTypes := #[22, 22] }) (B : Nat) (v : Value) (l m : List Lnk) (hs : a.eval s = v) (hown : OwnK w B v l)
    (ad : Addr) (n c : Nat) (hx : a.eval x = .slice (some ad) n c) (hy : SK w (.slice (some ad) n c) m) (hlen : l.length + m.length ≤ 1000000) (hb : B ≤ w.heap.size)
    (h : ∀ v' w', OwnK w' B v' (l ++ m) → w.grownBy w' v.ownBlock → (v'.ownBlock = v.ownBlock ∨ v'.ownBlock = some w.heap.size) → wpList Tryd.prog ops Q rest (a.put o.dst v') w') : wpList Tryd.prog ops Q (o :: rest) a w :=
  wpList_step fun K hK => by
    rw [if_pos hw]
    obtain ⟨i, hi, hz0, hz1, hz2⟩ := info_parts Tryd_infoLink
    obtain ⟨rfl, hf⟩ := hy.flat
    refine wp_app_gen s x 22 29 ho i (.agg #[.string ⟨#[]⟩, .string ⟨#[]⟩, .string ⟨#[]⟩, .int .i64 0, .int .u64 0]) 5 64 Tryd.underlying22 hi hz0 hz1 hz2 rfl (by decide) B v l.length (l.flatMap lkCells) hs hown ad m.length c hx (m.flatMap lkCells) (flat_len lkCells lkCells_len m) hf (fun u hu => ?_) (by unfold maxLen; omega) (by omega) hb fun v' w' h1 h2 h3 => hK _ _ (h v' w' ?_ h2 h3)
    · obtain ⟨z, _, hz⟩ := List.mem_flatMap.1 hu
      simp only [lkCells, List.mem_cons, List.not_mem_nil, or_false] at hz
      rcases hz with rfl | rfl | rfl | rfl | rfl <;> rfl
    · unfold OwnK
      rw [List.length_append, List.flatMap_append]
      exact h1
theorem OwnK_empty (w : World) (B : Nat) (hB : B ≤ w.heap.size) : OwnK (w.alloc (.cells #[] 29)) B (.slice (some ⟨w.heap.size, 0, none⟩) 0 0) [] :=
  ⟨rfl, .inr ⟨w.heap.size, 0, #[], rfl, hB, (MapKept.heap_alloc w _).1, Nat.le_refl _, Nat.zero_le _, rfl, rfl⟩⟩
def RetK (w : World) (l : List Lnk) (e : Ending) (w' : World) : Prop := ∃ v, e = .returned v ∧ OwnK w' w.heap.size v l ∧ Below w.heap.size w w'
theorem cloneK_any (v : Value) (l : List Lnk) (w : World) (h : SK w v l) (hn : v = .slice none 0 0 ∨ ∃ a n c, v = .slice (some a) n c) (hl : l.length ≤ 1000000) :
    Calls Tryd.prog 31 #[v] w (RetK w l) := by
  have qn : ∀ (w : World) (a : Option Addr) (n c n' c' : Nat), (binOp .eql 22 (.slice a n c) (.slice none n' c')).run Tryd.prog w = .ok (.bool a.isNone) w := fun w a n c n' c' => Lib.run_eql_slice_nil w _ _ a n c n' c' Tryd.underlying22
  rcases hn with rfl | ⟨a, n, c, rfl⟩
  · have hx : l = [] := by
      obtain ⟨a', c', he, _⟩ := h; simp at he; exact List.eq_nil_of_length_eq_zero he.2.1.symm
    subst hx
    clear h
    go_enter Tryd.func31, Tryd.ntmps31
    go_wp2_with fail
    go_ret
    exact ⟨_, rfl, OwnK_nil _ _, Below.refl _ _⟩
  · have H := Lib.hid h
    clear h
    go_enter Tryd.func31, Tryd.ntmps31
    go_wp2_with (at_builtin; refine wpList_app_links rfl (.tmp 5) (.tmp 6) rfl w.heap.size _ [] l rfl (OwnK_empty _ _ (Nat.le_refl _)) a n c rfl (H.out.keep ((Below.refl _ _).alloc (Nat.le_refl _) _)) (by simp; omega) (by simp) ?_)
    intro v' w' ho hg _
    have hb : Below w.heap.size w w' := ((Below.refl _ _).alloc (Nat.le_refl _) _).grown hg (by simp) (by simp [Value.ownBlock])
    clear hg
    go_wp2_with fail
    go_ret
    exact ⟨_, rfl, by simpa using ho, hb⟩
theorem Links_nil (w : World) : Calls Tryd.prog 18 #[.pointer none] w fun e w' => e = .returned (.slice none 0 0) ∧ w = w' := by
  go_enter Tryd.func18, Tryd.ntmps18
  go_wp2_with fail
  go_ret
  exact ⟨rfl, rfl⟩
theorem Links_any (B rb : Nat) (l : List Lnk) (w : World) (h : RegW B rb l w) : Calls Tryd.prog 18 #[.pointer (some ⟨rb, 0, none⟩)] w (RetK w l) := by
  obtain ⟨bm, v, D, h⟩ := h
  have c0 := h.c0
  have hl := h.h5
  rcases own_flat_form h.own with ⟨rfl, rfl⟩ | ⟨g, cap, rfl, _, _, hn, hm, _⟩
  · clear h
    have HCL := Lib.hid (cloneK_any (.slice none 0 0) [] w (SK_nil w) (.inl rfl) (by simp))
    go_enter Tryd.func18, Tryd.ntmps18
    go_wp2_with fail
    refine HCL.out.mono ?_
    rintro e w1 ⟨vv, rfl, ho, hb⟩
    obtain ⟨a2, n2, c2, e2⟩ : ∃ a n c, vv = .slice a n c := by rcases ho.2 with ⟨e, _⟩ | ⟨_, _, _, e, _⟩ <;> exact ⟨_, _, _, e⟩
    have HO := Lib.hid ho
    have HB := Lib.hid hb
    clear ho hb
    subst e2
    go_wp2_with fail
    go_ret
    exact ⟨_, rfl, HO.out, HB.out⟩
  · have HSK := Lib.hid h.own.sk
    have HCL : Hid (Calls Tryd.prog 31 #[.slice (some ⟨g, 0, none⟩) l.length l.length] w (RetK w l)) := by
      refine cloneK_any _ l w ?_ (.inr ⟨_, _, _, rfl⟩) (by omega)
      obtain ⟨a, cap', e, h1, h2, h3⟩ := HSK.out
      simp at e
      obtain ⟨rfl, rfl⟩ := e
      exact ⟨_, _, rfl, Nat.le_refl _, by omega, h3⟩
    clear h
    unfold maxLen at hm
    go_enter Tryd.func18, Tryd.ntmps18
    go_wp2_with fail
    refine HCL.out.mono ?_
    rintro e w1 ⟨vv, rfl, ho, hb⟩
    obtain ⟨a2, n2, c2, e2⟩ : ∃ a n c, vv = .slice a n c := by rcases ho.2 with ⟨e, _⟩ | ⟨_, _, _, e, _⟩ <;> exact ⟨_, _, _, e⟩
    have HO := Lib.hid ho
    have HB := Lib.hid hb
    clear ho hb
    subst e2
    go_wp2_with fail
    go_ret
    exact ⟨_, rfl, HO.out, HB.out⟩
theorem Origin_nil (a : ByteArray) (w : World) : Calls Tryd.prog 14 #[.pointer none, .string a] w fun e w' => e = .returned (.tuple #[.slice none 0 0, .int .i64 1]) ∧ w = w' := by
  go_enter Tryd.func14, Tryd.ntmps14
  go_wp2_with fail
  refine (Heat_nil a _).mono ?_
  rintro e w1 ⟨rfl, rfl⟩
  go_wp2_with fail
  go_ret2
  exact ⟨rfl, rfl⟩
theorem Origin_no (B rb : Nat) (l : List Lnk) (s : ByteArray) (w : World) (h : RegW B rb l w) (hs : s.size ≤ maxLen) (hx : fnd l s.data.toList = none) :
    Calls Tryd.prog 14 #[.pointer (some ⟨rb, 0, none⟩), .string s] w (Ret w (.tuple #[.slice none 0 0, .int .i64 8])) := by
  have HF := Lib.hid (Heat_no B rb l s w h hs hx)
  clear h hx
  go_enter Tryd.func14, Tryd.ntmps14
  go_wp2_with fail
  refine HF.out.mono ?_
  rintro e w1 ⟨rfl, hb⟩
  have HB := Lib.hid hb
  clear hb
  go_wp2_with fail
  go_ret2
  exact ⟨rfl, HB.out⟩
theorem OwnK_one (w : World) (B : Nat) (hB : B ≤ w.heap.size) (x : Lnk) : OwnK (w.alloc (.cells #[.string (bs x.item), .string (bs x.frm), .string (bs x.heat), .int .i64 x.tm, .int .u64 x.hash] 29)) B (.slice (some ⟨w.heap.size, 0, none⟩) 1 1) [x] :=
  ⟨rfl, .inr ⟨w.heap.size, 1, _, rfl, hB, (MapKept.heap_alloc w _).1, Nat.le_refl _, by unfold maxLen; omega, rfl, rfl⟩⟩
/-- the block of a link -/
def LkB (w : World) (b : Nat) (x : Lnk) : Prop := w.heap[b]? = some (.cells #[.string (bs x.item), .string (bs x.frm), .string (bs x.heat), .int .i64 x.tm, .int .u64 x.hash] 29 (0, 0))
theorem LkB.at {w : World} {b : Nat} {x : Lnk} (h : LkB w b x) : w.cell? ⟨b, 0, none⟩ = some (.string (bs x.item)) ∧ w.cell? ⟨b, 1, none⟩ = some (.string (bs x.frm)) ∧ w.cell? ⟨b, 2, none⟩ = some (.string (bs x.heat)) ∧ w.cell? ⟨b, 3, none⟩ = some (.int .i64 x.tm) ∧ w.cell? ⟨b, 4, none⟩ = some (.int .u64 x.hash) := by
  refine ⟨?_, ?_, ?_, ?_, ?_⟩ <;> (rw [cell_of_row w b _ _ _ _ h]; rfl)
theorem LkB.lt {w : World} {b : Nat} {x : Lnk} (h : LkB w b x) : b < w.heap.size := (Array.getElem?_eq_some_iff.1 h).1
theorem LkB.keep {w w' : World} {b : Nat} {x : Lnk} (h : LkB w b x) (hb : Below w.heap.size w w') : LkB w' b x := by unfold LkB; rw [hb.block b h.lt]; exact h
theorem LkB.new (w : World) (x : Lnk) : LkB (w.alloc (.cells #[.string (bs x.item), .string (bs x.frm), .string (bs x.heat), .int .i64 x.tm, .int .u64 x.hash] 29)) w.heap.size x := (MapKept.heap_alloc w _).1
theorem LkB.set {w : World} {b : Nat} {x : Lnk} (h : LkB w b x) (y : Lnk) : LkB (w.setRow b #[.string (bs y.item), .string (bs y.frm), .string (bs y.heat), .int .i64 y.tm, .int .u64 y.hash]) b y := setRow_heap w b _ _ 29 _ h
end Go.Proofs.YtjbegegjpepkjaaDoor
