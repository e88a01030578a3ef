/- The types of designs and materials, as the walk of regions wants them; sums wrap (printed by wip/gen_rmt.py). -/
import Derived.Test.YtfmhickjefogdaaGreatPk01
import Derived.Laws.Rows
import Derived.Laws.Tables
import Derived.OneCell
import Derived.WalkSmall
import Derived.IntWalk
import Derived.Test.YtfmhickjefogdaaGreatPk03
import Derived.Test.YtfmhickjefogdaaGreatPk02
import Derived.Lib.Bytes
import Derived.Deep.MidRow
import Derived.Shelf.Abstract
import Derived.BigQuiet
import Derived.Deep.Cut
import Derived.Deep.Draws
import Derived.Deep.LoopGhost
import Derived.Deep.QuietTactic
import Derived.Deep.RegionWith
import Derived.Handy
import Derived.Lib.Hide
import Derived.Lib.SliceRun
import Derived.Outline
import Derived.WalkKit
set_option linter.unusedSimpArgs false
set_option linter.unusedVariables false

/- Slices of elements of whatever type that a call owns: the builtin append, reading back; strings. -/
namespace Go.Proofs.YtfmhickjefogdaaGreat
open Go.RowKit

/-- the builtin append onto a row that the call owns -/
theorem wp_app_gen {o : Oper} {a : Act} {K : Act → World → Prop} {Q : Exit → Act → World → Prop} {w : World} (s x : Operand) (t e : TypeId)
    (ho : o.op = .call { callee := .builtin .append, args := #[s, x], argTypes := #[t, t] }) (i : TypeInfo) (z : Value) (size bytes : Nat) (ht : Tryz.prog.underlying t = some (.slice e)) (hi : Tryz.prog.info? e = some i) (hz : i.zero = some z)
    (hsize : i.size = size) (hby : i.bytes = bytes) (hzs : z.cells.size = size) (hsz : 0 < size)
    (B : Nat) (v : Value) (n : Nat) (xs : List Value) (hs : a.eval s = v) (hown : w.ownsRow B e size v n xs)
    (ad : Addr) (m c : Nat) (hx : a.eval x = .slice (some ad) m c) (news : List Value) (hl : news.length = m * size) (hnews : ∀ j u, news[j]? = some u → w.cell? (ad.add j) = some u) (h1 : ∀ u ∈ news, u.oneCell' = true)
    (h63 : n + m ≤ maxLen) (hbytes : (n + m) * bytes ≤ 140737488355328) (hb : B ≤ w.heap.size)
    (h : ∀ v' w', w'.ownsRow B e size v' (n + m) (xs ++ news) → w.grownBy w' v.ownBlock → (v'.ownBlock = v.ownBlock ∨ v'.ownBlock = some w.heap.size) → K (a.put o.dst v') w') : o.wp Tryz.prog a w K Q := by
  obtain ⟨v', w', hr, h2, h3, _, h4⟩ := run_append_own_at (P := Tryz.prog) w B t o.type e i z size bytes ht hi hz hsize hby hzs hsz v n xs hown ad m c news hl hnews h1 h63 hbytes hb
  unfold Oper.wp execOp
  simp only [ho, resolve, invoke, builtin, Sem.run_bind, Sem.run_pure, Result.andThen_ok, List.map_toArray, List.map_cons, List.map_nil, hs, hx, hr]
  exact h v' w' h2 h3 h4

/-! rows of elements of some cells each -/
theorem flat_len {T : Type} (f : T → List Value) {n : Nat} (hf : ∀ x, (f x).length = n) (xs : List T) : (xs.flatMap f).length = xs.length * n := by
  induction xs with
  | nil => simp
  | cons x xs ih => rw [List.flatMap_cons, List.length_append, ih, hf, List.length_cons, Nat.add_mul]; omega
theorem flat_get {T : Type} (f : T → List Value) {n : Nat} (hf : ∀ x, (f x).length = n) : ∀ (xs : List T) (i j : Nat) (h : i < xs.length), j < n → (xs.flatMap f)[i * n + j]? = (f xs[i])[j]? := by
  intro xs
  induction xs with
  | nil => intro i j h; simp at h
  | cons x xs ih =>
    intro i j h hj
    rw [List.flatMap_cons]
    cases i with
    | zero => rw [List.getElem?_append_left (by rw [hf]; omega)]; simp
    | succ i =>
      have hi : i < xs.length := by simpa using h
      have he : (i + 1) * n + j = (f x).length + (i * n + j) := by rw [hf, Nat.add_mul]; omega
      rw [he, List.getElem?_append_right (by omega), Nat.add_sub_cancel_left, ih i j hi hj]; simp
theorem own_flat_form {T : Type} {f : T → List Value} {sz : Nat} {w : World} {B : Nat} {e : TypeId} {v : Value} {xs : List T} (h : w.ownsRow B e sz v xs.length (xs.flatMap f)) :
    (v = .slice none 0 0 ∧ xs = []) ∨ ∃ g cap, v = .slice (some ⟨g, 0, none⟩) xs.length cap ∧ B ≤ g ∧ g < w.heap.size ∧ xs.length ≤ cap ∧ cap ≤ maxLen ∧ ∀ j, j < xs.length * sz → w.cell? ⟨g, j, none⟩ = (xs.flatMap f)[j]? := by
  have h0 := h
  rcases h.2 with ⟨rfl, hn⟩ | ⟨g, cap, cur, rfl, hb, hg, hn, hm, hs, ht⟩
  · exact .inl ⟨rfl, List.eq_nil_of_length_eq_zero hn⟩
  · exact .inr ⟨g, cap, rfl, hb, lt_of_block hg, hn, hm, fun j hj => h0.cellAt j hj⟩

/-! strings -/
def zi (ss : List ByteArray) (k : Nat) : ByteArray := ss.getD k .empty
theorem Tryz_infoStr : (Tryz.prog.info? 9).map (fun i => (i.zero, i.size, i.bytes)) = some (some (.string ⟨#[]⟩), 1, 16) := by kernel_rfl
def OwnZ (w : World) (B : Nat) (v : Value) (ss : List ByteArray) : Prop := w.ownsRow B 9 1 v ss.length (ss.map Value.string)
theorem OwnZ_nil (w : World) (B : Nat) : OwnZ w B (.slice none 0 0) [] := World.ownsRow_nil _ _ _ _
theorem OwnZ.below {w w' : World} {B : Nat} {v : Value} {r : List ByteArray} (h : OwnZ w B v r) (hb : Below w.heap.size w w') : OwnZ w' B v r := owns_below h hb
theorem OwnZ.lt {w : World} {B : Nat} {v : Value} {r : List ByteArray} (h : OwnZ w B v r) (k : Nat) (hk : v.ownBlock = some k) : B ≤ k ∧ k < w.heap.size := World.ownsRow.lt h k hk
theorem OwnZ.sl {w : World} {B : Nat} {v : Value} {ss : List ByteArray} (h : OwnZ w B v ss) : Sl w v ss.length fun i => .string (zi ss i) := by
  obtain ⟨a, cap, rfl, h1, h2, h3⟩ := Sl_of_owns h
  refine ⟨a, cap, rfl, h1, h2, fun i hi => ?_⟩
  obtain ⟨b, off, ha, hc⟩ := h3 i hi
  refine ⟨b, off, ha, ?_⟩
  rw [hc]
  simp [zi, hi]
end Go.Proofs.YtfmhickjefogdaaGreat

/- Small laws of memory for seats without slices of integers: rows that a call owns, the builtin append, strings. -/
namespace Go.Proofs.YtfmhickjefogdaaGreat
open Go.RowKit
theorem cell_drew' {w : World} {p : Addr} {v : Value} (h : w.cell? p = some v) : w.drew.cell? p = some v := h
theorem cell_alloc' {w : World} {p : Addr} {v : Value} (h : w.cell? p = some v) (o : Obj) : (w.alloc o).cell? p = some v := cell_keep ((Below.refl _ _).alloc (Nat.le_refl _) _) h
theorem below_alloc {a b : World} (h : Below a.heap.size a b) (o : Obj) : Below a.heap.size a (b.alloc o) := h.alloc h.size o
theorem grownBy_set (w : World) (b o : Nat) (v : Value) : w.grownBy (w.setCell ⟨b, o, none⟩ v) (some b) :=
  ⟨rfl, rfl, rfl, by simp [World.setCell], fun k hk hn => Below.heap_setCell _ _ _ _ (fun e => hn (by simp [e]))⟩
theorem set_far {w : World} {b o k : Nat} {v : Value} (h : k ≠ b) : (w.setCell ⟨b, o, none⟩ v).heap[k]? = w.heap[k]? := Below.heap_setCell _ _ _ _ h
theorem cell_set_far {w : World} {b o : Nat} {x v : Value} {p : Addr} (h : w.cell? p = some v) (hne : p.block ≠ b) : (w.setCell ⟨b, o, none⟩ x).cell? p = some v := (World.cell?_of_block (a := p) (set_far hne)).trans h
end Go.Proofs.YtfmhickjefogdaaGreat

/- Points, parts, rectangles, spans, spots, shapes in memory (printed by wip/gen_rmmem.py). -/
namespace Go.Proofs.YtfmhickjefogdaaGreat
open Go.RowKit

def bs (l : List UInt8) : ByteArray := ⟨l.toArray⟩
theorem bs_list (l : List UInt8) : (bs l).data.toList = l := rfl
theorem bs_of (s : ByteArray) : bs s.data.toList = s := by cases s; simp [bs]
theorem bs_size (l : List UInt8) : (bs l).size = l.length := by simp [bs, ByteArray.size]
theorem bs_inj {a b : List UInt8} (h : bs a = bs b) : a = b := by rw [← bs_list a, h, bs_list]
theorem bs_toList (l : List UInt8) : (bs l).toList = l := by rw [Lib.toList_data, bs_list]
theorem bs_eq (a b : List UInt8) : ((bs a).toList == (bs b).toList) = (a == b) := by rw [bs_toList, bs_toList]
/-- a part, the slices of its shape, and what they read as -/
structure Prt where
  id : List UInt8
  rev : Int
  kind : Int
  node : List UInt8
  grade : List UInt8
  thick : Int
  ov : Value
  hv : Value
  sect : List UInt8
  length : Int
  mass : Int
  cx : Int
  cy : Int
  cz : Int
  ax : Int
  ay : Int
  az : Int
  turn : Int
  outer : List Pnt
  holes : List (List Pnt)
  hvs : List Value
instance : Inhabited Prt := ⟨⟨[], 0, 0, [], [], 0, .slice none 0 0, .slice none 0 0, [], 0, 0, 0, 0, 0, 0, 0, 0, 0, [], [], []⟩⟩
structure Rct where
  x0 : Int
  y0 : Int
  x1 : Int
  y1 : Int
instance : Inhabited Rct := ⟨⟨0, 0, 0, 0⟩⟩
structure Spn where
  a : Int
  b : Int
instance : Inhabited Spn := ⟨⟨0, 0⟩⟩
structure Spo where
  part : List UInt8
  x : Int
  y : Int
  turn : Int
  flip : Bool
instance : Inhabited Spo := ⟨⟨[], 0, 0, 0, false⟩⟩
/-- a shape, its slices and what they read as -/
structure Shv where
  oa : Option Addr
  on : Nat
  oc : Nat
  ha : Option Addr
  hn : Nat
  hc : Nat
  outer : List Pnt
  holes : List (List Pnt)
  hvs : List Value
instance : Inhabited Shv := ⟨⟨none, 0, 0, none, 0, 0, [], [], []⟩⟩
def pri (l : List Prt) (k : Nat) : Prt := l.getD k default
def rci (l : List Rct) (k : Nat) : Rct := l.getD k default
def sni (l : List Spn) (k : Nat) : Spn := l.getD k default
def soi (l : List Spo) (k : Nat) : Spo := l.getD k default
def shi (l : List Shv) (k : Nat) : Shv := l.getD k default
/-! Pnt -/
def ptCells (x : Pnt) : List Value := [.int .i64 x.x, .int .i64 x.y]
theorem ptCells_len (x : Pnt) : (ptCells x).length = 2 := rfl
theorem pti_lt {l : List Pnt} {k : Nat} (h : k < l.length) : pti l k = l[k] := by simp [pti, h]
theorem pti_mem {l : List Pnt} {k : Nat} (h : k < l.length) : pti l k ∈ l := by rw [pti_lt h]; exact List.getElem_mem h
theorem mem_pti {l : List Pnt} {x : Pnt} (h : x ∈ l) : ∃ k, k < l.length ∧ pti l k = x := by
  obtain ⟨k, hk, rfl⟩ := List.mem_iff_getElem.1 h; exact ⟨k, hk, pti_lt hk⟩
theorem take_pti {l : List Pnt} {k : Nat} (h : k < l.length) : l.take (k + 1) = l.take k ++ [pti l k] := by
  rw [List.take_succ_eq_append_getElem h, pti_lt h]
theorem pti_take {l : List Pnt} {k n : Nat} (h : k < n) : pti (l.take n) k = pti l k := by
  simp [pti, List.getElem?_take, h]
structure PtAt (w : World) (b off : Nat) (x : Pnt) : Prop where
  c0 : w.cell? ⟨b, off, none⟩ = some (.int .i64 x.x)
  c1 : w.cell? ⟨b, off + 1, none⟩ = some (.int .i64 x.y)
theorem PtAt.keep {w w' : World} {b off : Nat} {x : Pnt} (h : PtAt w b off x) (hb : Below w.heap.size w w') : PtAt w' b off x := ⟨cell_keep hb h.c0, cell_keep hb h.c1⟩
/-- a slice that reads as such a list -/
def SPt (w : World) (v : Value) (l : List Pnt) : Prop :=
  ∃ a cap, v = .slice a l.length cap ∧ l.length ≤ cap ∧ cap ≤ maxLen ∧ ∀ i, i < l.length → ∃ b off, a = some ⟨b, off, none⟩ ∧ PtAt w b (off + i * 2) (pti l i)
theorem SPt.keep {w w' : World} {v : Value} {l : List Pnt} (h : SPt w v l) (hb : Below w.heap.size w w') : SPt w' v l := by
  obtain ⟨a, cap, rfl, h1, h2, h3⟩ := h
  exact ⟨a, cap, rfl, h1, h2, fun i hi => by obtain ⟨b, off, ha, hc⟩ := h3 i hi; exact ⟨b, off, ha, hc.keep hb⟩⟩
theorem SPt.len {w : World} {v : Value} {l : List Pnt} (h : SPt w v l) : l.length ≤ maxLen := by obtain ⟨a, cap, _, h1, h2, _⟩ := h; omega
theorem SPt_nil (w : World) : SPt w (.slice none 0 0) [] := ⟨none, 0, rfl, Nat.le_refl _, Nat.zero_le _, fun i hi => by simp at hi⟩
theorem SPt.form {w : World} {v : Value} {l : List Pnt} (h : SPt w v l) (hl : 1 ≤ l.length) : ∃ b off cap, v = .slice (some ⟨b, off, none⟩) l.length cap ∧ l.length ≤ cap ∧ cap ≤ maxLen ∧ b < w.heap.size ∧ ∀ i, i < l.length → PtAt w b (off + i * 2) (pti l i) := by
  obtain ⟨a, cap, rfl, h1, h2, h3⟩ := h
  obtain ⟨b, off, rfl, hc⟩ := h3 0 (by omega)
  refine ⟨b, off, cap, rfl, h1, h2, World.block_lt_of_cell? w _ hc.c0, fun i hi => ?_⟩
  obtain ⟨b', off', ha, hc'⟩ := h3 i hi
  have ha := Option.some.inj ha
  simp only [Addr.mk.injEq] at ha
  obtain ⟨rfl, rfl, _⟩ := ha
  exact hc'
theorem SPt.take {w : World} {a : Option Addr} {n cap : Nat} {l : List Pnt} (h : SPt w (.slice a n cap) l) (k : Nat) (hk : k ≤ l.length) : SPt w (.slice a k cap) (l.take k) := by
  obtain ⟨a', cap', he, h1, h2, h3⟩ := h
  simp at he
  obtain ⟨rfl, rfl, rfl⟩ := he
  have hl : (l.take k).length = k := by simp; omega
  refine ⟨a, cap, by rw [hl], by omega, h2, fun i hi => ?_⟩
  rw [hl] at hi
  obtain ⟨b, off, ha, hc⟩ := h3 i (by omega)
  exact ⟨b, off, ha, by rw [pti_take hi]; exact hc⟩
theorem SPt.at {w : World} {a : Option Addr} {n cap : Nat} {l : List Pnt} (h : SPt w (.slice a n cap) l) {i : Nat} (hi : i < l.length) : ∃ b off, a = some ⟨b, off, none⟩ ∧ PtAt w b (off + i * 2) (pti l i) := by
  obtain ⟨a', cap', he, h1, h2, h3⟩ := h
  simp at he
  obtain ⟨rfl, rfl, rfl⟩ := he
  exact h3 i hi
theorem SPt.n {w : World} {a : Option Addr} {n cap : Nat} {l : List Pnt} (h : SPt w (.slice a n cap) l) : n = l.length := by
  obtain ⟨a', cap', he, _⟩ := h
  simp at he
  exact he.2.1
def OwnPt (w : World) (B : Nat) (v : Value) (l : List Pnt) : Prop := w.ownsRow B 37 2 v l.length (l.flatMap ptCells)
theorem OwnPt_nil (w : World) (B : Nat) : OwnPt w B (.slice none 0 0) [] := World.ownsRow_nil _ _ _ _
theorem OwnPt.below {w w' : World} {B : Nat} {v : Value} {l : List Pnt} (h : OwnPt w B v l) (hb : Below w.heap.size w w') : OwnPt w' B v l := owns_below h hb
theorem OwnPt.alloc {w : World} {B : Nat} {v : Value} {l : List Pnt} (h : OwnPt w B v l) (o : Obj) : OwnPt (w.alloc o) B v l := World.ownsRow.alloc h o
theorem OwnPt.mono {w : World} {B B' : Nat} {v : Value} {l : List Pnt} (h : OwnPt w B v l) (hb : B' ≤ B) : OwnPt w B' v l := owns_mono h hb
theorem OwnPt.lt {w : World} {B : Nat} {v : Value} {l : List Pnt} (h : OwnPt w B v l) (k : Nat) (hk : v.ownBlock = some k) : B ≤ k ∧ k < w.heap.size := World.ownsRow.lt h k hk
theorem OwnPt.at {w : World} {B g n cap : Nat} {l : List Pnt} (h : OwnPt w B (.slice (some ⟨g, 0, none⟩) n cap) l) {i : Nat} (hi : i < l.length) : PtAt w g (i * 2) (pti l i) := by
  have h0 : w.ownsRow B 37 2 (.slice (some ⟨g, 0, none⟩) n cap) l.length (l.flatMap ptCells) := h
  rcases own_flat_form h0 with ⟨hn, _⟩ | ⟨g', cap', he, _, _, _, _, hc⟩
  · cases hn
  · simp at he
    obtain ⟨rfl, _, _⟩ := he
    have key : ∀ j, j < 2 → w.cell? ⟨g, i * 2 + j, none⟩ = (ptCells (pti l i))[j]? := fun j hj => by
      rw [hc (i * 2 + j) (by omega), flat_get ptCells ptCells_len l i j hi hj, pti_lt hi]
    exact ⟨key 0 (by omega), key 1 (by omega)⟩
theorem OwnPt.s {w : World} {B : Nat} {v : Value} {l : List Pnt} (h : OwnPt w B v l) : SPt w v l := by
  rcases own_flat_form h with ⟨rfl, rfl⟩ | ⟨g, cap, rfl, _, _, hn, hm, _⟩
  · exact SPt_nil w
  · exact ⟨_, cap, rfl, hn, hm, fun i hi => ⟨g, 0, rfl, by rw [Nat.zero_add]; exact OwnPt.at h hi⟩⟩

theorem pt_range {w : World} {b off : Nat} {x : Pnt} (h : PtAt w b off x) : w.rangeAt b off (ptCells x) := fun j v hv => by
  match j, hv with
  | 0, hv => cases hv; exact h.c0
  | 1, hv => cases hv; exact h.c1
def ptA (x : Pnt) : Array Value := #[.int .i64 x.x, .int .i64 x.y]
theorem ptC {w : World} {b : Nat} {x : Pnt} {e : TypeId} (h : ObjAt w b (ptA x) e) : PtAt w b 0 x := ⟨h.cell 0, h.cell 1⟩
theorem copyPt (w : World) (x : Pnt) : ∃ W1, Hid (ObjAt W1 w.heap.size (ptA x) 37) ∧ Hid (Below w.heap.size w W1) ∧ Hid (w.alloc (.cells #[.int .i64 x.x, .int .i64 x.y] 37) = W1) ∧ Hid (w.heap.size < W1.heap.size) :=
  ⟨w.alloc (.cells (ptA x) 37), ObjAt.new _ _ _, (Below.refl _ _).alloc (Nat.le_refl _) _, rfl, by show _ < _; simp⟩
/-! Prt -/
def prCells (x : Prt) : List Value := [.string (bs x.id), .int .i64 x.rev, .int .i64 x.kind, .string (bs x.node), .string (bs x.grade), .int .i64 x.thick, x.ov, x.hv, .string (bs x.sect), .int .i64 x.length, .int .i64 x.mass, .int .i64 x.cx, .int .i64 x.cy, .int .i64 x.cz, .int .i64 x.ax, .int .i64 x.ay, .int .i64 x.az, .int .i64 x.turn]
theorem prCells_len (x : Prt) : (prCells x).length = 18 := rfl
theorem pri_lt {l : List Prt} {k : Nat} (h : k < l.length) : pri l k = l[k] := by simp [pri, h]
theorem pri_mem {l : List Prt} {k : Nat} (h : k < l.length) : pri l k ∈ l := by rw [pri_lt h]; exact List.getElem_mem h
theorem mem_pri {l : List Prt} {x : Prt} (h : x ∈ l) : ∃ k, k < l.length ∧ pri l k = x := by
  obtain ⟨k, hk, rfl⟩ := List.mem_iff_getElem.1 h; exact ⟨k, hk, pri_lt hk⟩
theorem take_pri {l : List Prt} {k : Nat} (h : k < l.length) : l.take (k + 1) = l.take k ++ [pri l k] := by
  rw [List.take_succ_eq_append_getElem h, pri_lt h]
theorem pri_take {l : List Prt} {k n : Nat} (h : k < n) : pri (l.take n) k = pri l k := by
  simp [pri, List.getElem?_take, h]
structure PrAt (w : World) (b off : Nat) (x : Prt) : Prop where
  c0 : w.cell? ⟨b, off, none⟩ = some (.string (bs x.id))
  c1 : w.cell? ⟨b, off + 1, none⟩ = some (.int .i64 x.rev)
  c2 : w.cell? ⟨b, off + 2, none⟩ = some (.int .i64 x.kind)
  c3 : w.cell? ⟨b, off + 3, none⟩ = some (.string (bs x.node))
  c4 : w.cell? ⟨b, off + 4, none⟩ = some (.string (bs x.grade))
  c5 : w.cell? ⟨b, off + 5, none⟩ = some (.int .i64 x.thick)
  c6 : w.cell? ⟨b, off + 6, none⟩ = some (x.ov)
  c7 : w.cell? ⟨b, off + 7, none⟩ = some (x.hv)
  c8 : w.cell? ⟨b, off + 8, none⟩ = some (.string (bs x.sect))
  c9 : w.cell? ⟨b, off + 9, none⟩ = some (.int .i64 x.length)
  c10 : w.cell? ⟨b, off + 10, none⟩ = some (.int .i64 x.mass)
  c11 : w.cell? ⟨b, off + 11, none⟩ = some (.int .i64 x.cx)
  c12 : w.cell? ⟨b, off + 12, none⟩ = some (.int .i64 x.cy)
  c13 : w.cell? ⟨b, off + 13, none⟩ = some (.int .i64 x.cz)
  c14 : w.cell? ⟨b, off + 14, none⟩ = some (.int .i64 x.ax)
  c15 : w.cell? ⟨b, off + 15, none⟩ = some (.int .i64 x.ay)
  c16 : w.cell? ⟨b, off + 16, none⟩ = some (.int .i64 x.az)
  c17 : w.cell? ⟨b, off + 17, none⟩ = some (.int .i64 x.turn)
theorem PrAt.keep {w w' : World} {b off : Nat} {x : Prt} (h : PrAt w b off x) (hb : Below w.heap.size w w') : PrAt w' b off x := ⟨cell_keep hb h.c0, cell_keep hb h.c1, cell_keep hb h.c2, cell_keep hb h.c3, cell_keep hb h.c4, cell_keep hb h.c5, cell_keep hb h.c6, cell_keep hb h.c7, cell_keep hb h.c8, cell_keep hb h.c9, cell_keep hb h.c10, cell_keep hb h.c11, cell_keep hb h.c12, cell_keep hb h.c13, cell_keep hb h.c14, cell_keep hb h.c15, cell_keep hb h.c16, cell_keep hb h.c17⟩
/-- a slice that reads as such a list -/
def SPr (w : World) (v : Value) (l : List Prt) : Prop :=
  ∃ a cap, v = .slice a l.length cap ∧ l.length ≤ cap ∧ cap ≤ maxLen ∧ ∀ i, i < l.length → ∃ b off, a = some ⟨b, off, none⟩ ∧ PrAt w b (off + i * 18) (pri l i)
theorem SPr.keep {w w' : World} {v : Value} {l : List Prt} (h : SPr w v l) (hb : Below w.heap.size w w') : SPr w' v l := by
  obtain ⟨a, cap, rfl, h1, h2, h3⟩ := h
  exact ⟨a, cap, rfl, h1, h2, fun i hi => by obtain ⟨b, off, ha, hc⟩ := h3 i hi; exact ⟨b, off, ha, hc.keep hb⟩⟩
theorem SPr.len {w : World} {v : Value} {l : List Prt} (h : SPr w v l) : l.length ≤ maxLen := by obtain ⟨a, cap, _, h1, h2, _⟩ := h; omega
theorem SPr_nil (w : World) : SPr w (.slice none 0 0) [] := ⟨none, 0, rfl, Nat.le_refl _, Nat.zero_le _, fun i hi => by simp at hi⟩
theorem SPr.form {w : World} {v : Value} {l : List Prt} (h : SPr w v l) (hl : 1 ≤ l.length) : ∃ b off cap, v = .slice (some ⟨b, off, none⟩) l.length cap ∧ l.length ≤ cap ∧ cap ≤ maxLen ∧ b < w.heap.size ∧ ∀ i, i < l.length → PrAt w b (off + i * 18) (pri l i) := by
  obtain ⟨a, cap, rfl, h1, h2, h3⟩ := h
  obtain ⟨b, off, rfl, hc⟩ := h3 0 (by omega)
  refine ⟨b, off, cap, rfl, h1, h2, World.block_lt_of_cell? w _ hc.c0, fun i hi => ?_⟩
  obtain ⟨b', off', ha, hc'⟩ := h3 i hi
  have ha := Option.some.inj ha
  simp only [Addr.mk.injEq] at ha
  obtain ⟨rfl, rfl, _⟩ := ha
  exact hc'
theorem SPr.take {w : World} {a : Option Addr} {n cap : Nat} {l : List Prt} (h : SPr w (.slice a n cap) l) (k : Nat) (hk : k ≤ l.length) : SPr w (.slice a k cap) (l.take k) := by
  obtain ⟨a', cap', he, h1, h2, h3⟩ := h
  simp at he
  obtain ⟨rfl, rfl, rfl⟩ := he
  have hl : (l.take k).length = k := by simp; omega
  refine ⟨a, cap, by rw [hl], by omega, h2, fun i hi => ?_⟩
  rw [hl] at hi
  obtain ⟨b, off, ha, hc⟩ := h3 i (by omega)
  exact ⟨b, off, ha, by rw [pri_take hi]; exact hc⟩
theorem SPr.at {w : World} {a : Option Addr} {n cap : Nat} {l : List Prt} (h : SPr w (.slice a n cap) l) {i : Nat} (hi : i < l.length) : ∃ b off, a = some ⟨b, off, none⟩ ∧ PrAt w b (off + i * 18) (pri l i) := by
  obtain ⟨a', cap', he, h1, h2, h3⟩ := h
  simp at he
  obtain ⟨rfl, rfl, rfl⟩ := he
  exact h3 i hi
theorem SPr.n {w : World} {a : Option Addr} {n cap : Nat} {l : List Prt} (h : SPr w (.slice a n cap) l) : n = l.length := by
  obtain ⟨a', cap', he, _⟩ := h
  simp at he
  exact he.2.1
def OwnPr (w : World) (B : Nat) (v : Value) (l : List Prt) : Prop := w.ownsRow B 61 18 v l.length (l.flatMap prCells)
theorem OwnPr_nil (w : World) (B : Nat) : OwnPr w B (.slice none 0 0) [] := World.ownsRow_nil _ _ _ _
theorem OwnPr.below {w w' : World} {B : Nat} {v : Value} {l : List Prt} (h : OwnPr w B v l) (hb : Below w.heap.size w w') : OwnPr w' B v l := owns_below h hb
theorem OwnPr.alloc {w : World} {B : Nat} {v : Value} {l : List Prt} (h : OwnPr w B v l) (o : Obj) : OwnPr (w.alloc o) B v l := World.ownsRow.alloc h o
theorem OwnPr.mono {w : World} {B B' : Nat} {v : Value} {l : List Prt} (h : OwnPr w B v l) (hb : B' ≤ B) : OwnPr w B' v l := owns_mono h hb
theorem OwnPr.lt {w : World} {B : Nat} {v : Value} {l : List Prt} (h : OwnPr w B v l) (k : Nat) (hk : v.ownBlock = some k) : B ≤ k ∧ k < w.heap.size := World.ownsRow.lt h k hk
theorem OwnPr.at {w : World} {B g n cap : Nat} {l : List Prt} (h : OwnPr w B (.slice (some ⟨g, 0, none⟩) n cap) l) {i : Nat} (hi : i < l.length) : PrAt w g (i * 18) (pri l i) := by
  have h0 : w.ownsRow B 61 18 (.slice (some ⟨g, 0, none⟩) n cap) l.length (l.flatMap prCells) := h
  rcases own_flat_form h0 with ⟨hn, _⟩ | ⟨g', cap', he, _, _, _, _, hc⟩
  · cases hn
  · simp at he
    obtain ⟨rfl, _, _⟩ := he
    have key : ∀ j, j < 18 → w.cell? ⟨g, i * 18 + j, none⟩ = (prCells (pri l i))[j]? := fun j hj => by
      rw [hc (i * 18 + j) (by omega), flat_get prCells prCells_len l i j hi hj, pri_lt hi]
    exact ⟨key 0 (by omega), key 1 (by omega), key 2 (by omega), key 3 (by omega), key 4 (by omega), key 5 (by omega), key 6 (by omega), key 7 (by omega), key 8 (by omega), key 9 (by omega), key 10 (by omega), key 11 (by omega), key 12 (by omega), key 13 (by omega), key 14 (by omega), key 15 (by omega), key 16 (by omega), key 17 (by omega)⟩
theorem OwnPr.s {w : World} {B : Nat} {v : Value} {l : List Prt} (h : OwnPr w B v l) : SPr w v l := by
  rcases own_flat_form h with ⟨rfl, rfl⟩ | ⟨g, cap, rfl, _, _, hn, hm, _⟩
  · exact SPr_nil w
  · exact ⟨_, cap, rfl, hn, hm, fun i hi => ⟨g, 0, rfl, by rw [Nat.zero_add]; exact OwnPr.at h hi⟩⟩

theorem pr_range {w : World} {b off : Nat} {x : Prt} (h : PrAt w b off x) : w.rangeAt b off (prCells x) := fun j v hv => by
  match j, hv with
  | 0, hv => cases hv; exact h.c0
  | 1, hv => cases hv; exact h.c1
  | 2, hv => cases hv; exact h.c2
  | 3, hv => cases hv; exact h.c3
  | 4, hv => cases hv; exact h.c4
  | 5, hv => cases hv; exact h.c5
  | 6, hv => cases hv; exact h.c6
  | 7, hv => cases hv; exact h.c7
  | 8, hv => cases hv; exact h.c8
  | 9, hv => cases hv; exact h.c9
  | 10, hv => cases hv; exact h.c10
  | 11, hv => cases hv; exact h.c11
  | 12, hv => cases hv; exact h.c12
  | 13, hv => cases hv; exact h.c13
  | 14, hv => cases hv; exact h.c14
  | 15, hv => cases hv; exact h.c15
  | 16, hv => cases hv; exact h.c16
  | 17, hv => cases hv; exact h.c17
def prA (x : Prt) : Array Value := #[.string (bs x.id), .int .i64 x.rev, .int .i64 x.kind, .string (bs x.node), .string (bs x.grade), .int .i64 x.thick, x.ov, x.hv, .string (bs x.sect), .int .i64 x.length, .int .i64 x.mass, .int .i64 x.cx, .int .i64 x.cy, .int .i64 x.cz, .int .i64 x.ax, .int .i64 x.ay, .int .i64 x.az, .int .i64 x.turn]
theorem prC {w : World} {b : Nat} {x : Prt} {e : TypeId} (h : ObjAt w b (prA x) e) : PrAt w b 0 x := ⟨h.cell 0, h.cell 1, h.cell 2, h.cell 3, h.cell 4, h.cell 5, h.cell 6, h.cell 7, h.cell 8, h.cell 9, h.cell 10, h.cell 11, h.cell 12, h.cell 13, h.cell 14, h.cell 15, h.cell 16, h.cell 17⟩
/-! Rct -/
def rcCells (x : Rct) : List Value := [.int .i64 x.x0, .int .i64 x.y0, .int .i64 x.x1, .int .i64 x.y1]
theorem rcCells_len (x : Rct) : (rcCells x).length = 4 := rfl
theorem rci_lt {l : List Rct} {k : Nat} (h : k < l.length) : rci l k = l[k] := by simp [rci, h]
theorem rci_mem {l : List Rct} {k : Nat} (h : k < l.length) : rci l k ∈ l := by rw [rci_lt h]; exact List.getElem_mem h
theorem mem_rci {l : List Rct} {x : Rct} (h : x ∈ l) : ∃ k, k < l.length ∧ rci l k = x := by
  obtain ⟨k, hk, rfl⟩ := List.mem_iff_getElem.1 h; exact ⟨k, hk, rci_lt hk⟩
theorem take_rci {l : List Rct} {k : Nat} (h : k < l.length) : l.take (k + 1) = l.take k ++ [rci l k] := by
  rw [List.take_succ_eq_append_getElem h, rci_lt h]
theorem rci_take {l : List Rct} {k n : Nat} (h : k < n) : rci (l.take n) k = rci l k := by
  simp [rci, List.getElem?_take, h]
structure RcAt (w : World) (b off : Nat) (x : Rct) : Prop where
  c0 : w.cell? ⟨b, off, none⟩ = some (.int .i64 x.x0)
  c1 : w.cell? ⟨b, off + 1, none⟩ = some (.int .i64 x.y0)
  c2 : w.cell? ⟨b, off + 2, none⟩ = some (.int .i64 x.x1)
  c3 : w.cell? ⟨b, off + 3, none⟩ = some (.int .i64 x.y1)
theorem RcAt.keep {w w' : World} {b off : Nat} {x : Rct} (h : RcAt w b off x) (hb : Below w.heap.size w w') : RcAt w' b off x := ⟨cell_keep hb h.c0, cell_keep hb h.c1, cell_keep hb h.c2, cell_keep hb h.c3⟩
/-- a slice that reads as such a list -/
def SRc (w : World) (v : Value) (l : List Rct) : Prop :=
  ∃ a cap, v = .slice a l.length cap ∧ l.length ≤ cap ∧ cap ≤ maxLen ∧ ∀ i, i < l.length → ∃ b off, a = some ⟨b, off, none⟩ ∧ RcAt w b (off + i * 4) (rci l i)
theorem SRc.keep {w w' : World} {v : Value} {l : List Rct} (h : SRc w v l) (hb : Below w.heap.size w w') : SRc w' v l := by
  obtain ⟨a, cap, rfl, h1, h2, h3⟩ := h
  exact ⟨a, cap, rfl, h1, h2, fun i hi => by obtain ⟨b, off, ha, hc⟩ := h3 i hi; exact ⟨b, off, ha, hc.keep hb⟩⟩
theorem SRc.len {w : World} {v : Value} {l : List Rct} (h : SRc w v l) : l.length ≤ maxLen := by obtain ⟨a, cap, _, h1, h2, _⟩ := h; omega
theorem SRc_nil (w : World) : SRc w (.slice none 0 0) [] := ⟨none, 0, rfl, Nat.le_refl _, Nat.zero_le _, fun i hi => by simp at hi⟩
theorem SRc.form {w : World} {v : Value} {l : List Rct} (h : SRc w v l) (hl : 1 ≤ l.length) : ∃ b off cap, v = .slice (some ⟨b, off, none⟩) l.length cap ∧ l.length ≤ cap ∧ cap ≤ maxLen ∧ b < w.heap.size ∧ ∀ i, i < l.length → RcAt w b (off + i * 4) (rci l i) := by
  obtain ⟨a, cap, rfl, h1, h2, h3⟩ := h
  obtain ⟨b, off, rfl, hc⟩ := h3 0 (by omega)
  refine ⟨b, off, cap, rfl, h1, h2, World.block_lt_of_cell? w _ hc.c0, fun i hi => ?_⟩
  obtain ⟨b', off', ha, hc'⟩ := h3 i hi
  have ha := Option.some.inj ha
  simp only [Addr.mk.injEq] at ha
  obtain ⟨rfl, rfl, _⟩ := ha
  exact hc'
theorem SRc.take {w : World} {a : Option Addr} {n cap : Nat} {l : List Rct} (h : SRc w (.slice a n cap) l) (k : Nat) (hk : k ≤ l.length) : SRc w (.slice a k cap) (l.take k) := by
  obtain ⟨a', cap', he, h1, h2, h3⟩ := h
  simp at he
  obtain ⟨rfl, rfl, rfl⟩ := he
  have hl : (l.take k).length = k := by simp; omega
  refine ⟨a, cap, by rw [hl], by omega, h2, fun i hi => ?_⟩
  rw [hl] at hi
  obtain ⟨b, off, ha, hc⟩ := h3 i (by omega)
  exact ⟨b, off, ha, by rw [rci_take hi]; exact hc⟩
theorem SRc.at {w : World} {a : Option Addr} {n cap : Nat} {l : List Rct} (h : SRc w (.slice a n cap) l) {i : Nat} (hi : i < l.length) : ∃ b off, a = some ⟨b, off, none⟩ ∧ RcAt w b (off + i * 4) (rci l i) := by
  obtain ⟨a', cap', he, h1, h2, h3⟩ := h
  simp at he
  obtain ⟨rfl, rfl, rfl⟩ := he
  exact h3 i hi
theorem SRc.n {w : World} {a : Option Addr} {n cap : Nat} {l : List Rct} (h : SRc w (.slice a n cap) l) : n = l.length := by
  obtain ⟨a', cap', he, _⟩ := h
  simp at he
  exact he.2.1
def OwnRc (w : World) (B : Nat) (v : Value) (l : List Rct) : Prop := w.ownsRow B 39 4 v l.length (l.flatMap rcCells)
theorem OwnRc_nil (w : World) (B : Nat) : OwnRc w B (.slice none 0 0) [] := World.ownsRow_nil _ _ _ _
theorem OwnRc.below {w w' : World} {B : Nat} {v : Value} {l : List Rct} (h : OwnRc w B v l) (hb : Below w.heap.size w w') : OwnRc w' B v l := owns_below h hb
theorem OwnRc.alloc {w : World} {B : Nat} {v : Value} {l : List Rct} (h : OwnRc w B v l) (o : Obj) : OwnRc (w.alloc o) B v l := World.ownsRow.alloc h o
theorem OwnRc.mono {w : World} {B B' : Nat} {v : Value} {l : List Rct} (h : OwnRc w B v l) (hb : B' ≤ B) : OwnRc w B' v l := owns_mono h hb
theorem OwnRc.lt {w : World} {B : Nat} {v : Value} {l : List Rct} (h : OwnRc w B v l) (k : Nat) (hk : v.ownBlock = some k) : B ≤ k ∧ k < w.heap.size := World.ownsRow.lt h k hk
theorem OwnRc.at {w : World} {B g n cap : Nat} {l : List Rct} (h : OwnRc w B (.slice (some ⟨g, 0, none⟩) n cap) l) {i : Nat} (hi : i < l.length) : RcAt w g (i * 4) (rci l i) := by
  have h0 : w.ownsRow B 39 4 (.slice (some ⟨g, 0, none⟩) n cap) l.length (l.flatMap rcCells) := h
  rcases own_flat_form h0 with ⟨hn, _⟩ | ⟨g', cap', he, _, _, _, _, hc⟩
  · cases hn
  · simp at he
    obtain ⟨rfl, _, _⟩ := he
    have key : ∀ j, j < 4 → w.cell? ⟨g, i * 4 + j, none⟩ = (rcCells (rci l i))[j]? := fun j hj => by
      rw [hc (i * 4 + j) (by omega), flat_get rcCells rcCells_len l i j hi hj, rci_lt hi]
    exact ⟨key 0 (by omega), key 1 (by omega), key 2 (by omega), key 3 (by omega)⟩
theorem OwnRc.s {w : World} {B : Nat} {v : Value} {l : List Rct} (h : OwnRc w B v l) : SRc w v l := by
  rcases own_flat_form h with ⟨rfl, rfl⟩ | ⟨g, cap, rfl, _, _, hn, hm, _⟩
  · exact SRc_nil w
  · exact ⟨_, cap, rfl, hn, hm, fun i hi => ⟨g, 0, rfl, by rw [Nat.zero_add]; exact OwnRc.at h hi⟩⟩

theorem rc_range {w : World} {b off : Nat} {x : Rct} (h : RcAt w b off x) : w.rangeAt b off (rcCells x) := fun j v hv => by
  match j, hv with
  | 0, hv => cases hv; exact h.c0
  | 1, hv => cases hv; exact h.c1
  | 2, hv => cases hv; exact h.c2
  | 3, hv => cases hv; exact h.c3
def rcA (x : Rct) : Array Value := #[.int .i64 x.x0, .int .i64 x.y0, .int .i64 x.x1, .int .i64 x.y1]
theorem rcC {w : World} {b : Nat} {x : Rct} {e : TypeId} (h : ObjAt w b (rcA x) e) : RcAt w b 0 x := ⟨h.cell 0, h.cell 1, h.cell 2, h.cell 3⟩
theorem copyRc (w : World) (x : Rct) : ∃ W1, Hid (ObjAt W1 w.heap.size (rcA x) 39) ∧ Hid (Below w.heap.size w W1) ∧ Hid (w.alloc (.cells #[.int .i64 x.x0, .int .i64 x.y0, .int .i64 x.x1, .int .i64 x.y1] 39) = W1) ∧ Hid (w.heap.size < W1.heap.size) :=
  ⟨w.alloc (.cells (rcA x) 39), ObjAt.new _ _ _, (Below.refl _ _).alloc (Nat.le_refl _) _, rfl, by show _ < _; simp⟩
/-! Spn -/
def snCells (x : Spn) : List Value := [.int .i64 x.a, .int .i64 x.b]
theorem snCells_len (x : Spn) : (snCells x).length = 2 := rfl
theorem sni_lt {l : List Spn} {k : Nat} (h : k < l.length) : sni l k = l[k] := by simp [sni, h]
theorem sni_mem {l : List Spn} {k : Nat} (h : k < l.length) : sni l k ∈ l := by rw [sni_lt h]; exact List.getElem_mem h
theorem mem_sni {l : List Spn} {x : Spn} (h : x ∈ l) : ∃ k, k < l.length ∧ sni l k = x := by
  obtain ⟨k, hk, rfl⟩ := List.mem_iff_getElem.1 h; exact ⟨k, hk, sni_lt hk⟩
theorem take_sni {l : List Spn} {k : Nat} (h : k < l.length) : l.take (k + 1) = l.take k ++ [sni l k] := by
  rw [List.take_succ_eq_append_getElem h, sni_lt h]
theorem sni_take {l : List Spn} {k n : Nat} (h : k < n) : sni (l.take n) k = sni l k := by
  simp [sni, List.getElem?_take, h]
structure SnAt (w : World) (b off : Nat) (x : Spn) : Prop where
  c0 : w.cell? ⟨b, off, none⟩ = some (.int .i64 x.a)
  c1 : w.cell? ⟨b, off + 1, none⟩ = some (.int .i64 x.b)
theorem SnAt.keep {w w' : World} {b off : Nat} {x : Spn} (h : SnAt w b off x) (hb : Below w.heap.size w w') : SnAt w' b off x := ⟨cell_keep hb h.c0, cell_keep hb h.c1⟩
/-- a slice that reads as such a list -/
def SSn (w : World) (v : Value) (l : List Spn) : Prop :=
  ∃ a cap, v = .slice a l.length cap ∧ l.length ≤ cap ∧ cap ≤ maxLen ∧ ∀ i, i < l.length → ∃ b off, a = some ⟨b, off, none⟩ ∧ SnAt w b (off + i * 2) (sni l i)
theorem SSn.keep {w w' : World} {v : Value} {l : List Spn} (h : SSn w v l) (hb : Below w.heap.size w w') : SSn w' v l := by
  obtain ⟨a, cap, rfl, h1, h2, h3⟩ := h
  exact ⟨a, cap, rfl, h1, h2, fun i hi => by obtain ⟨b, off, ha, hc⟩ := h3 i hi; exact ⟨b, off, ha, hc.keep hb⟩⟩
theorem SSn.len {w : World} {v : Value} {l : List Spn} (h : SSn w v l) : l.length ≤ maxLen := by obtain ⟨a, cap, _, h1, h2, _⟩ := h; omega
theorem SSn_nil (w : World) : SSn w (.slice none 0 0) [] := ⟨none, 0, rfl, Nat.le_refl _, Nat.zero_le _, fun i hi => by simp at hi⟩
theorem SSn.form {w : World} {v : Value} {l : List Spn} (h : SSn w v l) (hl : 1 ≤ l.length) : ∃ b off cap, v = .slice (some ⟨b, off, none⟩) l.length cap ∧ l.length ≤ cap ∧ cap ≤ maxLen ∧ b < w.heap.size ∧ ∀ i, i < l.length → SnAt w b (off + i * 2) (sni l i) := by
  obtain ⟨a, cap, rfl, h1, h2, h3⟩ := h
  obtain ⟨b, off, rfl, hc⟩ := h3 0 (by omega)
  refine ⟨b, off, cap, rfl, h1, h2, World.block_lt_of_cell? w _ hc.c0, fun i hi => ?_⟩
  obtain ⟨b', off', ha, hc'⟩ := h3 i hi
  have ha := Option.some.inj ha
  simp only [Addr.mk.injEq] at ha
  obtain ⟨rfl, rfl, _⟩ := ha
  exact hc'
theorem SSn.take {w : World} {a : Option Addr} {n cap : Nat} {l : List Spn} (h : SSn w (.slice a n cap) l) (k : Nat) (hk : k ≤ l.length) : SSn w (.slice a k cap) (l.take k) := by
  obtain ⟨a', cap', he, h1, h2, h3⟩ := h
  simp at he
  obtain ⟨rfl, rfl, rfl⟩ := he
  have hl : (l.take k).length = k := by simp; omega
  refine ⟨a, cap, by rw [hl], by omega, h2, fun i hi => ?_⟩
  rw [hl] at hi
  obtain ⟨b, off, ha, hc⟩ := h3 i (by omega)
  exact ⟨b, off, ha, by rw [sni_take hi]; exact hc⟩
theorem SSn.at {w : World} {a : Option Addr} {n cap : Nat} {l : List Spn} (h : SSn w (.slice a n cap) l) {i : Nat} (hi : i < l.length) : ∃ b off, a = some ⟨b, off, none⟩ ∧ SnAt w b (off + i * 2) (sni l i) := by
  obtain ⟨a', cap', he, h1, h2, h3⟩ := h
  simp at he
  obtain ⟨rfl, rfl, rfl⟩ := he
  exact h3 i hi
theorem SSn.n {w : World} {a : Option Addr} {n cap : Nat} {l : List Spn} (h : SSn w (.slice a n cap) l) : n = l.length := by
  obtain ⟨a', cap', he, _⟩ := h
  simp at he
  exact he.2.1
def OwnSn (w : World) (B : Nat) (v : Value) (l : List Spn) : Prop := w.ownsRow B 113 2 v l.length (l.flatMap snCells)
theorem OwnSn_nil (w : World) (B : Nat) : OwnSn w B (.slice none 0 0) [] := World.ownsRow_nil _ _ _ _
theorem OwnSn.below {w w' : World} {B : Nat} {v : Value} {l : List Spn} (h : OwnSn w B v l) (hb : Below w.heap.size w w') : OwnSn w' B v l := owns_below h hb
theorem OwnSn.alloc {w : World} {B : Nat} {v : Value} {l : List Spn} (h : OwnSn w B v l) (o : Obj) : OwnSn (w.alloc o) B v l := World.ownsRow.alloc h o
theorem OwnSn.mono {w : World} {B B' : Nat} {v : Value} {l : List Spn} (h : OwnSn w B v l) (hb : B' ≤ B) : OwnSn w B' v l := owns_mono h hb
theorem OwnSn.lt {w : World} {B : Nat} {v : Value} {l : List Spn} (h : OwnSn w B v l) (k : Nat) (hk : v.ownBlock = some k) : B ≤ k ∧ k < w.heap.size := World.ownsRow.lt h k hk
theorem OwnSn.at {w : World} {B g n cap : Nat} {l : List Spn} (h : OwnSn w B (.slice (some ⟨g, 0, none⟩) n cap) l) {i : Nat} (hi : i < l.length) : SnAt w g (i * 2) (sni l i) := by
  have h0 : w.ownsRow B 113 2 (.slice (some ⟨g, 0, none⟩) n cap) l.length (l.flatMap snCells) := h
  rcases own_flat_form h0 with ⟨hn, _⟩ | ⟨g', cap', he, _, _, _, _, hc⟩
  · cases hn
  · simp at he
    obtain ⟨rfl, _, _⟩ := he
    have key : ∀ j, j < 2 → w.cell? ⟨g, i * 2 + j, none⟩ = (snCells (sni l i))[j]? := fun j hj => by
      rw [hc (i * 2 + j) (by omega), flat_get snCells snCells_len l i j hi hj, sni_lt hi]
    exact ⟨key 0 (by omega), key 1 (by omega)⟩
theorem OwnSn.s {w : World} {B : Nat} {v : Value} {l : List Spn} (h : OwnSn w B v l) : SSn w v l := by
  rcases own_flat_form h with ⟨rfl, rfl⟩ | ⟨g, cap, rfl, _, _, hn, hm, _⟩
  · exact SSn_nil w
  · exact ⟨_, cap, rfl, hn, hm, fun i hi => ⟨g, 0, rfl, by rw [Nat.zero_add]; exact OwnSn.at h hi⟩⟩

theorem sn_range {w : World} {b off : Nat} {x : Spn} (h : SnAt w b off x) : w.rangeAt b off (snCells x) := fun j v hv => by
  match j, hv with
  | 0, hv => cases hv; exact h.c0
  | 1, hv => cases hv; exact h.c1
def snA (x : Spn) : Array Value := #[.int .i64 x.a, .int .i64 x.b]
theorem snC {w : World} {b : Nat} {x : Spn} {e : TypeId} (h : ObjAt w b (snA x) e) : SnAt w b 0 x := ⟨h.cell 0, h.cell 1⟩
theorem copySn (w : World) (x : Spn) : ∃ W1, Hid (ObjAt W1 w.heap.size (snA x) 113) ∧ Hid (Below w.heap.size w W1) ∧ Hid (w.alloc (.cells #[.int .i64 x.a, .int .i64 x.b] 113) = W1) ∧ Hid (w.heap.size < W1.heap.size) :=
  ⟨w.alloc (.cells (snA x) 113), ObjAt.new _ _ _, (Below.refl _ _).alloc (Nat.le_refl _) _, rfl, by show _ < _; simp⟩
/-! Spo -/
def soCells (x : Spo) : List Value := [.string (bs x.part), .int .i64 x.x, .int .i64 x.y, .int .i64 x.turn, .bool x.flip]
theorem soCells_len (x : Spo) : (soCells x).length = 5 := rfl
theorem soi_lt {l : List Spo} {k : Nat} (h : k < l.length) : soi l k = l[k] := by simp [soi, h]
theorem soi_mem {l : List Spo} {k : Nat} (h : k < l.length) : soi l k ∈ l := by rw [soi_lt h]; exact List.getElem_mem h
theorem mem_soi {l : List Spo} {x : Spo} (h : x ∈ l) : ∃ k, k < l.length ∧ soi l k = x := by
  obtain ⟨k, hk, rfl⟩ := List.mem_iff_getElem.1 h; exact ⟨k, hk, soi_lt hk⟩
theorem take_soi {l : List Spo} {k : Nat} (h : k < l.length) : l.take (k + 1) = l.take k ++ [soi l k] := by
  rw [List.take_succ_eq_append_getElem h, soi_lt h]
theorem soi_take {l : List Spo} {k n : Nat} (h : k < n) : soi (l.take n) k = soi l k := by
  simp [soi, List.getElem?_take, h]
structure SoAt (w : World) (b off : Nat) (x : Spo) : Prop where
  c0 : w.cell? ⟨b, off, none⟩ = some (.string (bs x.part))
  c1 : w.cell? ⟨b, off + 1, none⟩ = some (.int .i64 x.x)
  c2 : w.cell? ⟨b, off + 2, none⟩ = some (.int .i64 x.y)
  c3 : w.cell? ⟨b, off + 3, none⟩ = some (.int .i64 x.turn)
  c4 : w.cell? ⟨b, off + 4, none⟩ = some (.bool x.flip)
theorem SoAt.keep {w w' : World} {b off : Nat} {x : Spo} (h : SoAt w b off x) (hb : Below w.heap.size w w') : SoAt w' b off x := ⟨cell_keep hb h.c0, cell_keep hb h.c1, cell_keep hb h.c2, cell_keep hb h.c3, cell_keep hb h.c4⟩
/-- a slice that reads as such a list -/
def SSo (w : World) (v : Value) (l : List Spo) : Prop :=
  ∃ a cap, v = .slice a l.length cap ∧ l.length ≤ cap ∧ cap ≤ maxLen ∧ ∀ i, i < l.length → ∃ b off, a = some ⟨b, off, none⟩ ∧ SoAt w b (off + i * 5) (soi l i)
theorem SSo.keep {w w' : World} {v : Value} {l : List Spo} (h : SSo w v l) (hb : Below w.heap.size w w') : SSo w' v l := by
  obtain ⟨a, cap, rfl, h1, h2, h3⟩ := h
  exact ⟨a, cap, rfl, h1, h2, fun i hi => by obtain ⟨b, off, ha, hc⟩ := h3 i hi; exact ⟨b, off, ha, hc.keep hb⟩⟩
theorem SSo.len {w : World} {v : Value} {l : List Spo} (h : SSo w v l) : l.length ≤ maxLen := by obtain ⟨a, cap, _, h1, h2, _⟩ := h; omega
theorem SSo_nil (w : World) : SSo w (.slice none 0 0) [] := ⟨none, 0, rfl, Nat.le_refl _, Nat.zero_le _, fun i hi => by simp at hi⟩
theorem SSo.form {w : World} {v : Value} {l : List Spo} (h : SSo w v l) (hl : 1 ≤ l.length) : ∃ b off cap, v = .slice (some ⟨b, off, none⟩) l.length cap ∧ l.length ≤ cap ∧ cap ≤ maxLen ∧ b < w.heap.size ∧ ∀ i, i < l.length → SoAt w b (off + i * 5) (soi l i) := by
  obtain ⟨a, cap, rfl, h1, h2, h3⟩ := h
  obtain ⟨b, off, rfl, hc⟩ := h3 0 (by omega)
  refine ⟨b, off, cap, rfl, h1, h2, World.block_lt_of_cell? w _ hc.c0, fun i hi => ?_⟩
  obtain ⟨b', off', ha, hc'⟩ := h3 i hi
  have ha := Option.some.inj ha
  simp only [Addr.mk.injEq] at ha
  obtain ⟨rfl, rfl, _⟩ := ha
  exact hc'
theorem SSo.take {w : World} {a : Option Addr} {n cap : Nat} {l : List Spo} (h : SSo w (.slice a n cap) l) (k : Nat) (hk : k ≤ l.length) : SSo w (.slice a k cap) (l.take k) := by
  obtain ⟨a', cap', he, h1, h2, h3⟩ := h
  simp at he
  obtain ⟨rfl, rfl, rfl⟩ := he
  have hl : (l.take k).length = k := by simp; omega
  refine ⟨a, cap, by rw [hl], by omega, h2, fun i hi => ?_⟩
  rw [hl] at hi
  obtain ⟨b, off, ha, hc⟩ := h3 i (by omega)
  exact ⟨b, off, ha, by rw [soi_take hi]; exact hc⟩
theorem SSo.at {w : World} {a : Option Addr} {n cap : Nat} {l : List Spo} (h : SSo w (.slice a n cap) l) {i : Nat} (hi : i < l.length) : ∃ b off, a = some ⟨b, off, none⟩ ∧ SoAt w b (off + i * 5) (soi l i) := by
  obtain ⟨a', cap', he, h1, h2, h3⟩ := h
  simp at he
  obtain ⟨rfl, rfl, rfl⟩ := he
  exact h3 i hi
theorem SSo.n {w : World} {a : Option Addr} {n cap : Nat} {l : List Spo} (h : SSo w (.slice a n cap) l) : n = l.length := by
  obtain ⟨a', cap', he, _⟩ := h
  simp at he
  exact he.2.1
def OwnSo (w : World) (B : Nat) (v : Value) (l : List Spo) : Prop := w.ownsRow B 55 5 v l.length (l.flatMap soCells)
theorem OwnSo_nil (w : World) (B : Nat) : OwnSo w B (.slice none 0 0) [] := World.ownsRow_nil _ _ _ _
theorem OwnSo.below {w w' : World} {B : Nat} {v : Value} {l : List Spo} (h : OwnSo w B v l) (hb : Below w.heap.size w w') : OwnSo w' B v l := owns_below h hb
theorem OwnSo.alloc {w : World} {B : Nat} {v : Value} {l : List Spo} (h : OwnSo w B v l) (o : Obj) : OwnSo (w.alloc o) B v l := World.ownsRow.alloc h o
theorem OwnSo.mono {w : World} {B B' : Nat} {v : Value} {l : List Spo} (h : OwnSo w B v l) (hb : B' ≤ B) : OwnSo w B' v l := owns_mono h hb
theorem OwnSo.lt {w : World} {B : Nat} {v : Value} {l : List Spo} (h : OwnSo w B v l) (k : Nat) (hk : v.ownBlock = some k) : B ≤ k ∧ k < w.heap.size := World.ownsRow.lt h k hk
theorem OwnSo.at {w : World} {B g n cap : Nat} {l : List Spo} (h : OwnSo w B (.slice (some ⟨g, 0, none⟩) n cap) l) {i : Nat} (hi : i < l.length) : SoAt w g (i * 5) (soi l i) := by
  have h0 : w.ownsRow B 55 5 (.slice (some ⟨g, 0, none⟩) n cap) l.length (l.flatMap soCells) := h
  rcases own_flat_form h0 with ⟨hn, _⟩ | ⟨g', cap', he, _, _, _, _, hc⟩
  · cases hn
  · simp at he
    obtain ⟨rfl, _, _⟩ := he
    have key : ∀ j, j < 5 → w.cell? ⟨g, i * 5 + j, none⟩ = (soCells (soi l i))[j]? := fun j hj => by
      rw [hc (i * 5 + j) (by omega), flat_get soCells soCells_len l i j hi hj, soi_lt hi]
    exact ⟨key 0 (by omega), key 1 (by omega), key 2 (by omega), key 3 (by omega), key 4 (by omega)⟩
theorem OwnSo.s {w : World} {B : Nat} {v : Value} {l : List Spo} (h : OwnSo w B v l) : SSo w v l := by
  rcases own_flat_form h with ⟨rfl, rfl⟩ | ⟨g, cap, rfl, _, _, hn, hm, _⟩
  · exact SSo_nil w
  · exact ⟨_, cap, rfl, hn, hm, fun i hi => ⟨g, 0, rfl, by rw [Nat.zero_add]; exact OwnSo.at h hi⟩⟩

theorem so_range {w : World} {b off : Nat} {x : Spo} (h : SoAt w b off x) : w.rangeAt b off (soCells x) := fun j v hv => by
  match j, hv with
  | 0, hv => cases hv; exact h.c0
  | 1, hv => cases hv; exact h.c1
  | 2, hv => cases hv; exact h.c2
  | 3, hv => cases hv; exact h.c3
  | 4, hv => cases hv; exact h.c4
def soA (x : Spo) : Array Value := #[.string (bs x.part), .int .i64 x.x, .int .i64 x.y, .int .i64 x.turn, .bool x.flip]
theorem soC {w : World} {b : Nat} {x : Spo} {e : TypeId} (h : ObjAt w b (soA x) e) : SoAt w b 0 x := ⟨h.cell 0, h.cell 1, h.cell 2, h.cell 3, h.cell 4⟩
theorem copySo (w : World) (x : Spo) : ∃ W1, Hid (ObjAt W1 w.heap.size (soA x) 55) ∧ Hid (Below w.heap.size w W1) ∧ Hid (w.alloc (.cells #[.string (bs x.part), .int .i64 x.x, .int .i64 x.y, .int .i64 x.turn, .bool x.flip] 55) = W1) ∧ Hid (w.heap.size < W1.heap.size) :=
  ⟨w.alloc (.cells (soA x) 55), ObjAt.new _ _ _, (Below.refl _ _).alloc (Nat.le_refl _) _, rfl, by show _ < _; simp⟩
/-! Shv -/
def shCells (x : Shv) : List Value := [.slice x.oa x.on x.oc, .slice x.ha x.hn x.hc]
theorem shCells_len (x : Shv) : (shCells x).length = 2 := rfl
theorem shi_lt {l : List Shv} {k : Nat} (h : k < l.length) : shi l k = l[k] := by simp [shi, h]
theorem shi_mem {l : List Shv} {k : Nat} (h : k < l.length) : shi l k ∈ l := by rw [shi_lt h]; exact List.getElem_mem h
theorem mem_shi {l : List Shv} {x : Shv} (h : x ∈ l) : ∃ k, k < l.length ∧ shi l k = x := by
  obtain ⟨k, hk, rfl⟩ := List.mem_iff_getElem.1 h; exact ⟨k, hk, shi_lt hk⟩
theorem take_shi {l : List Shv} {k : Nat} (h : k < l.length) : l.take (k + 1) = l.take k ++ [shi l k] := by
  rw [List.take_succ_eq_append_getElem h, shi_lt h]
theorem shi_take {l : List Shv} {k n : Nat} (h : k < n) : shi (l.take n) k = shi l k := by
  simp [shi, List.getElem?_take, h]
structure ShAt (w : World) (b off : Nat) (x : Shv) : Prop where
  c0 : w.cell? ⟨b, off, none⟩ = some (.slice x.oa x.on x.oc)
  c1 : w.cell? ⟨b, off + 1, none⟩ = some (.slice x.ha x.hn x.hc)
theorem ShAt.keep {w w' : World} {b off : Nat} {x : Shv} (h : ShAt w b off x) (hb : Below w.heap.size w w') : ShAt w' b off x := ⟨cell_keep hb h.c0, cell_keep hb h.c1⟩
/-- a slice that reads as such a list -/
def SSh (w : World) (v : Value) (l : List Shv) : Prop :=
  ∃ a cap, v = .slice a l.length cap ∧ l.length ≤ cap ∧ cap ≤ maxLen ∧ ∀ i, i < l.length → ∃ b off, a = some ⟨b, off, none⟩ ∧ ShAt w b (off + i * 2) (shi l i)
theorem SSh.keep {w w' : World} {v : Value} {l : List Shv} (h : SSh w v l) (hb : Below w.heap.size w w') : SSh w' v l := by
  obtain ⟨a, cap, rfl, h1, h2, h3⟩ := h
  exact ⟨a, cap, rfl, h1, h2, fun i hi => by obtain ⟨b, off, ha, hc⟩ := h3 i hi; exact ⟨b, off, ha, hc.keep hb⟩⟩
theorem SSh.len {w : World} {v : Value} {l : List Shv} (h : SSh w v l) : l.length ≤ maxLen := by obtain ⟨a, cap, _, h1, h2, _⟩ := h; omega
theorem SSh_nil (w : World) : SSh w (.slice none 0 0) [] := ⟨none, 0, rfl, Nat.le_refl _, Nat.zero_le _, fun i hi => by simp at hi⟩
theorem SSh.form {w : World} {v : Value} {l : List Shv} (h : SSh w v l) (hl : 1 ≤ l.length) : ∃ b off cap, v = .slice (some ⟨b, off, none⟩) l.length cap ∧ l.length ≤ cap ∧ cap ≤ maxLen ∧ b < w.heap.size ∧ ∀ i, i < l.length → ShAt w b (off + i * 2) (shi l i) := by
  obtain ⟨a, cap, rfl, h1, h2, h3⟩ := h
  obtain ⟨b, off, rfl, hc⟩ := h3 0 (by omega)
  refine ⟨b, off, cap, rfl, h1, h2, World.block_lt_of_cell? w _ hc.c0, fun i hi => ?_⟩
  obtain ⟨b', off', ha, hc'⟩ := h3 i hi
  have ha := Option.some.inj ha
  simp only [Addr.mk.injEq] at ha
  obtain ⟨rfl, rfl, _⟩ := ha
  exact hc'
theorem SSh.take {w : World} {a : Option Addr} {n cap : Nat} {l : List Shv} (h : SSh w (.slice a n cap) l) (k : Nat) (hk : k ≤ l.length) : SSh w (.slice a k cap) (l.take k) := by
  obtain ⟨a', cap', he, h1, h2, h3⟩ := h
  simp at he
  obtain ⟨rfl, rfl, rfl⟩ := he
  have hl : (l.take k).length = k := by simp; omega
  refine ⟨a, cap, by rw [hl], by omega, h2, fun i hi => ?_⟩
  rw [hl] at hi
  obtain ⟨b, off, ha, hc⟩ := h3 i (by omega)
  exact ⟨b, off, ha, by rw [shi_take hi]; exact hc⟩
theorem SSh.at {w : World} {a : Option Addr} {n cap : Nat} {l : List Shv} (h : SSh w (.slice a n cap) l) {i : Nat} (hi : i < l.length) : ∃ b off, a = some ⟨b, off, none⟩ ∧ ShAt w b (off + i * 2) (shi l i) := by
  obtain ⟨a', cap', he, h1, h2, h3⟩ := h
  simp at he
  obtain ⟨rfl, rfl, rfl⟩ := he
  exact h3 i hi
theorem SSh.n {w : World} {a : Option Addr} {n cap : Nat} {l : List Shv} (h : SSh w (.slice a n cap) l) : n = l.length := by
  obtain ⟨a', cap', he, _⟩ := h
  simp at he
  exact he.2.1
def OwnSh (w : World) (B : Nat) (v : Value) (l : List Shv) : Prop := w.ownsRow B 47 2 v l.length (l.flatMap shCells)
theorem OwnSh_nil (w : World) (B : Nat) : OwnSh w B (.slice none 0 0) [] := World.ownsRow_nil _ _ _ _
theorem OwnSh.below {w w' : World} {B : Nat} {v : Value} {l : List Shv} (h : OwnSh w B v l) (hb : Below w.heap.size w w') : OwnSh w' B v l := owns_below h hb
theorem OwnSh.alloc {w : World} {B : Nat} {v : Value} {l : List Shv} (h : OwnSh w B v l) (o : Obj) : OwnSh (w.alloc o) B v l := World.ownsRow.alloc h o
theorem OwnSh.mono {w : World} {B B' : Nat} {v : Value} {l : List Shv} (h : OwnSh w B v l) (hb : B' ≤ B) : OwnSh w B' v l := owns_mono h hb
theorem OwnSh.lt {w : World} {B : Nat} {v : Value} {l : List Shv} (h : OwnSh w B v l) (k : Nat) (hk : v.ownBlock = some k) : B ≤ k ∧ k < w.heap.size := World.ownsRow.lt h k hk
theorem OwnSh.at {w : World} {B g n cap : Nat} {l : List Shv} (h : OwnSh w B (.slice (some ⟨g, 0, none⟩) n cap) l) {i : Nat} (hi : i < l.length) : ShAt w g (i * 2) (shi l i) := by
  have h0 : w.ownsRow B 47 2 (.slice (some ⟨g, 0, none⟩) n cap) l.length (l.flatMap shCells) := h
  rcases own_flat_form h0 with ⟨hn, _⟩ | ⟨g', cap', he, _, _, _, _, hc⟩
  · cases hn
  · simp at he
    obtain ⟨rfl, _, _⟩ := he
    have key : ∀ j, j < 2 → w.cell? ⟨g, i * 2 + j, none⟩ = (shCells (shi l i))[j]? := fun j hj => by
      rw [hc (i * 2 + j) (by omega), flat_get shCells shCells_len l i j hi hj, shi_lt hi]
    exact ⟨key 0 (by omega), key 1 (by omega)⟩
theorem OwnSh.s {w : World} {B : Nat} {v : Value} {l : List Shv} (h : OwnSh w B v l) : SSh w v l := by
  rcases own_flat_form h with ⟨rfl, rfl⟩ | ⟨g, cap, rfl, _, _, hn, hm, _⟩
  · exact SSh_nil w
  · exact ⟨_, cap, rfl, hn, hm, fun i hi => ⟨g, 0, rfl, by rw [Nat.zero_add]; exact OwnSh.at h hi⟩⟩

theorem sh_range {w : World} {b off : Nat} {x : Shv} (h : ShAt w b off x) : w.rangeAt b off (shCells x) := fun j v hv => by
  match j, hv with
  | 0, hv => cases hv; exact h.c0
  | 1, hv => cases hv; exact h.c1
def shA (x : Shv) : Array Value := #[.slice x.oa x.on x.oc, .slice x.ha x.hn x.hc]
theorem shC {w : World} {b : Nat} {x : Shv} {e : TypeId} (h : ObjAt w b (shA x) e) : ShAt w b 0 x := ⟨h.cell 0, h.cell 1⟩
theorem copySh (w : World) (x : Shv) : ∃ W1, Hid (ObjAt W1 w.heap.size (shA x) 47) ∧ Hid (Below w.heap.size w W1) ∧ Hid (w.alloc (.cells #[.slice x.oa x.on x.oc, .slice x.ha x.hn x.hc] 47) = W1) ∧ Hid (w.heap.size < W1.heap.size) :=
  ⟨w.alloc (.cells (shA x) 47), ObjAt.new _ _ _, (Below.refl _ _).alloc (Nat.le_refl _) _, rfl, by show _ < _; simp⟩
/-- what the slices of a part read as -/
structure PrtOK (w : World) (x : Prt) : Prop where
  o : SPt w x.ov x.outer
  n : x.hvs.length = x.holes.length
  hs : Sl w x.hv x.hvs.length fun i => x.hvs.getD i default
  h : ∀ i, i < x.holes.length → SPt w (x.hvs.getD i default) (x.holes.getD i [])
theorem PrtOK.keep {w w' : World} {x : Prt} (h : PrtOK w x) (hb : Below w.heap.size w w') : PrtOK w' x := ⟨h.o.keep hb, h.n, Sl.keep h.hs hb, fun i hi => (h.h i hi).keep hb⟩
end Go.Proofs.YtfmhickjefogdaaGreat

/- The types of designs and materials, as the walk of regions wants them; sums wrap (printed by wip/gen_rmt.py). -/
namespace Go.Proofs.YtfmhickjefogdaaGreat
open Go.RowKit
theorem agg_of {t : TypeId} {d : TypeDesc} (h : Tryz.prog.underlying t = some d) (hd : (match d with | .struct _ | .array _ _ => true | _ => false) = false) (w : World) : (isAgg t).run Tryz.prog w = .ok false w := by
  unfold isAgg; rw [Sem.run_bind, run_underlying h w]; cases d <;> simp_all
theorem load_of {t : TypeId} (h : ∀ w, (isAgg t).run Tryz.prog w = .ok false w) (p : Addr) (v : Value) (w : World) (hc : w.cell? p = some v) : (Instr.loadAt t (.pointer (some p))).run Tryz.prog w = .ok v w := by
  simp only [Instr.loadAt, Instr.sureAddr, Sem.run_bind, Sem.run_pure, Result.andThen_ok, loadVar, h]
  go_simp
theorem ret_in {F : FuncId} {args : Array Value} {u W : World} {v : Value} (h : Calls Tryz.prog F args u (Ret u v)) (hu : Below W.heap.size W u) : Calls Tryz.prog F args u fun e w' => e = .returned v ∧ Below W.heap.size W w' :=
  h.mono fun _ _ ⟨h1, h2⟩ => ⟨h1, ext_trans hu h2⟩
theorem obsN {C : World → Prop} : ObsIn C [] := fun w _ k j v h => by
  have e : (obi [] k).cells = [] := by cases k <;> rfl
  rw [e] at h; cases h
theorem obsC {C : World → Prop} {x : Ob} {E : List Ob} (hx : ∀ w, C w → w.rangeAt x.b x.off x.cells) (h : ObsIn C E) : ObsIn C (x :: E) := fun w hw k => by
  cases k with
  | zero => exact hx w hw
  | succ k => exact h w hw k
theorem rangeKeep {w w' : World} {b off : Nat} {cs : List Value} (h : w.rangeAt b off cs) (hb : Below w.heap.size w w') : w'.rangeAt b off cs := fun j v hv => cell_keep hb (h j v hv)
theorem range_new {w : World} {xs : Array Value} {e : TypeId} {b : Nat} (h : ObjAt w b xs e) : w.rangeAt b 0 xs.toList := fun j v hv => by
  rw [Nat.zero_add, h.cell, ← Array.getElem?_toList]; exact hv
theorem intR {w : World} {b off : Nat} {v : Value} (h : w.cell? ⟨b, off, none⟩ = some v) : w.rangeAt b off [v] := fun j u hj => by
  match j with
  | 0 => cases hj; exact h
  | j + 1 => cases hj
theorem mixed : Tryz.prog.follows .mixedOrders = true := by kernel_rfl
def gmFo : TypeId → Nat → Option Nat
  | 37, 0 => some 0
  | 37, 1 => some 1
  | 47, 0 => some 0
  | 47, 1 => some 1
  | 57, 0 => some 0
  | 57, 1 => some 1
  | 57, 2 => some 2
  | 113, 0 => some 0
  | 113, 1 => some 1
  | 26, 0 => some 0
  | 26, 1 => some 1
  | 26, 2 => some 2
  | 26, 3 => some 3
  | 26, 4 => some 4
  | 26, 5 => some 5
  | 24, 0 => some 0
  | 24, 1 => some 1
  | 24, 2 => some 2
  | 61, 0 => some 0
  | 61, 1 => some 1
  | 61, 2 => some 2
  | 61, 3 => some 3
  | 61, 4 => some 4
  | 61, 5 => some 5
  | 61, 6 => some 6
  | 61, 7 => some 8
  | 61, 8 => some 9
  | 61, 9 => some 10
  | 61, 10 => some 11
  | 61, 11 => some 14
  | 59, 0 => some 0
  | 59, 1 => some 3
  | 39, 0 => some 0
  | 39, 1 => some 2
  | 55, 0 => some 0
  | 55, 1 => some 1
  | 55, 2 => some 3
  | 55, 3 => some 4
  | 91, 0 => some 0
  | 91, 1 => some 1
  | 91, 2 => some 2
  | _, _ => none
theorem gmFo_ok (t f d : Nat) (h : gmFo t f = some d) (b off : Nat) (w : World) : (Instr.fieldAt t (.pointer (some ⟨b, off, none⟩)) f).run Tryz.prog w = .ok (.pointer (some ⟨b, off + d, none⟩)) w := by
  unfold gmFo at h
  split at h
  all_goals first | (cases h; done) | (cases h; go_simp)
def gmSc : TypeId → Bool
  | 3 => true
  | 9 => true
  | 4 => true
  | 28 => true
  | 93 => true
  | 44 => true
  | 45 => true
  | 27 => true
  | 22 => true
  | 33 => true
  | 114 => true
  | 30 => true
  | _ => false
theorem gmSc_ok (t : TypeId) (h : gmSc t = true) (p : Addr) (v : Value) (w : World) (hc : w.cell? p = some v) : (Instr.loadAt t (.pointer (some p))).run Tryz.prog w = .ok v w := by
  unfold gmSc at h
  split at h
  · exact load_of (agg_of Tryz.underlying3 rfl) p v w hc
  · exact load_of (agg_of Tryz.underlying9 rfl) p v w hc
  · exact load_of (agg_of Tryz.underlying4 rfl) p v w hc
  · exact load_of (agg_of Tryz.underlying28 rfl) p v w hc
  · exact load_of (agg_of Tryz.underlying93 rfl) p v w hc
  · exact load_of (agg_of Tryz.underlying44 rfl) p v w hc
  · exact load_of (agg_of Tryz.underlying45 rfl) p v w hc
  · exact load_of (agg_of Tryz.underlying27 rfl) p v w hc
  · exact load_of (agg_of Tryz.underlying22 rfl) p v w hc
  · exact load_of (agg_of Tryz.underlying33 rfl) p v w hc
  · exact load_of (agg_of Tryz.underlying114 rfl) p v w hc
  · exact load_of (agg_of Tryz.underlying30 rfl) p v w hc
  · cases h
def gmAg : TypeId → Option Nat
  | 37 => some 2
  | 47 => some 2
  | 57 => some 3
  | 113 => some 2
  | 26 => some 6
  | 24 => some 3
  | 61 => some 18
  | 59 => some 4
  | 39 => some 4
  | 55 => some 5
  | 91 => some 3
  | _ => none
theorem gmAg_ok (t : TypeId) (m : Nat) (h : gmAg t = some m) (b off : Nat) (cs : List Value) (w : World) (hl : cs.length = m) (hr : w.rangeAt b off cs) : (Instr.loadAt t (.pointer (some ⟨b, off, none⟩))).run Tryz.prog w = .ok (.agg cs.toArray) w := by
  unfold gmAg at h
  split at h
  · exact run_loadAt_mid w b off _ cs _ hr Tryz.underlying37 rfl (by rw [hl]; cases h; kernel_rfl)
  · exact run_loadAt_mid w b off _ cs _ hr Tryz.underlying47 rfl (by rw [hl]; cases h; kernel_rfl)
  · exact run_loadAt_mid w b off _ cs _ hr Tryz.underlying57 rfl (by rw [hl]; cases h; kernel_rfl)
  · exact run_loadAt_mid w b off _ cs _ hr Tryz.underlying113 rfl (by rw [hl]; cases h; kernel_rfl)
  · exact run_loadAt_mid w b off _ cs _ hr Tryz.underlying26 rfl (by rw [hl]; cases h; kernel_rfl)
  · exact run_loadAt_mid w b off _ cs _ hr Tryz.underlying24 rfl (by rw [hl]; cases h; kernel_rfl)
  · exact run_loadAt_mid w b off _ cs _ hr Tryz.underlying61 rfl (by rw [hl]; cases h; kernel_rfl)
  · exact run_loadAt_mid w b off _ cs _ hr Tryz.underlying59 rfl (by rw [hl]; cases h; kernel_rfl)
  · exact run_loadAt_mid w b off _ cs _ hr Tryz.underlying39 rfl (by rw [hl]; cases h; kernel_rfl)
  · exact run_loadAt_mid w b off _ cs _ hr Tryz.underlying55 rfl (by rw [hl]; cases h; kernel_rfl)
  · exact run_loadAt_mid w b off _ cs _ hr Tryz.underlying91 rfl (by rw [hl]; cases h; kernel_rfl)
  · cases h
def gmEs : TypeId → Option Nat
  | 93 => some 1
  | 44 => some 2
  | 45 => some 1
  | 27 => some 18
  | 22 => some 5
  | 33 => some 4
  | 114 => some 2
  | 30 => some 2
  | _ => none
theorem gmEs_ok (t : TypeId) (q : Nat) (h : gmEs t = some q) (b off l c j : Nat) (w : World) (hj : j < l) : (Instr.indexAt t (.slice (some ⟨b, off, none⟩) l c) (.int .i64 j)).run Tryz.prog w = .ok (.pointer (some ⟨b, off + j * q, none⟩)) w := by
  have i1 : (j : Int) < l := by omega
  unfold gmEs at h
  split at h
  all_goals first | (cases h; done) | (cases h; go_simp)
def gmLn : TypeId → Bool
  | 93 => true
  | 44 => true
  | 45 => true
  | 27 => true
  | 22 => true
  | 33 => true
  | 114 => true
  | 30 => true
  | _ => false
theorem gmLn_ok (t : TypeId) (h : gmLn t = true) (a : Option Addr) (n c : Nat) (ty : TypeId) (w : World) : (Builtin.len_ #[t] ty #[.slice a n c]).run Tryz.prog w = .ok (.int .i64 n) w := by
  unfold gmLn at h
  split at h
  all_goals first | (cases h; done) | go_simp
theorem gmSl_ok (t : TypeId) (h : gmLn t = true) (a : Option Addr) (n c j : Nat) (w : World) (hj : j ≤ c) : (Instr.sliceAt t (.slice a n c) none (some (.int .i64 j)) none).run Tryz.prog w = .ok (.slice a j c) w := by
  have i1 : (j : Int) ≤ c := by omega
  unfold gmLn at h
  split at h
  all_goals first | (cases h; done) | go_simp
def gmEn : FuncId → Bool
  | 96 => true
  | 140 => true
  | 95 => true
  | 114 => true
  | 94 => true
  | 91 => true
  | 92 => true
  | 62 => true
  | 63 => true
  | 65 => true
  | 116 => true
  | 115 => true
  | 93 => true
  | 64 => true
  | 33 => true
  | 68 => true
  | 97 => true
  | 71 => true
  | 98 => true
  | 72 => true
  | 70 => true
  | 36 => true
  | 66 => true
  | 34 => true
  | 32 => true
  | 89 => true
  | 88 => true
  | 113 => true
  | 112 => true
  | 139 => true
  | 85 => true
  | 86 => true
  | 61 => true
  | 53 => true
  | 31 => true
  | 56 => true
  | 58 => true
  | 57 => true
  | 59 => true
  | 27 => true
  | 28 => true
  | 60 => true
  | 41 => true
  | 25 => true
  | 54 => true
  | 55 => true
  | 24 => true
  | 11 => true
  | 9 => true
  | 10 => true
  | 90 => true
  | 75 => true
  | 82 => true
  | 22 => true
  | 149 => true
  | _ => false
theorem gmEn_ok (f : FuncId) (h : gmEn f = true) (args : Array Value) (w : World) : (callFunc f args).run Tryz.prog w = .ok (.enter f args) w := by
  unfold gmEn at h
  split at h
  · exact enters_of Tryz.func96 (by kernel_rfl) rfl args w
  · exact enters_of Tryz.func140 (by kernel_rfl) rfl args w
  · exact enters_of Tryz.func95 (by kernel_rfl) rfl args w
  · exact enters_of Tryz.func114 (by kernel_rfl) rfl args w
  · exact enters_of Tryz.func94 (by kernel_rfl) rfl args w
  · exact enters_of Tryz.func91 (by kernel_rfl) rfl args w
  · exact enters_of Tryz.func92 (by kernel_rfl) rfl args w
  · exact enters_of Tryz.func62 (by kernel_rfl) rfl args w
  · exact enters_of Tryz.func63 (by kernel_rfl) rfl args w
  · exact enters_of Tryz.func65 (by kernel_rfl) rfl args w
  · exact enters_of Tryz.func116 (by kernel_rfl) rfl args w
  · exact enters_of Tryz.func115 (by kernel_rfl) rfl args w
  · exact enters_of Tryz.func93 (by kernel_rfl) rfl args w
  · exact enters_of Tryz.func64 (by kernel_rfl) rfl args w
  · exact enters_of Tryz.func33 (by kernel_rfl) rfl args w
  · exact enters_of Tryz.func68 (by kernel_rfl) rfl args w
  · exact enters_of Tryz.func97 (by kernel_rfl) rfl args w
  · exact enters_of Tryz.func71 (by kernel_rfl) rfl args w
  · exact enters_of Tryz.func98 (by kernel_rfl) rfl args w
  · exact enters_of Tryz.func72 (by kernel_rfl) rfl args w
  · exact enters_of Tryz.func70 (by kernel_rfl) rfl args w
  · exact enters_of Tryz.func36 (by kernel_rfl) rfl args w
  · exact enters_of Tryz.func66 (by kernel_rfl) rfl args w
  · exact enters_of Tryz.func34 (by kernel_rfl) rfl args w
  · exact enters_of Tryz.func32 (by kernel_rfl) rfl args w
  · exact enters_of Tryz.func89 (by kernel_rfl) rfl args w
  · exact enters_of Tryz.func88 (by kernel_rfl) rfl args w
  · exact enters_of Tryz.func113 (by kernel_rfl) rfl args w
  · exact enters_of Tryz.func112 (by kernel_rfl) rfl args w
  · exact enters_of Tryz.func139 (by kernel_rfl) rfl args w
  · exact enters_of Tryz.func85 (by kernel_rfl) rfl args w
  · exact enters_of Tryz.func86 (by kernel_rfl) rfl args w
  · exact enters_of Tryz.func61 (by kernel_rfl) rfl args w
  · exact enters_of Tryz.func53 (by kernel_rfl) rfl args w
  · exact enters_of Tryz.func31 (by kernel_rfl) rfl args w
  · exact enters_of Tryz.func56 (by kernel_rfl) rfl args w
  · exact enters_of Tryz.func58 (by kernel_rfl) rfl args w
  · exact enters_of Tryz.func57 (by kernel_rfl) rfl args w
  · exact enters_of Tryz.func59 (by kernel_rfl) rfl args w
  · exact enters_of Tryz.func27 (by kernel_rfl) rfl args w
  · exact enters_of Tryz.func28 (by kernel_rfl) rfl args w
  · exact enters_of Tryz.func60 (by kernel_rfl) rfl args w
  · exact enters_of Tryz.func41 (by kernel_rfl) rfl args w
  · exact enters_of Tryz.func25 (by kernel_rfl) rfl args w
  · exact enters_of Tryz.func54 (by kernel_rfl) rfl args w
  · exact enters_of Tryz.func55 (by kernel_rfl) rfl args w
  · exact enters_of Tryz.func24 (by kernel_rfl) rfl args w
  · exact enters_of Tryz.func11 (by kernel_rfl) rfl args w
  · exact enters_of Tryz.func9 (by kernel_rfl) rfl args w
  · exact enters_of Tryz.func10 (by kernel_rfl) rfl args w
  · exact enters_of Tryz.func90 (by kernel_rfl) rfl args w
  · exact enters_of Tryz.func75 (by kernel_rfl) rfl args w
  · exact enters_of Tryz.func82 (by kernel_rfl) rfl args w
  · exact enters_of Tryz.func22 (by kernel_rfl) rfl args w
  · exact enters_of Tryz.func149 (by kernel_rfl) rfl args w
  · cases h
def gmT : QTab := ⟨gmFo, gmSc, gmAg, gmEs, gmLn, gmEn, gmLn, true⟩
theorem gmT_ok : gmT.Ok := ⟨gmFo_ok, gmSc_ok, gmAg_ok, gmEs_ok, gmLn_ok, gmEn_ok, gmSl_ok⟩
end Go.Proofs.YtfmhickjefogdaaGreat
