/- Contracts: slices.IndexFunc and find of transport, for moves, transporters, trips. -/
import Derived.Test.YtpbmmdoodmbneaaGreatDoorKit
import Derived.Test.YtpbmmdoodmbneaaGreatDoorTrnSpec
import Derived.Lib.Bytes
import Derived.Shelf.SlSortCmp.QuietGrown

/- Moves, transporters and trips in memory. -/
namespace Go.Proofs.YtpbmmdoodmbneaaGreatDoor
open Go.RowKit

def bs (l : List UInt8) : ByteArray := ⟨l.toArray⟩
theorem bs_list (l : List UInt8) : (bs l).data.toList = l := rfl
theorem bs_of (s : ByteArray) : bs s.data.toList = s := by cases s; simp [bs]
theorem bs_size (l : List UInt8) : (bs l).size = l.length := by simp [bs, ByteArray.size]
theorem bs_inj {a b : List UInt8} (h : bs a = bs b) : a = b := by rw [← bs_list a, h, bs_list]
theorem bs_toList (l : List UInt8) : (bs l).toList = l := by rw [Lib.toList_data, bs_list]
theorem bs_eq (a b : List UInt8) : ((bs a).toList == (bs b).toList) = (a == b) := by rw [bs_toList, bs_toList]

/-! Mov -/
def mvCells (x : Mov) : List Value := [.string (bs x.item), .int .i64 x.frm, .int .i64 x.to, .int .i64 x.ready, .int .i64 x.mass]
theorem mvCells_len (x : Mov) : (mvCells x).length = 5 := rfl
theorem mvi_lt {l : List Mov} {k : Nat} (h : k < l.length) : mvi l k = l[k] := by simp [mvi, h]
theorem mvi_mem {l : List Mov} {k : Nat} (h : k < l.length) : mvi l k ∈ l := by rw [mvi_lt h]; exact List.getElem_mem h
theorem mem_mvi {l : List Mov} {x : Mov} (h : x ∈ l) : ∃ k, k < l.length ∧ mvi l k = x := by
  obtain ⟨k, hk, rfl⟩ := List.mem_iff_getElem.1 h; exact ⟨k, hk, mvi_lt hk⟩
theorem take_mvi {l : List Mov} {k : Nat} (h : k < l.length) : l.take (k + 1) = l.take k ++ [mvi l k] := by
  rw [List.take_succ_eq_append_getElem h, mvi_lt h]
theorem mvi_take {l : List Mov} {k n : Nat} (h : k < n) : mvi (l.take n) k = mvi l k := by
  simp [mvi, List.getElem?_take, h]
structure MAt (w : World) (b off : Nat) (x : Mov) : Prop where
  c0 : w.cell? ⟨b, off, none⟩ = some (.string (bs x.item))
  c1 : w.cell? ⟨b, off + 1, none⟩ = some (.int .i64 x.frm)
  c2 : w.cell? ⟨b, off + 2, none⟩ = some (.int .i64 x.to)
  c3 : w.cell? ⟨b, off + 3, none⟩ = some (.int .i64 x.ready)
  c4 : w.cell? ⟨b, off + 4, none⟩ = some (.int .i64 x.mass)
theorem MAt.keep {w w' : World} {b off : Nat} {x : Mov} (h : MAt w b off x) (hb : Below w.heap.size w w') : MAt w' b off x := ⟨cell_keep hb h.c0, cell_keep hb h.c1, cell_keep hb h.c2, cell_keep hb h.c3, cell_keep hb h.c4⟩
/-- a slice that reads as such a list -/
def SM (w : World) (v : Value) (l : List Mov) : Prop :=
  ∃ a cap, v = .slice a l.length cap ∧ l.length ≤ cap ∧ cap ≤ maxLen ∧ ∀ i, i < l.length → ∃ b off, a = some ⟨b, off, none⟩ ∧ MAt w b (off + i * 5) (mvi l i)
theorem SM.keep {w w' : World} {v : Value} {l : List Mov} (h : SM w v l) (hb : Below w.heap.size w w') : SM w' v l := by
  obtain ⟨a, cap, rfl, h1, h2, h3⟩ := h
  exact ⟨a, cap, rfl, h1, h2, fun i hi => by obtain ⟨b, off, ha, hc⟩ := h3 i hi; exact ⟨b, off, ha, hc.keep hb⟩⟩
theorem SM.len {w : World} {v : Value} {l : List Mov} (h : SM w v l) : l.length ≤ maxLen := by obtain ⟨a, cap, _, h1, h2, _⟩ := h; omega
theorem SM_nil (w : World) : SM w (.slice none 0 0) [] := ⟨none, 0, rfl, Nat.le_refl _, Nat.zero_le _, fun i hi => by simp at hi⟩
theorem SM.form {w : World} {v : Value} {l : List Mov} (h : SM w v l) (hl : 1 ≤ l.length) : ∃ b off cap, v = .slice (some ⟨b, off, none⟩) l.length cap ∧ l.length ≤ cap ∧ cap ≤ maxLen ∧ b < w.heap.size ∧ ∀ i, i < l.length → MAt w b (off + i * 5) (mvi l i) := by
  obtain ⟨a, cap, rfl, h1, h2, h3⟩ := h
  obtain ⟨b, off, rfl, hc⟩ := h3 0 (by omega)
  refine ⟨b, off, cap, rfl, h1, h2, World.block_lt_of_cell? w _ hc.c0, fun i hi => ?_⟩
  obtain ⟨b', off', ha, hc'⟩ := h3 i hi
  have ha := Option.some.inj ha
  simp only [Addr.mk.injEq] at ha
  obtain ⟨rfl, rfl, _⟩ := ha
  exact hc'
theorem SM.take {w : World} {a : Option Addr} {n cap : Nat} {l : List Mov} (h : SM w (.slice a n cap) l) (k : Nat) (hk : k ≤ l.length) : SM w (.slice a k cap) (l.take k) := by
  obtain ⟨a', cap', he, h1, h2, h3⟩ := h
  simp at he
  obtain ⟨rfl, rfl, rfl⟩ := he
  have hl : (l.take k).length = k := by simp; omega
  refine ⟨a, cap, by rw [hl], by omega, h2, fun i hi => ?_⟩
  rw [hl] at hi
  obtain ⟨b, off, ha, hc⟩ := h3 i (by omega)
  exact ⟨b, off, ha, by rw [mvi_take hi]; exact hc⟩
theorem SM.at {w : World} {a : Option Addr} {n cap : Nat} {l : List Mov} (h : SM w (.slice a n cap) l) {i : Nat} (hi : i < l.length) : ∃ b off, a = some ⟨b, off, none⟩ ∧ MAt w b (off + i * 5) (mvi l i) := by
  obtain ⟨a', cap', he, h1, h2, h3⟩ := h
  simp at he
  obtain ⟨rfl, rfl, rfl⟩ := he
  exact h3 i hi
theorem SM.n {w : World} {a : Option Addr} {n cap : Nat} {l : List Mov} (h : SM w (.slice a n cap) l) : n = l.length := by
  obtain ⟨a', cap', he, _⟩ := h
  simp at he
  exact he.2.1
def OwnM (w : World) (B : Nat) (v : Value) (l : List Mov) : Prop := w.ownsRow B 39 5 v l.length (l.flatMap mvCells)
theorem OwnM_nil (w : World) (B : Nat) : OwnM w B (.slice none 0 0) [] := World.ownsRow_nil _ _ _ _
theorem OwnM.below {w w' : World} {B : Nat} {v : Value} {l : List Mov} (h : OwnM w B v l) (hb : Below w.heap.size w w') : OwnM w' B v l := owns_below h hb
theorem OwnM.alloc {w : World} {B : Nat} {v : Value} {l : List Mov} (h : OwnM w B v l) (o : Obj) : OwnM (w.alloc o) B v l := World.ownsRow.alloc h o
theorem OwnM.mono {w : World} {B B' : Nat} {v : Value} {l : List Mov} (h : OwnM w B v l) (hb : B' ≤ B) : OwnM w B' v l := owns_mono h hb
theorem OwnM.lt {w : World} {B : Nat} {v : Value} {l : List Mov} (h : OwnM w B v l) (k : Nat) (hk : v.ownBlock = some k) : B ≤ k ∧ k < w.heap.size := World.ownsRow.lt h k hk
theorem OwnM.at {w : World} {B g n cap : Nat} {l : List Mov} (h : OwnM w B (.slice (some ⟨g, 0, none⟩) n cap) l) {i : Nat} (hi : i < l.length) : MAt w g (i * 5) (mvi l i) := by
  have h0 : w.ownsRow B 39 5 (.slice (some ⟨g, 0, none⟩) n cap) l.length (l.flatMap mvCells) := h
  rcases own_flat_form h0 with ⟨hn, _⟩ | ⟨g', cap', he, _, _, _, _, hc⟩
  · cases hn
  · simp at he
    obtain ⟨rfl, _, _⟩ := he
    have key : ∀ j, j < 5 → w.cell? ⟨g, i * 5 + j, none⟩ = (mvCells (mvi l i))[j]? := fun j hj => by
      rw [hc (i * 5 + j) (by omega), flat_get mvCells mvCells_len l i j hi hj, mvi_lt hi]
    exact ⟨key 0 (by omega), key 1 (by omega), key 2 (by omega), key 3 (by omega), key 4 (by omega)⟩
theorem OwnM.s {w : World} {B : Nat} {v : Value} {l : List Mov} (h : OwnM w B v l) : SM w v l := by
  rcases own_flat_form h with ⟨rfl, rfl⟩ | ⟨g, cap, rfl, _, _, hn, hm, _⟩
  · exact SM_nil w
  · exact ⟨_, cap, rfl, hn, hm, fun i hi => ⟨g, 0, rfl, by rw [Nat.zero_add]; exact OwnM.at h hi⟩⟩

/-! Trk -/
def tkCells (x : Trk) : List Value := [.string (bs x.name), .int .i64 x.load, .int .i64 x.hours]
theorem tkCells_len (x : Trk) : (tkCells x).length = 3 := rfl
theorem tki_lt {l : List Trk} {k : Nat} (h : k < l.length) : tki l k = l[k] := by simp [tki, h]
theorem mem_tki {l : List Trk} {x : Trk} (h : x ∈ l) : ∃ k, k < l.length ∧ tki l k = x := by
  obtain ⟨k, hk, rfl⟩ := List.mem_iff_getElem.1 h; exact ⟨k, hk, tki_lt hk⟩
theorem take_tki {l : List Trk} {k : Nat} (h : k < l.length) : l.take (k + 1) = l.take k ++ [tki l k] := by
  rw [List.take_succ_eq_append_getElem h, tki_lt h]
theorem tki_take {l : List Trk} {k n : Nat} (h : k < n) : tki (l.take n) k = tki l k := by
  simp [tki, List.getElem?_take, h]
structure KAt (w : World) (b off : Nat) (x : Trk) : Prop where
  c0 : w.cell? ⟨b, off, none⟩ = some (.string (bs x.name))
  c1 : w.cell? ⟨b, off + 1, none⟩ = some (.int .i64 x.load)
  c2 : w.cell? ⟨b, off + 2, none⟩ = some (.int .i64 x.hours)
theorem KAt.keep {w w' : World} {b off : Nat} {x : Trk} (h : KAt w b off x) (hb : Below w.heap.size w w') : KAt w' b off x := ⟨cell_keep hb h.c0, cell_keep hb h.c1, cell_keep hb h.c2⟩
/-- a slice that reads as such a list -/
def SK (w : World) (v : Value) (l : List Trk) : Prop :=
  ∃ a cap, v = .slice a l.length cap ∧ l.length ≤ cap ∧ cap ≤ maxLen ∧ ∀ i, i < l.length → ∃ b off, a = some ⟨b, off, none⟩ ∧ KAt w b (off + i * 3) (tki l i)
theorem SK.keep {w w' : World} {v : Value} {l : List Trk} (h : SK w v l) (hb : Below w.heap.size w w') : SK w' v l := by
  obtain ⟨a, cap, rfl, h1, h2, h3⟩ := h
  exact ⟨a, cap, rfl, h1, h2, fun i hi => by obtain ⟨b, off, ha, hc⟩ := h3 i hi; exact ⟨b, off, ha, hc.keep hb⟩⟩
theorem SK.len {w : World} {v : Value} {l : List Trk} (h : SK w v l) : l.length ≤ maxLen := by obtain ⟨a, cap, _, h1, h2, _⟩ := h; omega
theorem SK_nil (w : World) : SK w (.slice none 0 0) [] := ⟨none, 0, rfl, Nat.le_refl _, Nat.zero_le _, fun i hi => by simp at hi⟩
theorem SK.form {w : World} {v : Value} {l : List Trk} (h : SK w v l) (hl : 1 ≤ l.length) : ∃ b off cap, v = .slice (some ⟨b, off, none⟩) l.length cap ∧ l.length ≤ cap ∧ cap ≤ maxLen ∧ b < w.heap.size ∧ ∀ i, i < l.length → KAt w b (off + i * 3) (tki l i) := by
  obtain ⟨a, cap, rfl, h1, h2, h3⟩ := h
  obtain ⟨b, off, rfl, hc⟩ := h3 0 (by omega)
  refine ⟨b, off, cap, rfl, h1, h2, World.block_lt_of_cell? w _ hc.c0, fun i hi => ?_⟩
  obtain ⟨b', off', ha, hc'⟩ := h3 i hi
  have ha := Option.some.inj ha
  simp only [Addr.mk.injEq] at ha
  obtain ⟨rfl, rfl, _⟩ := ha
  exact hc'
theorem SK.take {w : World} {a : Option Addr} {n cap : Nat} {l : List Trk} (h : SK w (.slice a n cap) l) (k : Nat) (hk : k ≤ l.length) : SK w (.slice a k cap) (l.take k) := by
  obtain ⟨a', cap', he, h1, h2, h3⟩ := h
  simp at he
  obtain ⟨rfl, rfl, rfl⟩ := he
  have hl : (l.take k).length = k := by simp; omega
  refine ⟨a, cap, by rw [hl], by omega, h2, fun i hi => ?_⟩
  rw [hl] at hi
  obtain ⟨b, off, ha, hc⟩ := h3 i (by omega)
  exact ⟨b, off, ha, by rw [tki_take hi]; exact hc⟩
theorem SK.at {w : World} {a : Option Addr} {n cap : Nat} {l : List Trk} (h : SK w (.slice a n cap) l) {i : Nat} (hi : i < l.length) : ∃ b off, a = some ⟨b, off, none⟩ ∧ KAt w b (off + i * 3) (tki l i) := by
  obtain ⟨a', cap', he, h1, h2, h3⟩ := h
  simp at he
  obtain ⟨rfl, rfl, rfl⟩ := he
  exact h3 i hi
theorem SK.n {w : World} {a : Option Addr} {n cap : Nat} {l : List Trk} (h : SK w (.slice a n cap) l) : n = l.length := by
  obtain ⟨a', cap', he, _⟩ := h
  simp at he
  exact he.2.1
def OwnK (w : World) (B : Nat) (v : Value) (l : List Trk) : Prop := w.ownsRow B 36 3 v l.length (l.flatMap tkCells)
theorem OwnK_nil (w : World) (B : Nat) : OwnK w B (.slice none 0 0) [] := World.ownsRow_nil _ _ _ _
theorem OwnK.below {w w' : World} {B : Nat} {v : Value} {l : List Trk} (h : OwnK w B v l) (hb : Below w.heap.size w w') : OwnK w' B v l := owns_below h hb
theorem OwnK.alloc {w : World} {B : Nat} {v : Value} {l : List Trk} (h : OwnK w B v l) (o : Obj) : OwnK (w.alloc o) B v l := World.ownsRow.alloc h o
theorem OwnK.mono {w : World} {B B' : Nat} {v : Value} {l : List Trk} (h : OwnK w B v l) (hb : B' ≤ B) : OwnK w B' v l := owns_mono h hb
theorem OwnK.lt {w : World} {B : Nat} {v : Value} {l : List Trk} (h : OwnK w B v l) (k : Nat) (hk : v.ownBlock = some k) : B ≤ k ∧ k < w.heap.size := World.ownsRow.lt h k hk
theorem OwnK.at {w : World} {B g n cap : Nat} {l : List Trk} (h : OwnK w B (.slice (some ⟨g, 0, none⟩) n cap) l) {i : Nat} (hi : i < l.length) : KAt w g (i * 3) (tki l i) := by
  have h0 : w.ownsRow B 36 3 (.slice (some ⟨g, 0, none⟩) n cap) l.length (l.flatMap tkCells) := h
  rcases own_flat_form h0 with ⟨hn, _⟩ | ⟨g', cap', he, _, _, _, _, hc⟩
  · cases hn
  · simp at he
    obtain ⟨rfl, _, _⟩ := he
    have key : ∀ j, j < 3 → w.cell? ⟨g, i * 3 + j, none⟩ = (tkCells (tki l i))[j]? := fun j hj => by
      rw [hc (i * 3 + j) (by omega), flat_get tkCells tkCells_len l i j hi hj, tki_lt hi]
    exact ⟨key 0 (by omega), key 1 (by omega), key 2 (by omega)⟩
theorem OwnK.s {w : World} {B : Nat} {v : Value} {l : List Trk} (h : OwnK w B v l) : SK w v l := by
  rcases own_flat_form h with ⟨rfl, rfl⟩ | ⟨g, cap, rfl, _, _, hn, hm, _⟩
  · exact SK_nil w
  · exact ⟨_, cap, rfl, hn, hm, fun i hi => ⟨g, 0, rfl, by rw [Nat.zero_add]; exact OwnK.at h hi⟩⟩

/-! Trp -/
def tpCells (x : Trp) : List Value := [.string (bs x.item), .string (bs x.truck), .int .i64 x.start, .int .i64 x.fin]
theorem tpCells_len (x : Trp) : (tpCells x).length = 4 := rfl
theorem tpi_lt {l : List Trp} {k : Nat} (h : k < l.length) : tpi l k = l[k] := by simp [tpi, h]
theorem tpi_mem {l : List Trp} {k : Nat} (h : k < l.length) : tpi l k ∈ l := by rw [tpi_lt h]; exact List.getElem_mem h
theorem mem_tpi {l : List Trp} {x : Trp} (h : x ∈ l) : ∃ k, k < l.length ∧ tpi l k = x := by
  obtain ⟨k, hk, rfl⟩ := List.mem_iff_getElem.1 h; exact ⟨k, hk, tpi_lt hk⟩
theorem take_tpi {l : List Trp} {k : Nat} (h : k < l.length) : l.take (k + 1) = l.take k ++ [tpi l k] := by
  rw [List.take_succ_eq_append_getElem h, tpi_lt h]
theorem tpi_take {l : List Trp} {k n : Nat} (h : k < n) : tpi (l.take n) k = tpi l k := by
  simp [tpi, List.getElem?_take, h]
structure XAt (w : World) (b off : Nat) (x : Trp) : Prop where
  c0 : w.cell? ⟨b, off, none⟩ = some (.string (bs x.item))
  c1 : w.cell? ⟨b, off + 1, none⟩ = some (.string (bs x.truck))
  c2 : w.cell? ⟨b, off + 2, none⟩ = some (.int .i64 x.start)
  c3 : w.cell? ⟨b, off + 3, none⟩ = some (.int .i64 x.fin)
theorem XAt.keep {w w' : World} {b off : Nat} {x : Trp} (h : XAt w b off x) (hb : Below w.heap.size w w') : XAt w' b off x := ⟨cell_keep hb h.c0, cell_keep hb h.c1, cell_keep hb h.c2, cell_keep hb h.c3⟩
/-- a slice that reads as such a list -/
def SX (w : World) (v : Value) (l : List Trp) : Prop :=
  ∃ a cap, v = .slice a l.length cap ∧ l.length ≤ cap ∧ cap ≤ maxLen ∧ ∀ i, i < l.length → ∃ b off, a = some ⟨b, off, none⟩ ∧ XAt w b (off + i * 4) (tpi l i)
theorem SX.keep {w w' : World} {v : Value} {l : List Trp} (h : SX w v l) (hb : Below w.heap.size w w') : SX w' v l := by
  obtain ⟨a, cap, rfl, h1, h2, h3⟩ := h
  exact ⟨a, cap, rfl, h1, h2, fun i hi => by obtain ⟨b, off, ha, hc⟩ := h3 i hi; exact ⟨b, off, ha, hc.keep hb⟩⟩
theorem SX.len {w : World} {v : Value} {l : List Trp} (h : SX w v l) : l.length ≤ maxLen := by obtain ⟨a, cap, _, h1, h2, _⟩ := h; omega
theorem SX_nil (w : World) : SX w (.slice none 0 0) [] := ⟨none, 0, rfl, Nat.le_refl _, Nat.zero_le _, fun i hi => by simp at hi⟩
theorem SX.form {w : World} {v : Value} {l : List Trp} (h : SX w v l) (hl : 1 ≤ l.length) : ∃ b off cap, v = .slice (some ⟨b, off, none⟩) l.length cap ∧ l.length ≤ cap ∧ cap ≤ maxLen ∧ b < w.heap.size ∧ ∀ i, i < l.length → XAt w b (off + i * 4) (tpi l i) := by
  obtain ⟨a, cap, rfl, h1, h2, h3⟩ := h
  obtain ⟨b, off, rfl, hc⟩ := h3 0 (by omega)
  refine ⟨b, off, cap, rfl, h1, h2, World.block_lt_of_cell? w _ hc.c0, fun i hi => ?_⟩
  obtain ⟨b', off', ha, hc'⟩ := h3 i hi
  have ha := Option.some.inj ha
  simp only [Addr.mk.injEq] at ha
  obtain ⟨rfl, rfl, _⟩ := ha
  exact hc'
theorem SX.take {w : World} {a : Option Addr} {n cap : Nat} {l : List Trp} (h : SX w (.slice a n cap) l) (k : Nat) (hk : k ≤ l.length) : SX w (.slice a k cap) (l.take k) := by
  obtain ⟨a', cap', he, h1, h2, h3⟩ := h
  simp at he
  obtain ⟨rfl, rfl, rfl⟩ := he
  have hl : (l.take k).length = k := by simp; omega
  refine ⟨a, cap, by rw [hl], by omega, h2, fun i hi => ?_⟩
  rw [hl] at hi
  obtain ⟨b, off, ha, hc⟩ := h3 i (by omega)
  exact ⟨b, off, ha, by rw [tpi_take hi]; exact hc⟩
theorem SX.at {w : World} {a : Option Addr} {n cap : Nat} {l : List Trp} (h : SX w (.slice a n cap) l) {i : Nat} (hi : i < l.length) : ∃ b off, a = some ⟨b, off, none⟩ ∧ XAt w b (off + i * 4) (tpi l i) := by
  obtain ⟨a', cap', he, h1, h2, h3⟩ := h
  simp at he
  obtain ⟨rfl, rfl, rfl⟩ := he
  exact h3 i hi
theorem SX.n {w : World} {a : Option Addr} {n cap : Nat} {l : List Trp} (h : SX w (.slice a n cap) l) : n = l.length := by
  obtain ⟨a', cap', he, _⟩ := h
  simp at he
  exact he.2.1
def OwnX (w : World) (B : Nat) (v : Value) (l : List Trp) : Prop := w.ownsRow B 43 4 v l.length (l.flatMap tpCells)
theorem OwnX_nil (w : World) (B : Nat) : OwnX w B (.slice none 0 0) [] := World.ownsRow_nil _ _ _ _
theorem OwnX.below {w w' : World} {B : Nat} {v : Value} {l : List Trp} (h : OwnX w B v l) (hb : Below w.heap.size w w') : OwnX w' B v l := owns_below h hb
theorem OwnX.alloc {w : World} {B : Nat} {v : Value} {l : List Trp} (h : OwnX w B v l) (o : Obj) : OwnX (w.alloc o) B v l := World.ownsRow.alloc h o
theorem OwnX.mono {w : World} {B B' : Nat} {v : Value} {l : List Trp} (h : OwnX w B v l) (hb : B' ≤ B) : OwnX w B' v l := owns_mono h hb
theorem OwnX.lt {w : World} {B : Nat} {v : Value} {l : List Trp} (h : OwnX w B v l) (k : Nat) (hk : v.ownBlock = some k) : B ≤ k ∧ k < w.heap.size := World.ownsRow.lt h k hk
theorem OwnX.at {w : World} {B g n cap : Nat} {l : List Trp} (h : OwnX w B (.slice (some ⟨g, 0, none⟩) n cap) l) {i : Nat} (hi : i < l.length) : XAt w g (i * 4) (tpi l i) := by
  have h0 : w.ownsRow B 43 4 (.slice (some ⟨g, 0, none⟩) n cap) l.length (l.flatMap tpCells) := h
  rcases own_flat_form h0 with ⟨hn, _⟩ | ⟨g', cap', he, _, _, _, _, hc⟩
  · cases hn
  · simp at he
    obtain ⟨rfl, _, _⟩ := he
    have key : ∀ j, j < 4 → w.cell? ⟨g, i * 4 + j, none⟩ = (tpCells (tpi l i))[j]? := fun j hj => by
      rw [hc (i * 4 + j) (by omega), flat_get tpCells tpCells_len l i j hi hj, tpi_lt hi]
    exact ⟨key 0 (by omega), key 1 (by omega), key 2 (by omega), key 3 (by omega)⟩
theorem OwnX.s {w : World} {B : Nat} {v : Value} {l : List Trp} (h : OwnX w B v l) : SX w v l := by
  rcases own_flat_form h with ⟨rfl, rfl⟩ | ⟨g, cap, rfl, _, _, hn, hm, _⟩
  · exact SX_nil w
  · exact ⟨_, cap, rfl, hn, hm, fun i hi => ⟨g, 0, rfl, by rw [Nat.zero_add]; exact OwnX.at h hi⟩⟩

end Go.Proofs.YtpbmmdoodmbneaaGreatDoor

/- Contracts: slices.IndexFunc and find of transport, for moves, transporters, trips. -/
namespace Go.Proofs.YtpbmmdoodmbneaaGreatDoor
open Go.RowKit Go.Sort

/-- the first index at which p holds, else -1 -/
def findG {α : Type} (p : α → Bool) (xs : List α) : Int := match xs.findIdx? p with | some i => i | none => -1
theorem findG_hit {α : Type} [Inhabited α] (p : α → Bool) (xs : List α) (k : Nat) (hk : k < xs.length) (h1 : ∀ j, j < k → p (xs.getD j default) = false) (h2 : p (xs.getD k default) = true) : findG p xs = k := by
  have : xs.findIdx? p = some k := by
    rw [List.findIdx?_eq_some_iff_getElem]
    refine ⟨hk, ?_, ?_⟩
    · simpa [hk] using h2
    · intro j hj
      have := h1 j hj
      simp [show j < xs.length by omega] at this
      simp [this]
  simp [findG, this]
theorem findG_miss {α : Type} [Inhabited α] (p : α → Bool) (xs : List α) (h1 : ∀ j, j < xs.length → p (xs.getD j default) = false) : findG p xs = -1 := by
  have : xs.findIdx? p = none := by
    rw [List.findIdx?_eq_none_iff]
    intro x hx
    obtain ⟨j, hj, rfl⟩ := List.mem_iff_getElem.1 hx
    have := h1 j hj
    simpa [hj] using this
  simp [findG, this]
theorem below_grow (w : World) (n : Nat) (os : Array Obj) : Below w.heap.size w (grow (w.drewN n) os) :=
  ⟨rfl, rfl, rfl, by rw [size_grow]; exact Nat.le_add_right _ _, fun k hk => by simp [grow]; rw [Array.getElem?_append_left (by exact hk)]⟩
/-- it returns v and has made memory alone -/
def RetG (w : World) (v : Value) (e : Ending) (w' : World) : Prop := e = .returned v ∧ ∃ q os, w' = grow (w.drewN q) os
theorem RetG.ret {w w' : World} {v : Value} {e : Ending} (h : RetG w v e w') : Ret w v e w' := by
  obtain ⟨he, q, os, rfl⟩ := h; exact ⟨he, below_grow _ _ _⟩

/-! Mov -/
/-- A function value that answers a predicate, in every world that keeps what W0 has. -/
def FnM (fv : Value) (W0 : World) (p : Mov → Bool) : Prop :=
  ∃ F caps, fv = .func (.func F) #[] caps ∧ (∀ args w, (callFunc F args).run Tryz.prog w = .ok (.enter F args) w) ∧
    ∀ (x : Mov) (w : World), Below W0.heap.size W0 w → Calls Tryz.prog F (#[.agg #[.string (bs x.item), .int .i64 x.frm, .int .i64 x.to, .int .i64 x.ready, .int .i64 x.mass]] ++ caps) w (Ret w (.bool (p x)))
set_option maxHeartbeats 800000 in
theorem indexFunc_M (fv v : Value) (p : Mov → Bool) (xs : List Mov) (w : World) (h : SM w v xs) (hf : FnM fv w p) :
    Calls Tryz.prog 46 #[v, fv] w (Ret w (.int .i64 (findG p xs))) := by
  obtain ⟨F, caps, rfl, hcf, hf⟩ := hf
  obtain ⟨a, cap, rfl, h1, h2, h3⟩ := h
  have HF := Lib.hid hf; clear hf
  have H3 := Lib.hid h3; clear h3
  have hm : xs.length ≤ 9223372036854775807 := by unfold maxLen at h2; omega
  go_enter Tryz.func46, Tryz.ntmps46
  go_wp2
  go_loopw [8] (fun i wr => ∃ k : Nat, k ≤ xs.length ∧ i = .int .i64 k ∧ Hid (Below w.heap.size w wr) ∧ Hid (∀ j, j < k → p (mvi xs j) = false)) (fun i _ => xs.length - (intOf i).toNat)
  case atStart => exact ⟨0, Nat.zero_le _, rfl, Lib.hid (Below.refl _ _), Lib.hid fun j hj => by omega⟩
  case round =>
    obtain ⟨k, hk, rfl, hb, hj⟩ := hrel
    by_cases hlt : k < xs.length
    · obtain ⟨b, off, ha, hc⟩ := H3.out k hlt
      rw [ha]
      have hc' := hc.keep hb.out
      have c0 := hc'.c0
      have c1 := hc'.c1
      have c2 := hc'.c2
      have c3 := hc'.c3
      have c4 := hc'.c4
      clear hc hc'
      go_wp2_with fail
      refine (HF.out (mvi xs k) _ hb.out).mono ?_
      rintro e w1 ⟨rfl, hb1⟩
      have HB1 := Lib.hid (ext_trans hb.out hb1)
      clear hb1 c0 c1 c2 c3 c4
      generalize hx : p (mvi xs k) = x
      have HX := Lib.hid hx; clear hx
      cases x
      · go_wp2_with fail
        go_roundw
        case rel =>
          refine ⟨k+1, by omega, by go_num, HB1, Lib.hid ?_⟩
          intro j hjk
          by_cases e : j = k
          · subst e; exact HX.out
          · exact hj.out j (by omega)
        case measure => simp [intOf]; omega
      · go_wp2_with fail
        go_ret
        exact ⟨ret_int (findG_hit p xs k hlt hj.out HX.out).symm, HB1.out⟩
    · go_wp2_with fail
      go_ret
      exact ⟨ret_int (findG_miss p xs (fun j h => hj.out j (by omega))).symm, hb.out⟩
theorem name_M (x : Mov) (w : World) : Calls Tryz.prog 21 #[.agg #[.string (bs x.item), .int .i64 x.frm, .int .i64 x.to, .int .i64 x.ready, .int .i64 x.mass]] w (RetG w (.string (bs x.item))) := by
  go_enter Tryz.func21, Tryz.ntmps21
  go_wp2_with fail
  go_ret
  exact ⟨rfl, 0, _, (alloc_eq_grow _ _)⟩
theorem enter_nameM : ∀ args w, (callFunc 21 args).run Tryz.prog w = .ok (.enter 21 args) w := enters_of Tryz.func21 (by kernel_rfl) rfl
theorem enter_isM : ∀ args w, (callFunc 47 args).run Tryz.prog w = .ok (.enter 47 args) w := enters_of Tryz.func47 (by kernel_rfl) rfl
theorem is_M (x : Mov) (y : List UInt8) (b1 b2 : Nat) (w : World) (h1 : w.cell? ⟨b1, 0, none⟩ = some (.func (.func 21) #[] #[])) (h2 : w.cell? ⟨b2, 0, none⟩ = some (.string (bs y))) :
    Calls Tryz.prog 47 #[.agg #[.string (bs x.item), .int .i64 x.frm, .int .i64 x.to, .int .i64 x.ready, .int .i64 x.mass], .pointer (some ⟨b1, 0, none⟩), .pointer (some ⟨b2, 0, none⟩)] w (Ret w (.bool (x.item == y))) := by
  have HN := Lib.hid (name_M x)
  have HE := Lib.hid (bs_eq x.item y)
  have en := enter_nameM
  have mixed : Tryz.prog.follows .mixedOrders = true := by kernel_rfl
  have hb1 : b1 < w.heap.size := World.block_lt_of_cell? w _ h1
  have hb2 : b2 < w.heap.size := World.block_lt_of_cell? w _ h2
  obtain ⟨W, hW⟩ : ∃ W, W = w.alloc (.cells #[.string (bs x.item), .int .i64 x.frm, .int .i64 x.to, .int .i64 x.ready, .int .i64 x.mass] 39) := ⟨_, rfl⟩
  have k1 : ∀ n os, (grow (W.drewN n) os).cell? ⟨b1, 0, none⟩ = some (.func (.func 21) #[] #[]) := cell_grown (by show b1 < _; rw [hW]; simp; omega) (by rw [hW]; exact cell_alloc' h1 _)
  have k2 : ∀ n os, (grow (W.drewN n) os).cell? ⟨b2, 0, none⟩ = some (.string (bs y)) := cell_grown (by show b2 < _; rw [hW]; simp; omega) (by rw [hW]; exact cell_alloc' h2 _)
  have j0 : ∀ n os, (grow (W.drewN n) os).cell? ⟨w.heap.size, 0, none⟩ = some (.string (bs x.item)) := cell_grown (by rw [hW]; simp) (by rw [hW]; simp)
  have j1 : ∀ n os, (grow (W.drewN n) os).cell? ⟨w.heap.size, 1, none⟩ = some (.int .i64 x.frm) := cell_grown (by rw [hW]; simp) (by rw [hW]; simp)
  have j2 : ∀ n os, (grow (W.drewN n) os).cell? ⟨w.heap.size, 2, none⟩ = some (.int .i64 x.to) := cell_grown (by rw [hW]; simp) (by rw [hW]; simp)
  have j3 : ∀ n os, (grow (W.drewN n) os).cell? ⟨w.heap.size, 3, none⟩ = some (.int .i64 x.ready) := cell_grown (by rw [hW]; simp) (by rw [hW]; simp)
  have j4 : ∀ n os, (grow (W.drewN n) os).cell? ⟨w.heap.size, 4, none⟩ = some (.int .i64 x.mass) := cell_grown (by rw [hW]; simp) (by rw [hW]; simp)
  have HB : Hid (∀ q os, Below w.heap.size w (grow (W.drewN q) os)) := fun q os => ext_trans (by rw [hW]; exact (Below.refl _ _).alloc (Nat.le_refl _) _) (below_grow W q os)
  go_enter Tryz.func47, Tryz.ntmps47
  go_wp2_with fail
  rw [← hW]
  clear hW h1 h2
  go_quiet_grown (exact Calls.grown_of (HN.out _))
  go_wp2_with fail
  go_ret
  exact ⟨ret_bool HE.out, HB.out _ _⟩
set_option maxHeartbeats 800000 in
theorem find_M (v : Value) (x : List UInt8) (xs : List Mov) (w : World) (h : SM w v xs) :
    Calls Tryz.prog 20 #[v, .string (bs x), .func (.func 21) #[] #[]] w (Ret w (.int .i64 (findG (fun m => m.item == x) xs))) := by
  have HI := Lib.hid (fun (w1 : World) (b1 b2 : Nat) (hb : Below w.heap.size w w1) (h1 : w1.cell? ⟨b1, 0, none⟩ = some (.func (.func 21) #[] #[])) (h2 : w1.cell? ⟨b2, 0, none⟩ = some (.string (bs x))) =>
    indexFunc_M (.func (.func 47) #[] #[.pointer (some ⟨b1, 0, none⟩), .pointer (some ⟨b2, 0, none⟩)]) v (fun m => m.item == x) xs w1 (h.keep hb) ⟨_, _, rfl, enter_isM, fun y w2 hb2 => is_M y x b1 b2 w2 (cell_keep hb2 h1) (cell_keep hb2 h2)⟩)
  obtain ⟨a, n, c, rfl⟩ : ∃ a n c, v = .slice a n c := by obtain ⟨a, cap, rfl, _⟩ := h; exact ⟨_, _, _, rfl⟩
  clear h
  go_enter Tryz.func20, Tryz.ntmps20
  go_wp2_with fail
  refine (HI.out _ _ _ (((Below.refl _ _).alloc (Nat.le_refl _) _).alloc (by simp) _) (by simp) (by simp)).mono ?_
  rintro e w1 ⟨rfl, hb⟩
  have HB := Lib.hid (ext_trans (((Below.refl _ _).alloc (Nat.le_refl _) _).alloc (by simp) _) hb)
  clear hb
  go_wp2_with fail
  go_ret
  exact ⟨rfl, HB.out⟩

/-! Trk -/
/-- A function value that answers a predicate, in every world that keeps what W0 has. -/
def FnK (fv : Value) (W0 : World) (p : Trk → Bool) : Prop :=
  ∃ F caps, fv = .func (.func F) #[] caps ∧ (∀ args w, (callFunc F args).run Tryz.prog w = .ok (.enter F args) w) ∧
    ∀ (x : Trk) (w : World), Below W0.heap.size W0 w → Calls Tryz.prog F (#[.agg #[.string (bs x.name), .int .i64 x.load, .int .i64 x.hours]] ++ caps) w (Ret w (.bool (p x)))
set_option maxHeartbeats 800000 in
theorem indexFunc_K (fv v : Value) (p : Trk → Bool) (xs : List Trk) (w : World) (h : SK w v xs) (hf : FnK fv w p) :
    Calls Tryz.prog 64 #[v, fv] w (Ret w (.int .i64 (findG p xs))) := by
  obtain ⟨F, caps, rfl, hcf, hf⟩ := hf
  obtain ⟨a, cap, rfl, h1, h2, h3⟩ := h
  have HF := Lib.hid hf; clear hf
  have H3 := Lib.hid h3; clear h3
  have hm : xs.length ≤ 9223372036854775807 := by unfold maxLen at h2; omega
  go_enter Tryz.func64, Tryz.ntmps64
  go_wp2
  go_loopw [8] (fun i wr => ∃ k : Nat, k ≤ xs.length ∧ i = .int .i64 k ∧ Hid (Below w.heap.size w wr) ∧ Hid (∀ j, j < k → p (tki xs j) = false)) (fun i _ => xs.length - (intOf i).toNat)
  case atStart => exact ⟨0, Nat.zero_le _, rfl, Lib.hid (Below.refl _ _), Lib.hid fun j hj => by omega⟩
  case round =>
    obtain ⟨k, hk, rfl, hb, hj⟩ := hrel
    by_cases hlt : k < xs.length
    · obtain ⟨b, off, ha, hc⟩ := H3.out k hlt
      rw [ha]
      have hc' := hc.keep hb.out
      have c0 := hc'.c0
      have c1 := hc'.c1
      have c2 := hc'.c2
      clear hc hc'
      go_wp2_with fail
      refine (HF.out (tki xs k) _ hb.out).mono ?_
      rintro e w1 ⟨rfl, hb1⟩
      have HB1 := Lib.hid (ext_trans hb.out hb1)
      clear hb1 c0 c1 c2
      generalize hx : p (tki xs k) = x
      have HX := Lib.hid hx; clear hx
      cases x
      · go_wp2_with fail
        go_roundw
        case rel =>
          refine ⟨k+1, by omega, by go_num, HB1, Lib.hid ?_⟩
          intro j hjk
          by_cases e : j = k
          · subst e; exact HX.out
          · exact hj.out j (by omega)
        case measure => simp [intOf]; omega
      · go_wp2_with fail
        go_ret
        exact ⟨ret_int (findG_hit p xs k hlt hj.out HX.out).symm, HB1.out⟩
    · go_wp2_with fail
      go_ret
      exact ⟨ret_int (findG_miss p xs (fun j h => hj.out j (by omega))).symm, hb.out⟩
theorem name_K (x : Trk) (w : World) : Calls Tryz.prog 44 #[.agg #[.string (bs x.name), .int .i64 x.load, .int .i64 x.hours]] w (RetG w (.string (bs x.name))) := by
  go_enter Tryz.func44, Tryz.ntmps44
  go_wp2_with fail
  go_ret
  exact ⟨rfl, 0, _, (alloc_eq_grow _ _)⟩
theorem enter_nameK : ∀ args w, (callFunc 44 args).run Tryz.prog w = .ok (.enter 44 args) w := enters_of Tryz.func44 (by kernel_rfl) rfl
theorem enter_isK : ∀ args w, (callFunc 65 args).run Tryz.prog w = .ok (.enter 65 args) w := enters_of Tryz.func65 (by kernel_rfl) rfl
theorem is_K (x : Trk) (y : List UInt8) (b1 b2 : Nat) (w : World) (h1 : w.cell? ⟨b1, 0, none⟩ = some (.func (.func 44) #[] #[])) (h2 : w.cell? ⟨b2, 0, none⟩ = some (.string (bs y))) :
    Calls Tryz.prog 65 #[.agg #[.string (bs x.name), .int .i64 x.load, .int .i64 x.hours], .pointer (some ⟨b1, 0, none⟩), .pointer (some ⟨b2, 0, none⟩)] w (Ret w (.bool (x.name == y))) := by
  have HN := Lib.hid (name_K x)
  have HE := Lib.hid (bs_eq x.name y)
  have en := enter_nameK
  have mixed : Tryz.prog.follows .mixedOrders = true := by kernel_rfl
  have hb1 : b1 < w.heap.size := World.block_lt_of_cell? w _ h1
  have hb2 : b2 < w.heap.size := World.block_lt_of_cell? w _ h2
  obtain ⟨W, hW⟩ : ∃ W, W = w.alloc (.cells #[.string (bs x.name), .int .i64 x.load, .int .i64 x.hours] 36) := ⟨_, rfl⟩
  have k1 : ∀ n os, (grow (W.drewN n) os).cell? ⟨b1, 0, none⟩ = some (.func (.func 44) #[] #[]) := cell_grown (by show b1 < _; rw [hW]; simp; omega) (by rw [hW]; exact cell_alloc' h1 _)
  have k2 : ∀ n os, (grow (W.drewN n) os).cell? ⟨b2, 0, none⟩ = some (.string (bs y)) := cell_grown (by show b2 < _; rw [hW]; simp; omega) (by rw [hW]; exact cell_alloc' h2 _)
  have j0 : ∀ n os, (grow (W.drewN n) os).cell? ⟨w.heap.size, 0, none⟩ = some (.string (bs x.name)) := cell_grown (by rw [hW]; simp) (by rw [hW]; simp)
  have j1 : ∀ n os, (grow (W.drewN n) os).cell? ⟨w.heap.size, 1, none⟩ = some (.int .i64 x.load) := cell_grown (by rw [hW]; simp) (by rw [hW]; simp)
  have j2 : ∀ n os, (grow (W.drewN n) os).cell? ⟨w.heap.size, 2, none⟩ = some (.int .i64 x.hours) := cell_grown (by rw [hW]; simp) (by rw [hW]; simp)
  have HB : Hid (∀ q os, Below w.heap.size w (grow (W.drewN q) os)) := fun q os => ext_trans (by rw [hW]; exact (Below.refl _ _).alloc (Nat.le_refl _) _) (below_grow W q os)
  go_enter Tryz.func65, Tryz.ntmps65
  go_wp2_with fail
  rw [← hW]
  clear hW h1 h2
  go_quiet_grown (exact Calls.grown_of (HN.out _))
  go_wp2_with fail
  go_ret
  exact ⟨ret_bool HE.out, HB.out _ _⟩
set_option maxHeartbeats 800000 in
theorem find_K (v : Value) (x : List UInt8) (xs : List Trk) (w : World) (h : SK w v xs) :
    Calls Tryz.prog 43 #[v, .string (bs x), .func (.func 44) #[] #[]] w (Ret w (.int .i64 (findG (fun m => m.name == x) xs))) := by
  have HI := Lib.hid (fun (w1 : World) (b1 b2 : Nat) (hb : Below w.heap.size w w1) (h1 : w1.cell? ⟨b1, 0, none⟩ = some (.func (.func 44) #[] #[])) (h2 : w1.cell? ⟨b2, 0, none⟩ = some (.string (bs x))) =>
    indexFunc_K (.func (.func 65) #[] #[.pointer (some ⟨b1, 0, none⟩), .pointer (some ⟨b2, 0, none⟩)]) v (fun m => m.name == x) xs w1 (h.keep hb) ⟨_, _, rfl, enter_isK, fun y w2 hb2 => is_K y x b1 b2 w2 (cell_keep hb2 h1) (cell_keep hb2 h2)⟩)
  obtain ⟨a, n, c, rfl⟩ : ∃ a n c, v = .slice a n c := by obtain ⟨a, cap, rfl, _⟩ := h; exact ⟨_, _, _, rfl⟩
  clear h
  go_enter Tryz.func43, Tryz.ntmps43
  go_wp2_with fail
  refine (HI.out _ _ _ (((Below.refl _ _).alloc (Nat.le_refl _) _).alloc (by simp) _) (by simp) (by simp)).mono ?_
  rintro e w1 ⟨rfl, hb⟩
  have HB := Lib.hid (ext_trans (((Below.refl _ _).alloc (Nat.le_refl _) _).alloc (by simp) _) hb)
  clear hb
  go_wp2_with fail
  go_ret
  exact ⟨rfl, HB.out⟩

/-! Trp -/
/-- A function value that answers a predicate, in every world that keeps what W0 has. -/
def FnX (fv : Value) (W0 : World) (p : Trp → Bool) : Prop :=
  ∃ F caps, fv = .func (.func F) #[] caps ∧ (∀ args w, (callFunc F args).run Tryz.prog w = .ok (.enter F args) w) ∧
    ∀ (x : Trp) (w : World), Below W0.heap.size W0 w → Calls Tryz.prog F (#[.agg #[.string (bs x.item), .string (bs x.truck), .int .i64 x.start, .int .i64 x.fin]] ++ caps) w (Ret w (.bool (p x)))
set_option maxHeartbeats 800000 in
theorem indexFunc_X (fv v : Value) (p : Trp → Bool) (xs : List Trp) (w : World) (h : SX w v xs) (hf : FnX fv w p) :
    Calls Tryz.prog 62 #[v, fv] w (Ret w (.int .i64 (findG p xs))) := by
  obtain ⟨F, caps, rfl, hcf, hf⟩ := hf
  obtain ⟨a, cap, rfl, h1, h2, h3⟩ := h
  have HF := Lib.hid hf; clear hf
  have H3 := Lib.hid h3; clear h3
  have hm : xs.length ≤ 9223372036854775807 := by unfold maxLen at h2; omega
  go_enter Tryz.func62, Tryz.ntmps62
  go_wp2
  go_loopw [8] (fun i wr => ∃ k : Nat, k ≤ xs.length ∧ i = .int .i64 k ∧ Hid (Below w.heap.size w wr) ∧ Hid (∀ j, j < k → p (tpi xs j) = false)) (fun i _ => xs.length - (intOf i).toNat)
  case atStart => exact ⟨0, Nat.zero_le _, rfl, Lib.hid (Below.refl _ _), Lib.hid fun j hj => by omega⟩
  case round =>
    obtain ⟨k, hk, rfl, hb, hj⟩ := hrel
    by_cases hlt : k < xs.length
    · obtain ⟨b, off, ha, hc⟩ := H3.out k hlt
      rw [ha]
      have hc' := hc.keep hb.out
      have c0 := hc'.c0
      have c1 := hc'.c1
      have c2 := hc'.c2
      have c3 := hc'.c3
      clear hc hc'
      go_wp2_with fail
      refine (HF.out (tpi xs k) _ hb.out).mono ?_
      rintro e w1 ⟨rfl, hb1⟩
      have HB1 := Lib.hid (ext_trans hb.out hb1)
      clear hb1 c0 c1 c2 c3
      generalize hx : p (tpi xs k) = x
      have HX := Lib.hid hx; clear hx
      cases x
      · go_wp2_with fail
        go_roundw
        case rel =>
          refine ⟨k+1, by omega, by go_num, HB1, Lib.hid ?_⟩
          intro j hjk
          by_cases e : j = k
          · subst e; exact HX.out
          · exact hj.out j (by omega)
        case measure => simp [intOf]; omega
      · go_wp2_with fail
        go_ret
        exact ⟨ret_int (findG_hit p xs k hlt hj.out HX.out).symm, HB1.out⟩
    · go_wp2_with fail
      go_ret
      exact ⟨ret_int (findG_miss p xs (fun j h => hj.out j (by omega))).symm, hb.out⟩
theorem name_X (x : Trp) (w : World) : Calls Tryz.prog 42 #[.agg #[.string (bs x.item), .string (bs x.truck), .int .i64 x.start, .int .i64 x.fin]] w (RetG w (.string (bs x.item))) := by
  go_enter Tryz.func42, Tryz.ntmps42
  go_wp2_with fail
  go_ret
  exact ⟨rfl, 0, _, (alloc_eq_grow _ _)⟩
theorem enter_nameX : ∀ args w, (callFunc 42 args).run Tryz.prog w = .ok (.enter 42 args) w := enters_of Tryz.func42 (by kernel_rfl) rfl
theorem enter_isX : ∀ args w, (callFunc 63 args).run Tryz.prog w = .ok (.enter 63 args) w := enters_of Tryz.func63 (by kernel_rfl) rfl
theorem is_X (x : Trp) (y : List UInt8) (b1 b2 : Nat) (w : World) (h1 : w.cell? ⟨b1, 0, none⟩ = some (.func (.func 42) #[] #[])) (h2 : w.cell? ⟨b2, 0, none⟩ = some (.string (bs y))) :
    Calls Tryz.prog 63 #[.agg #[.string (bs x.item), .string (bs x.truck), .int .i64 x.start, .int .i64 x.fin], .pointer (some ⟨b1, 0, none⟩), .pointer (some ⟨b2, 0, none⟩)] w (Ret w (.bool (x.item == y))) := by
  have HN := Lib.hid (name_X x)
  have HE := Lib.hid (bs_eq x.item y)
  have en := enter_nameX
  have mixed : Tryz.prog.follows .mixedOrders = true := by kernel_rfl
  have hb1 : b1 < w.heap.size := World.block_lt_of_cell? w _ h1
  have hb2 : b2 < w.heap.size := World.block_lt_of_cell? w _ h2
  obtain ⟨W, hW⟩ : ∃ W, W = w.alloc (.cells #[.string (bs x.item), .string (bs x.truck), .int .i64 x.start, .int .i64 x.fin] 43) := ⟨_, rfl⟩
  have k1 : ∀ n os, (grow (W.drewN n) os).cell? ⟨b1, 0, none⟩ = some (.func (.func 42) #[] #[]) := cell_grown (by show b1 < _; rw [hW]; simp; omega) (by rw [hW]; exact cell_alloc' h1 _)
  have k2 : ∀ n os, (grow (W.drewN n) os).cell? ⟨b2, 0, none⟩ = some (.string (bs y)) := cell_grown (by show b2 < _; rw [hW]; simp; omega) (by rw [hW]; exact cell_alloc' h2 _)
  have j0 : ∀ n os, (grow (W.drewN n) os).cell? ⟨w.heap.size, 0, none⟩ = some (.string (bs x.item)) := cell_grown (by rw [hW]; simp) (by rw [hW]; simp)
  have j1 : ∀ n os, (grow (W.drewN n) os).cell? ⟨w.heap.size, 1, none⟩ = some (.string (bs x.truck)) := cell_grown (by rw [hW]; simp) (by rw [hW]; simp)
  have j2 : ∀ n os, (grow (W.drewN n) os).cell? ⟨w.heap.size, 2, none⟩ = some (.int .i64 x.start) := cell_grown (by rw [hW]; simp) (by rw [hW]; simp)
  have j3 : ∀ n os, (grow (W.drewN n) os).cell? ⟨w.heap.size, 3, none⟩ = some (.int .i64 x.fin) := cell_grown (by rw [hW]; simp) (by rw [hW]; simp)
  have HB : Hid (∀ q os, Below w.heap.size w (grow (W.drewN q) os)) := fun q os => ext_trans (by rw [hW]; exact (Below.refl _ _).alloc (Nat.le_refl _) _) (below_grow W q os)
  go_enter Tryz.func63, Tryz.ntmps63
  go_wp2_with fail
  rw [← hW]
  clear hW h1 h2
  go_quiet_grown (exact Calls.grown_of (HN.out _))
  go_wp2_with fail
  go_ret
  exact ⟨ret_bool HE.out, HB.out _ _⟩
set_option maxHeartbeats 800000 in
theorem find_X (v : Value) (x : List UInt8) (xs : List Trp) (w : World) (h : SX w v xs) :
    Calls Tryz.prog 41 #[v, .string (bs x), .func (.func 42) #[] #[]] w (Ret w (.int .i64 (findG (fun m => m.item == x) xs))) := by
  have HI := Lib.hid (fun (w1 : World) (b1 b2 : Nat) (hb : Below w.heap.size w w1) (h1 : w1.cell? ⟨b1, 0, none⟩ = some (.func (.func 42) #[] #[])) (h2 : w1.cell? ⟨b2, 0, none⟩ = some (.string (bs x))) =>
    indexFunc_X (.func (.func 63) #[] #[.pointer (some ⟨b1, 0, none⟩), .pointer (some ⟨b2, 0, none⟩)]) v (fun m => m.item == x) xs w1 (h.keep hb) ⟨_, _, rfl, enter_isX, fun y w2 hb2 => is_X y x b1 b2 w2 (cell_keep hb2 h1) (cell_keep hb2 h2)⟩)
  obtain ⟨a, n, c, rfl⟩ : ∃ a n c, v = .slice a n c := by obtain ⟨a, cap, rfl, _⟩ := h; exact ⟨_, _, _, rfl⟩
  clear h
  go_enter Tryz.func41, Tryz.ntmps41
  go_wp2_with fail
  refine (HI.out _ _ _ (((Below.refl _ _).alloc (Nat.le_refl _) _).alloc (by simp) _) (by simp) (by simp)).mono ?_
  rintro e w1 ⟨rfl, hb⟩
  have HB := Lib.hid (ext_trans (((Below.refl _ _).alloc (Nat.le_refl _) _).alloc (by simp) _) hb)
  clear hb
  go_wp2_with fail
  go_ret
  exact ⟨rfl, HB.out⟩

end Go.Proofs.YtpbmmdoodmbneaaGreatDoor
