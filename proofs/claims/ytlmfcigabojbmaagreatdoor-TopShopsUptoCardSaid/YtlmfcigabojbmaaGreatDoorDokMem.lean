/- Docks, berths and stays in memory. -/
import Derived.Test.YtlmfcigabojbmaaGreatDoorKit
import Derived.Test.YtlmfcigabojbmaaGreatDoorDokSpec
import Derived.Test.YtlmfcigabojbmaaGreatDoorGen
import Derived.Test.YtlmfcigabojbmaaGreatDoorObj
import Derived.Lib.Bytes
set_option linter.unusedSimpArgs false
set_option linter.unusedVariables false
namespace Go.Proofs.YtlmfcigabojbmaaGreatDoor
open Go.RowKit

def bs (l : List UInt8) : ByteArray := ⟨l.toArray⟩
theorem bs_list (l : List UInt8) : (bs l).data.toList = l := rfl
theorem bs_of (s : ByteArray) : bs s.data.toList = s := by cases s; simp [bs]
theorem bs_size (l : List UInt8) : (bs l).size = l.length := by simp [bs, ByteArray.size]
theorem bs_inj {a b : List UInt8} (h : bs a = bs b) : a = b := by rw [← bs_list a, h, bs_list]
theorem bs_toList (l : List UInt8) : (bs l).toList = l := by rw [Lib.toList_data, bs_list]
theorem bs_eq (a b : List UInt8) : ((bs a).toList == (bs b).toList) = (a == b) := by rw [bs_toList, bs_toList]

/-! DBay -/
def dyCells (x : DBay) : List Value := [.string (bs x.name), .int .i64 x.len, .int .i64 x.wid]
theorem dyCells_len (x : DBay) : (dyCells x).length = 3 := rfl
theorem byi_lt {l : List DBay} {k : Nat} (h : k < l.length) : byi l k = l[k] := by simp [byi, h]
theorem byi_mem {l : List DBay} {k : Nat} (h : k < l.length) : byi l k ∈ l := by rw [byi_lt h]; exact List.getElem_mem h
theorem mem_byi {l : List DBay} {x : DBay} (h : x ∈ l) : ∃ k, k < l.length ∧ byi l k = x := by
  obtain ⟨k, hk, rfl⟩ := List.mem_iff_getElem.1 h; exact ⟨k, hk, byi_lt hk⟩
theorem take_byi {l : List DBay} {k : Nat} (h : k < l.length) : l.take (k + 1) = l.take k ++ [byi l k] := by
  rw [List.take_succ_eq_append_getElem h, byi_lt h]
theorem byi_take {l : List DBay} {k n : Nat} (h : k < n) : byi (l.take n) k = byi l k := by
  simp [byi, List.getElem?_take, h]
structure DAt (w : World) (b off : Nat) (x : DBay) : Prop where
  c0 : w.cell? ⟨b, off, none⟩ = some (.string (bs x.name))
  c1 : w.cell? ⟨b, off + 1, none⟩ = some (.int .i64 x.len)
  c2 : w.cell? ⟨b, off + 2, none⟩ = some (.int .i64 x.wid)
theorem DAt.keep {w w' : World} {b off : Nat} {x : DBay} (h : DAt w b off x) (hb : Below w.heap.size w w') : DAt w' b off x := ⟨cell_keep hb h.c0, cell_keep hb h.c1, cell_keep hb h.c2⟩
/-- a slice that reads as such a list -/
def SD (w : World) (v : Value) (l : List DBay) : Prop :=
  ∃ a cap, v = .slice a l.length cap ∧ l.length ≤ cap ∧ cap ≤ maxLen ∧ ∀ i, i < l.length → ∃ b off, a = some ⟨b, off, none⟩ ∧ DAt w b (off + i * 3) (byi l i)
theorem SD.keep {w w' : World} {v : Value} {l : List DBay} (h : SD w v l) (hb : Below w.heap.size w w') : SD w' v l := by
  obtain ⟨a, cap, rfl, h1, h2, h3⟩ := h
  exact ⟨a, cap, rfl, h1, h2, fun i hi => by obtain ⟨b, off, ha, hc⟩ := h3 i hi; exact ⟨b, off, ha, hc.keep hb⟩⟩
theorem SD.len {w : World} {v : Value} {l : List DBay} (h : SD w v l) : l.length ≤ maxLen := by obtain ⟨a, cap, _, h1, h2, _⟩ := h; omega
theorem SD_nil (w : World) : SD w (.slice none 0 0) [] := ⟨none, 0, rfl, Nat.le_refl _, Nat.zero_le _, fun i hi => by simp at hi⟩
theorem SD.form {w : World} {v : Value} {l : List DBay} (h : SD w v l) (hl : 1 ≤ l.length) : ∃ b off cap, v = .slice (some ⟨b, off, none⟩) l.length cap ∧ l.length ≤ cap ∧ cap ≤ maxLen ∧ b < w.heap.size ∧ ∀ i, i < l.length → DAt w b (off + i * 3) (byi l i) := by
  obtain ⟨a, cap, rfl, h1, h2, h3⟩ := h
  obtain ⟨b, off, rfl, hc⟩ := h3 0 (by omega)
  refine ⟨b, off, cap, rfl, h1, h2, World.block_lt_of_cell? w _ hc.c0, fun i hi => ?_⟩
  obtain ⟨b', off', ha, hc'⟩ := h3 i hi
  have ha := Option.some.inj ha
  simp only [Addr.mk.injEq] at ha
  obtain ⟨rfl, rfl, _⟩ := ha
  exact hc'
theorem SD.take {w : World} {a : Option Addr} {n cap : Nat} {l : List DBay} (h : SD w (.slice a n cap) l) (k : Nat) (hk : k ≤ l.length) : SD w (.slice a k cap) (l.take k) := by
  obtain ⟨a', cap', he, h1, h2, h3⟩ := h
  simp at he
  obtain ⟨rfl, rfl, rfl⟩ := he
  have hl : (l.take k).length = k := by simp; omega
  refine ⟨a, cap, by rw [hl], by omega, h2, fun i hi => ?_⟩
  rw [hl] at hi
  obtain ⟨b, off, ha, hc⟩ := h3 i (by omega)
  exact ⟨b, off, ha, by rw [byi_take hi]; exact hc⟩
theorem SD.at {w : World} {a : Option Addr} {n cap : Nat} {l : List DBay} (h : SD w (.slice a n cap) l) {i : Nat} (hi : i < l.length) : ∃ b off, a = some ⟨b, off, none⟩ ∧ DAt w b (off + i * 3) (byi l i) := by
  obtain ⟨a', cap', he, h1, h2, h3⟩ := h
  simp at he
  obtain ⟨rfl, rfl, rfl⟩ := he
  exact h3 i hi
theorem SD.n {w : World} {a : Option Addr} {n cap : Nat} {l : List DBay} (h : SD w (.slice a n cap) l) : n = l.length := by
  obtain ⟨a', cap', he, _⟩ := h
  simp at he
  exact he.2.1
def OwnD (w : World) (B : Nat) (v : Value) (l : List DBay) : Prop := w.ownsRow B 25 3 v l.length (l.flatMap dyCells)
theorem OwnD_nil (w : World) (B : Nat) : OwnD w B (.slice none 0 0) [] := World.ownsRow_nil _ _ _ _
theorem OwnD.below {w w' : World} {B : Nat} {v : Value} {l : List DBay} (h : OwnD w B v l) (hb : Below w.heap.size w w') : OwnD w' B v l := owns_below h hb
theorem OwnD.alloc {w : World} {B : Nat} {v : Value} {l : List DBay} (h : OwnD w B v l) (o : Obj) : OwnD (w.alloc o) B v l := World.ownsRow.alloc h o
theorem OwnD.mono {w : World} {B B' : Nat} {v : Value} {l : List DBay} (h : OwnD w B v l) (hb : B' ≤ B) : OwnD w B' v l := owns_mono h hb
theorem OwnD.lt {w : World} {B : Nat} {v : Value} {l : List DBay} (h : OwnD w B v l) (k : Nat) (hk : v.ownBlock = some k) : B ≤ k ∧ k < w.heap.size := World.ownsRow.lt h k hk
theorem OwnD.at {w : World} {B g n cap : Nat} {l : List DBay} (h : OwnD w B (.slice (some ⟨g, 0, none⟩) n cap) l) {i : Nat} (hi : i < l.length) : DAt w g (i * 3) (byi l i) := by
  have h0 : w.ownsRow B 25 3 (.slice (some ⟨g, 0, none⟩) n cap) l.length (l.flatMap dyCells) := h
  rcases own_flat_form h0 with ⟨hn, _⟩ | ⟨g', cap', he, _, _, _, _, hc⟩
  · cases hn
  · simp at he
    obtain ⟨rfl, _, _⟩ := he
    have key : ∀ j, j < 3 → w.cell? ⟨g, i * 3 + j, none⟩ = (dyCells (byi l i))[j]? := fun j hj => by
      rw [hc (i * 3 + j) (by omega), flat_get dyCells dyCells_len l i j hi hj, byi_lt hi]
    exact ⟨key 0 (by omega), key 1 (by omega), key 2 (by omega)⟩
theorem OwnD.s {w : World} {B : Nat} {v : Value} {l : List DBay} (h : OwnD w B v l) : SD w v l := by
  rcases own_flat_form h with ⟨rfl, rfl⟩ | ⟨g, cap, rfl, _, _, hn, hm, _⟩
  · exact SD_nil w
  · exact ⟨_, cap, rfl, hn, hm, fun i hi => ⟨g, 0, rfl, by rw [Nat.zero_add]; exact OwnD.at h hi⟩⟩

/-! Ber -/
def beCells (x : Ber) : List Value := [.string (bs x.hull), .string (bs x.dock), .int .i64 x.x, .int .i64 x.y, .int .i64 x.len, .int .i64 x.wid, .int .i64 x.a, .int .i64 x.b]
theorem beCells_len (x : Ber) : (beCells x).length = 8 := rfl
theorem take_bri {l : List Ber} {k : Nat} (h : k < l.length) : l.take (k + 1) = l.take k ++ [bri l k] := by
  rw [List.take_succ_eq_append_getElem h, bri_lt h]
theorem bri_take {l : List Ber} {k n : Nat} (h : k < n) : bri (l.take n) k = bri l k := by
  simp [bri, List.getElem?_take, h]
structure BAt (w : World) (b off : Nat) (x : Ber) : Prop where
  c0 : w.cell? ⟨b, off, none⟩ = some (.string (bs x.hull))
  c1 : w.cell? ⟨b, off + 1, none⟩ = some (.string (bs x.dock))
  c2 : w.cell? ⟨b, off + 2, none⟩ = some (.int .i64 x.x)
  c3 : w.cell? ⟨b, off + 3, none⟩ = some (.int .i64 x.y)
  c4 : w.cell? ⟨b, off + 4, none⟩ = some (.int .i64 x.len)
  c5 : w.cell? ⟨b, off + 5, none⟩ = some (.int .i64 x.wid)
  c6 : w.cell? ⟨b, off + 6, none⟩ = some (.int .i64 x.a)
  c7 : w.cell? ⟨b, off + 7, none⟩ = some (.int .i64 x.b)
theorem BAt.keep {w w' : World} {b off : Nat} {x : Ber} (h : BAt w b off x) (hb : Below w.heap.size w w') : BAt w' b off x := ⟨cell_keep hb h.c0, cell_keep hb h.c1, cell_keep hb h.c2, cell_keep hb h.c3, cell_keep hb h.c4, cell_keep hb h.c5, cell_keep hb h.c6, cell_keep hb h.c7⟩
/-- a slice that reads as such a list -/
def SB (w : World) (v : Value) (l : List Ber) : Prop :=
  ∃ a cap, v = .slice a l.length cap ∧ l.length ≤ cap ∧ cap ≤ maxLen ∧ ∀ i, i < l.length → ∃ b off, a = some ⟨b, off, none⟩ ∧ BAt w b (off + i * 8) (bri l i)
theorem SB.keep {w w' : World} {v : Value} {l : List Ber} (h : SB w v l) (hb : Below w.heap.size w w') : SB w' v l := by
  obtain ⟨a, cap, rfl, h1, h2, h3⟩ := h
  exact ⟨a, cap, rfl, h1, h2, fun i hi => by obtain ⟨b, off, ha, hc⟩ := h3 i hi; exact ⟨b, off, ha, hc.keep hb⟩⟩
theorem SB.len {w : World} {v : Value} {l : List Ber} (h : SB w v l) : l.length ≤ maxLen := by obtain ⟨a, cap, _, h1, h2, _⟩ := h; omega
theorem SB_nil (w : World) : SB w (.slice none 0 0) [] := ⟨none, 0, rfl, Nat.le_refl _, Nat.zero_le _, fun i hi => by simp at hi⟩
theorem SB.form {w : World} {v : Value} {l : List Ber} (h : SB w v l) (hl : 1 ≤ l.length) : ∃ b off cap, v = .slice (some ⟨b, off, none⟩) l.length cap ∧ l.length ≤ cap ∧ cap ≤ maxLen ∧ b < w.heap.size ∧ ∀ i, i < l.length → BAt w b (off + i * 8) (bri l i) := by
  obtain ⟨a, cap, rfl, h1, h2, h3⟩ := h
  obtain ⟨b, off, rfl, hc⟩ := h3 0 (by omega)
  refine ⟨b, off, cap, rfl, h1, h2, World.block_lt_of_cell? w _ hc.c0, fun i hi => ?_⟩
  obtain ⟨b', off', ha, hc'⟩ := h3 i hi
  have ha := Option.some.inj ha
  simp only [Addr.mk.injEq] at ha
  obtain ⟨rfl, rfl, _⟩ := ha
  exact hc'
theorem SB.take {w : World} {a : Option Addr} {n cap : Nat} {l : List Ber} (h : SB w (.slice a n cap) l) (k : Nat) (hk : k ≤ l.length) : SB w (.slice a k cap) (l.take k) := by
  obtain ⟨a', cap', he, h1, h2, h3⟩ := h
  simp at he
  obtain ⟨rfl, rfl, rfl⟩ := he
  have hl : (l.take k).length = k := by simp; omega
  refine ⟨a, cap, by rw [hl], by omega, h2, fun i hi => ?_⟩
  rw [hl] at hi
  obtain ⟨b, off, ha, hc⟩ := h3 i (by omega)
  exact ⟨b, off, ha, by rw [bri_take hi]; exact hc⟩
theorem SB.at {w : World} {a : Option Addr} {n cap : Nat} {l : List Ber} (h : SB w (.slice a n cap) l) {i : Nat} (hi : i < l.length) : ∃ b off, a = some ⟨b, off, none⟩ ∧ BAt w b (off + i * 8) (bri l i) := by
  obtain ⟨a', cap', he, h1, h2, h3⟩ := h
  simp at he
  obtain ⟨rfl, rfl, rfl⟩ := he
  exact h3 i hi
theorem SB.n {w : World} {a : Option Addr} {n cap : Nat} {l : List Ber} (h : SB w (.slice a n cap) l) : n = l.length := by
  obtain ⟨a', cap', he, _⟩ := h
  simp at he
  exact he.2.1
def OwnB (w : World) (B : Nat) (v : Value) (l : List Ber) : Prop := w.ownsRow B 50 8 v l.length (l.flatMap beCells)
theorem OwnB_nil (w : World) (B : Nat) : OwnB w B (.slice none 0 0) [] := World.ownsRow_nil _ _ _ _
theorem OwnB.below {w w' : World} {B : Nat} {v : Value} {l : List Ber} (h : OwnB w B v l) (hb : Below w.heap.size w w') : OwnB w' B v l := owns_below h hb
theorem OwnB.alloc {w : World} {B : Nat} {v : Value} {l : List Ber} (h : OwnB w B v l) (o : Obj) : OwnB (w.alloc o) B v l := World.ownsRow.alloc h o
theorem OwnB.mono {w : World} {B B' : Nat} {v : Value} {l : List Ber} (h : OwnB w B v l) (hb : B' ≤ B) : OwnB w B' v l := owns_mono h hb
theorem OwnB.lt {w : World} {B : Nat} {v : Value} {l : List Ber} (h : OwnB w B v l) (k : Nat) (hk : v.ownBlock = some k) : B ≤ k ∧ k < w.heap.size := World.ownsRow.lt h k hk
theorem OwnB.at {w : World} {B g n cap : Nat} {l : List Ber} (h : OwnB w B (.slice (some ⟨g, 0, none⟩) n cap) l) {i : Nat} (hi : i < l.length) : BAt w g (i * 8) (bri l i) := by
  have h0 : w.ownsRow B 50 8 (.slice (some ⟨g, 0, none⟩) n cap) l.length (l.flatMap beCells) := h
  rcases own_flat_form h0 with ⟨hn, _⟩ | ⟨g', cap', he, _, _, _, _, hc⟩
  · cases hn
  · simp at he
    obtain ⟨rfl, _, _⟩ := he
    have key : ∀ j, j < 8 → w.cell? ⟨g, i * 8 + j, none⟩ = (beCells (bri l i))[j]? := fun j hj => by
      rw [hc (i * 8 + j) (by omega), flat_get beCells beCells_len l i j hi hj, bri_lt hi]
    exact ⟨key 0 (by omega), key 1 (by omega), key 2 (by omega), key 3 (by omega), key 4 (by omega), key 5 (by omega), key 6 (by omega), key 7 (by omega)⟩
theorem OwnB.s {w : World} {B : Nat} {v : Value} {l : List Ber} (h : OwnB w B v l) : SB w v l := by
  rcases own_flat_form h with ⟨rfl, rfl⟩ | ⟨g, cap, rfl, _, _, hn, hm, _⟩
  · exact SB_nil w
  · exact ⟨_, cap, rfl, hn, hm, fun i hi => ⟨g, 0, rfl, by rw [Nat.zero_add]; exact OwnB.at h hi⟩⟩

/-! Ber -/
def syCells (x : Ber) : List Value := [.string (bs x.hull), .string (bs x.dock), .int .i64 x.x, .int .i64 x.y, .int .i64 x.len, .int .i64 x.wid, .int .i64 x.a, .int .i64 x.b]
theorem syCells_len (x : Ber) : (syCells x).length = 8 := rfl
structure YAt (w : World) (b off : Nat) (x : Ber) : Prop where
  c0 : w.cell? ⟨b, off, none⟩ = some (.string (bs x.hull))
  c1 : w.cell? ⟨b, off + 1, none⟩ = some (.string (bs x.dock))
  c2 : w.cell? ⟨b, off + 2, none⟩ = some (.int .i64 x.x)
  c3 : w.cell? ⟨b, off + 3, none⟩ = some (.int .i64 x.y)
  c4 : w.cell? ⟨b, off + 4, none⟩ = some (.int .i64 x.len)
  c5 : w.cell? ⟨b, off + 5, none⟩ = some (.int .i64 x.wid)
  c6 : w.cell? ⟨b, off + 6, none⟩ = some (.int .i64 x.a)
  c7 : w.cell? ⟨b, off + 7, none⟩ = some (.int .i64 x.b)
theorem YAt.keep {w w' : World} {b off : Nat} {x : Ber} (h : YAt w b off x) (hb : Below w.heap.size w w') : YAt w' b off x := ⟨cell_keep hb h.c0, cell_keep hb h.c1, cell_keep hb h.c2, cell_keep hb h.c3, cell_keep hb h.c4, cell_keep hb h.c5, cell_keep hb h.c6, cell_keep hb h.c7⟩
/-- a slice that reads as such a list -/
def SY (w : World) (v : Value) (l : List Ber) : Prop :=
  ∃ a cap, v = .slice a l.length cap ∧ l.length ≤ cap ∧ cap ≤ maxLen ∧ ∀ i, i < l.length → ∃ b off, a = some ⟨b, off, none⟩ ∧ YAt w b (off + i * 8) (bri l i)
theorem SY.keep {w w' : World} {v : Value} {l : List Ber} (h : SY w v l) (hb : Below w.heap.size w w') : SY w' v l := by
  obtain ⟨a, cap, rfl, h1, h2, h3⟩ := h
  exact ⟨a, cap, rfl, h1, h2, fun i hi => by obtain ⟨b, off, ha, hc⟩ := h3 i hi; exact ⟨b, off, ha, hc.keep hb⟩⟩
theorem SY.len {w : World} {v : Value} {l : List Ber} (h : SY w v l) : l.length ≤ maxLen := by obtain ⟨a, cap, _, h1, h2, _⟩ := h; omega
theorem SY_nil (w : World) : SY w (.slice none 0 0) [] := ⟨none, 0, rfl, Nat.le_refl _, Nat.zero_le _, fun i hi => by simp at hi⟩
theorem SY.form {w : World} {v : Value} {l : List Ber} (h : SY w v l) (hl : 1 ≤ l.length) : ∃ b off cap, v = .slice (some ⟨b, off, none⟩) l.length cap ∧ l.length ≤ cap ∧ cap ≤ maxLen ∧ b < w.heap.size ∧ ∀ i, i < l.length → YAt w b (off + i * 8) (bri l i) := by
  obtain ⟨a, cap, rfl, h1, h2, h3⟩ := h
  obtain ⟨b, off, rfl, hc⟩ := h3 0 (by omega)
  refine ⟨b, off, cap, rfl, h1, h2, World.block_lt_of_cell? w _ hc.c0, fun i hi => ?_⟩
  obtain ⟨b', off', ha, hc'⟩ := h3 i hi
  have ha := Option.some.inj ha
  simp only [Addr.mk.injEq] at ha
  obtain ⟨rfl, rfl, _⟩ := ha
  exact hc'
theorem SY.take {w : World} {a : Option Addr} {n cap : Nat} {l : List Ber} (h : SY w (.slice a n cap) l) (k : Nat) (hk : k ≤ l.length) : SY w (.slice a k cap) (l.take k) := by
  obtain ⟨a', cap', he, h1, h2, h3⟩ := h
  simp at he
  obtain ⟨rfl, rfl, rfl⟩ := he
  have hl : (l.take k).length = k := by simp; omega
  refine ⟨a, cap, by rw [hl], by omega, h2, fun i hi => ?_⟩
  rw [hl] at hi
  obtain ⟨b, off, ha, hc⟩ := h3 i (by omega)
  exact ⟨b, off, ha, by rw [bri_take hi]; exact hc⟩
theorem SY.at {w : World} {a : Option Addr} {n cap : Nat} {l : List Ber} (h : SY w (.slice a n cap) l) {i : Nat} (hi : i < l.length) : ∃ b off, a = some ⟨b, off, none⟩ ∧ YAt w b (off + i * 8) (bri l i) := by
  obtain ⟨a', cap', he, h1, h2, h3⟩ := h
  simp at he
  obtain ⟨rfl, rfl, rfl⟩ := he
  exact h3 i hi
theorem SY.n {w : World} {a : Option Addr} {n cap : Nat} {l : List Ber} (h : SY w (.slice a n cap) l) : n = l.length := by
  obtain ⟨a', cap', he, _⟩ := h
  simp at he
  exact he.2.1
def OwnY (w : World) (B : Nat) (v : Value) (l : List Ber) : Prop := w.ownsRow B 50 8 v l.length (l.flatMap syCells)
theorem OwnY_nil (w : World) (B : Nat) : OwnY w B (.slice none 0 0) [] := World.ownsRow_nil _ _ _ _
theorem OwnY.below {w w' : World} {B : Nat} {v : Value} {l : List Ber} (h : OwnY w B v l) (hb : Below w.heap.size w w') : OwnY w' B v l := owns_below h hb
theorem OwnY.alloc {w : World} {B : Nat} {v : Value} {l : List Ber} (h : OwnY w B v l) (o : Obj) : OwnY (w.alloc o) B v l := World.ownsRow.alloc h o
theorem OwnY.mono {w : World} {B B' : Nat} {v : Value} {l : List Ber} (h : OwnY w B v l) (hb : B' ≤ B) : OwnY w B' v l := owns_mono h hb
theorem OwnY.lt {w : World} {B : Nat} {v : Value} {l : List Ber} (h : OwnY w B v l) (k : Nat) (hk : v.ownBlock = some k) : B ≤ k ∧ k < w.heap.size := World.ownsRow.lt h k hk
theorem OwnY.at {w : World} {B g n cap : Nat} {l : List Ber} (h : OwnY w B (.slice (some ⟨g, 0, none⟩) n cap) l) {i : Nat} (hi : i < l.length) : YAt w g (i * 8) (bri l i) := by
  have h0 : w.ownsRow B 50 8 (.slice (some ⟨g, 0, none⟩) n cap) l.length (l.flatMap syCells) := h
  rcases own_flat_form h0 with ⟨hn, _⟩ | ⟨g', cap', he, _, _, _, _, hc⟩
  · cases hn
  · simp at he
    obtain ⟨rfl, _, _⟩ := he
    have key : ∀ j, j < 8 → w.cell? ⟨g, i * 8 + j, none⟩ = (syCells (bri l i))[j]? := fun j hj => by
      rw [hc (i * 8 + j) (by omega), flat_get syCells syCells_len l i j hi hj, bri_lt hi]
    exact ⟨key 0 (by omega), key 1 (by omega), key 2 (by omega), key 3 (by omega), key 4 (by omega), key 5 (by omega), key 6 (by omega), key 7 (by omega)⟩
theorem OwnY.s {w : World} {B : Nat} {v : Value} {l : List Ber} (h : OwnY w B v l) : SY w v l := by
  rcases own_flat_form h with ⟨rfl, rfl⟩ | ⟨g, cap, rfl, _, _, hn, hm, _⟩
  · exact SY_nil w
  · exact ⟨_, cap, rfl, hn, hm, fun i hi => ⟨g, 0, rfl, by rw [Nat.zero_add]; exact OwnY.at h hi⟩⟩

end Go.Proofs.YtlmfcigabojbmaaGreatDoor
