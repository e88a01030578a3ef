/- The register in memory: its links, its map; the text that is hashed. -/
import Derived.Test.YtjbegegjpepkjaaDoorTraC
import Derived.Test.YtjbegegjpepkjaaDoorIdG
import Derived.Test.YtjbegegjpepkjaaDoorTraSpec3
import Derived.Maps.OwnSet
import Derived.StringKeys
namespace Go.Proofs.YtjbegegjpepkjaaDoor
open Go.RowKit Go.Maps

theorem Itoa_any (n : Nat) (w : World) (hn : n ≤ 9223372036854775807) (hV : Vars w) : Calls Tryd.prog 25 #[.int .i64 n] w fun e w' => e = .returned (.string ⟨(Lib.decDigits n).toArray⟩) ∧ Below w.heap.size w w' := by
  refine (Tryd.strconv_Itoa n (by omega) (by omega) w hV.2.1).mono ?_
  rintro e w' ⟨rfl, k, os, rfl⟩
  refine ⟨?_, Lib.below_grow _ _ (Nat.le_refl _) _ _⟩
  rw [Lib.itoa_nonneg]

/-- a string of bytes -/
def bs (l : List UInt8) : ByteArray := ⟨l.toArray⟩
theorem bs_list (l : List UInt8) : (bs l).data.toList = l := rfl
theorem bs_of (s : ByteArray) : bs s.data.toList = s := (bytes_of s).symm
theorem bs_size (l : List UInt8) : (bs l).size = l.length := by rw [← size_data, bs_list]
theorem bs_inj {a b : List UInt8} (h : bs a = bs b) : a = b := by rw [← bs_list a, h, bs_list]

def lkCells (x : Lnk) : List Value := [.string (bs x.item), .string (bs x.frm), .string (bs x.heat), .int .i64 x.tm, .int .u64 x.hash]
theorem lkCells_len (x : Lnk) : (lkCells x).length = 5 := rfl
instance : Inhabited Lnk := ⟨⟨[], [], [], 0, 0⟩⟩
def ki (l : List Lnk) (k : Nat) : Lnk := l.getD k default
theorem ki_lt {l : List Lnk} {k : Nat} (h : k < l.length) : ki l k = l[k] := by simp [ki, h]
theorem ki_some {l : List Lnk} {k : Nat} {x : Lnk} (h : l[k]? = some x) : k < l.length ∧ ki l k = x := by
  obtain ⟨h1, h2⟩ := List.getElem?_eq_some_iff.1 h; exact ⟨h1, by rw [ki_lt h1, h2]⟩
/-- the cells of a link at an address -/
structure LkAt (w : World) (b off : Nat) (x : Lnk) : Prop where
  c0 : w.cell? ⟨b, off, none⟩ = some (.string (bs x.item))
  c1 : w.cell? ⟨b, off + 1, none⟩ = some (.string (bs x.frm))
  c2 : w.cell? ⟨b, off + 2, none⟩ = some (.string (bs x.heat))
  c3 : w.cell? ⟨b, off + 3, none⟩ = some (.int .i64 x.tm)
  c4 : w.cell? ⟨b, off + 4, none⟩ = some (.int .u64 x.hash)
theorem LkAt.keep {w w' : World} {b off : Nat} {x : Lnk} (h : LkAt w b off x) (hb : Below w.heap.size w w') : LkAt w' b off x := ⟨cell_keep hb h.c0, cell_keep hb h.c1, cell_keep hb h.c2, cell_keep hb h.c3, cell_keep hb h.c4⟩
/-- a slice that reads as links -/
def SK (w : World) (v : Value) (l : List Lnk) : Prop :=
  ∃ a cap, v = .slice a l.length cap ∧ l.length ≤ cap ∧ cap ≤ maxLen ∧ ∀ i, i < l.length → ∃ b off, a = some ⟨b, off, none⟩ ∧ LkAt w b (off + i * 5) (ki l i)
theorem SK.keep {w w' : World} {v : Value} {l : List Lnk} (h : SK w v l) (hb : Below w.heap.size w w') : SK w' v l := by
  obtain ⟨a, cap, rfl, h1, h2, h3⟩ := h
  exact ⟨a, cap, rfl, h1, h2, fun i hi => by obtain ⟨b, off, ha, hc⟩ := h3 i hi; exact ⟨b, off, ha, hc.keep hb⟩⟩
theorem SK_nil (w : World) : SK w (.slice none 0 0) [] := ⟨none, 0, rfl, Nat.le_refl _, Nat.zero_le _, fun i hi => by simp at hi⟩
/-- links that a call owns -/
def OwnK (w : World) (B : Nat) (v : Value) (l : List Lnk) : Prop := w.ownsRow B 29 5 v l.length (l.flatMap lkCells)
theorem OwnK_nil (w : World) (B : Nat) : OwnK w B (.slice none 0 0) [] := World.ownsRow_nil _ _ _ _
theorem OwnK.below {w w' : World} {B : Nat} {v : Value} {l : List Lnk} (h : OwnK w B v l) (hb : Below w.heap.size w w') : OwnK w' B v l := owns_below h hb
theorem OwnK.alloc {w : World} {B : Nat} {v : Value} {l : List Lnk} (h : OwnK w B v l) (o : Obj) : OwnK (w.alloc o) B v l := World.ownsRow.alloc h o
theorem OwnK.lt {w : World} {B : Nat} {v : Value} {l : List Lnk} (h : OwnK w B v l) (k : Nat) (hk : v.ownBlock = some k) : B ≤ k ∧ k < w.heap.size := World.ownsRow.lt h k hk
theorem OwnK.sk {w : World} {B : Nat} {v : Value} {l : List Lnk} (h : OwnK w B v l) : SK w v l := by
  rcases own_flat_form h with ⟨rfl, rfl⟩ | ⟨g, cap, rfl, _, _, hn, hm, hc⟩
  · exact SK_nil w
  · refine ⟨_, cap, rfl, hn, hm, fun i hi => ⟨g, 0, rfl, ?_⟩⟩
    have key : ∀ j, j < 5 → w.cell? ⟨g, i * 5 + j, none⟩ = (lkCells (ki l i))[j]? := fun j hj => by
      rw [hc (i * 5 + j) (by omega), flat_get lkCells lkCells_len l i j hi hj, ki_lt hi]
    rw [Nat.zero_add]
    exact ⟨key 0 (by omega), key 1 (by omega), key 2 (by omega), key 3 (by omega), key 4 (by omega)⟩
theorem Tryd_infoLink : (Tryd.prog.info? 29).map (fun i => (i.zero, i.size, i.bytes)) = some (some (.agg #[.string ⟨#[]⟩, .string ⟨#[]⟩, .string ⟨#[]⟩, .int .i64 0, .int .u64 0]), 5, 64) := by kernel_rfl

/-! the map -/
theorem lawK : Keyed Tryd.prog 9 := string_keyed Tryd.underlying9
theorem zeroK (w : World) : (zeroValue 3).run Tryd.prog w = .ok (.int .i64 0) w := by kernel_rfl
theorem keyK {s : ByteArray} (h : s.size ≤ maxLen) : keyOf Tryd.prog 9 (.string s) = some (.string s.data.toList) := Go.WideMaps.keyOf_string_mk Tryd.underlying9 h
structure MapOf (D : DataW Unit) (l : List Lnk) : Prop where
  isMap : IsMap D
  no : ∀ x : List UInt8, fnd l x = none → Maps.has D (.string x) = false
  yes : ∀ (i : Nat) (y : Lnk), l[i]? = some y → Maps.has D (.string y.item) = true ∧ D.atKey (.string y.item) (.lit (.int .i64 0)) = .lit (.int .i64 i)
theorem MapOf.nil : MapOf (.map []) [] := ⟨isMap_empty, fun _ _ => rfl, fun i y h => by simp at h⟩
theorem fnd_append {l : List Lnk} {x : List UInt8} {y : Lnk} (h : fnd l x = none) : fnd (l ++ [y]) x = if y.item = x then some y else none := by
  unfold fnd at h ⊢
  rw [List.find?_append, h]
  by_cases e : y.item = x
  · rw [if_pos e]; simp [e]
  · rw [if_neg e]; simp [e]
theorem fnd_append_some {l : List Lnk} {x : List UInt8} {y z : Lnk} (h : fnd l x = some z) : fnd (l ++ [y]) x = some z := by
  unfold fnd at h ⊢
  rw [List.find?_append, h]; rfl
theorem MapOf.put {D : DataW Unit} {l : List Lnk} (h : MapOf D l) {y : Lnk} (hn : fnd l y.item = none) (hk : WideAt.IsKeyLit (.string y.item)) : MapOf (D.put (.string y.item) (.lit (.int .i64 l.length))) (l ++ [y]) := by
  refine ⟨h.isMap.put _ _, fun x hx => ?_, fun i z hz => ?_⟩
  · have hx2 : fnd l x = none := by
      cases e : fnd l x with
      | none => rfl
      | some z => rw [fnd_append_some e] at hx; cases hx
    rw [fnd_append hx2] at hx
    have hne : x ≠ y.item := fun e => by rw [if_pos e.symm] at hx; cases hx
    rw [has_put_other (by simpa using hne)]
    exact h.no x hx2
  · by_cases hi : i < l.length
    · rw [List.getElem?_append_left hi] at hz
      have hne : z.item ≠ y.item := fnd_none hn z (List.mem_of_getElem? hz)
      rw [has_put_other (by simpa using hne), atKey_put_other (by simpa using hne)]
      exact h.yes i z hz
    · rw [List.getElem?_append_right (by omega)] at hz
      have hl := (List.getElem?_eq_some_iff.1 hz).1
      simp at hl
      obtain rfl : i = l.length := by omega
      simp at hz
      subst hz
      exact ⟨has_put_same h.isMap hk _, atKey_put_same h.isMap hk _ _⟩
end Go.Proofs.YtjbegegjpepkjaaDoor
