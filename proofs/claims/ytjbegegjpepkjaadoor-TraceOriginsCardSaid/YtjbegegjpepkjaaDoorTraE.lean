/- Contracts of the register: New, find. -/
import Derived.Test.YtjbegegjpepkjaaDoorTraD
namespace Go.Proofs.YtjbegegjpepkjaaDoor
open Go.RowKit Go.Maps

/-- The register at block rb, made since the heap had B blocks, has the links l. -/
structure RegM (B rb bm : Nat) (v : Value) (D : DataW Unit) (l : List Lnk) (w : World) : Prop where
  blk : w.heap[rb]? = some (.cells #[v, .map (some bm)] 49 (0, 0))
  own : OwnK w B v l
  mp : w.ownsMap Tryd.prog 9 (plainElem Tryd.prog 3) bm l.length D
  map : MapOf D l
  reg : RegP l
  h1 : B ≤ rb
  h2 : B ≤ bm
  h3 : rb ≠ bm
  h4 : ∀ k, v.ownBlock = some k → k ≠ rb ∧ k ≠ bm
  h5 : l.length ≤ 4096
  h6 : ∀ x ∈ l, x.item.length ≤ 64 ∧ x.frm.length ≤ 64 ∧ x.heat.length ≤ 16 ∧ x.hash < 18446744073709551616
def RegW (B rb : Nat) (l : List Lnk) (w : World) : Prop := ∃ bm v D, RegM B rb bm v D l w
theorem RegM.c0 {B rb bm : Nat} {v : Value} {D : DataW Unit} {l : List Lnk} {w : World} (h : RegM B rb bm v D l w) : w.cell? ⟨rb, 0, none⟩ = some v := by
  rw [cell_of_row w rb 0 _ _ _ h.blk]; rfl
theorem RegM.c1 {B rb bm : Nat} {v : Value} {D : DataW Unit} {l : List Lnk} {w : World} (h : RegM B rb bm v D l w) : w.cell? ⟨rb, 1, none⟩ = some (.map (some bm)) := by
  rw [cell_of_row w rb 1 _ _ _ h.blk]; rfl
theorem RegM.lt {B rb bm : Nat} {v : Value} {D : DataW Unit} {l : List Lnk} {w : World} (h : RegM B rb bm v D l w) : rb < w.heap.size := (Array.getElem?_eq_some_iff.1 h.blk).1
theorem owns_map_keep {w w' : World} {k : TypeId} {R : Value → Option (DataW Unit × List MemPlace)} {b n : Nat} {D : DataW Unit} (h : w.ownsMap Tryd.prog k R b n D) (hb : Below w.heap.size w w') : w'.ownsMap Tryd.prog k R b n D := by
  obtain ⟨es, clock, h1, r⟩ := h
  exact ⟨es, clock, by rw [hb.block b (Array.getElem?_eq_some_iff.1 h1).1]; exact h1, r⟩
theorem RegM.keep {B rb bm : Nat} {v : Value} {D : DataW Unit} {l : List Lnk} {w w' : World} (h : RegM B rb bm v D l w) (hb : Below w.heap.size w w') : RegM B rb bm v D l w' :=
  ⟨by rw [hb.block rb h.lt]; exact h.blk, h.own.below hb, owns_map_keep h.mp hb, h.map, h.reg, h.h1, h.h2, h.h3, h.h4, h.h5, h.h6⟩
theorem RegW.keep {B rb : Nat} {l : List Lnk} {w w' : World} (h : RegW B rb l w) (hb : Below w.heap.size w w') : RegW B rb l w' := by
  obtain ⟨bm, v, D, h⟩ := h; exact ⟨bm, v, D, h.keep hb⟩

def lkArr (x : Lnk) : Array Value := #[.string (bs x.item), .string (bs x.frm), .string (bs x.heat), .int .i64 x.tm, .int .u64 x.hash]
def noArr : Array Value := #[.string ⟨#[]⟩, .string ⟨#[]⟩, .string ⟨#[]⟩, .int .i64 0, .int .u64 0]

theorem New_any (w : World) : Calls Tryd.prog 11 #[] w fun e w' => ∃ rb, e = .returned (.pointer (some ⟨rb, 0, none⟩)) ∧ RegW w.heap.size rb [] w' ∧ Below w.heap.size w w' := by
  have hmm := @run_makeMap Tryd.prog
  go_enter Tryd.func11, Tryd.ntmps11
  go_wp2_with fail
  go_ret
  refine ⟨w.heap.size + 1, rfl, ⟨w.heap.size, _, .map [], ?_, OwnK_nil _ _, (World.ownsMap_made w _ _ _).alloc _, MapOf.nil, RegP.nil, by omega, Nat.le_refl _, by omega, fun k hk => by simp [Value.ownBlock] at hk, by simp, by simp⟩, ((Below.refl _ _).alloc (Nat.le_refl _) _).alloc (by simp) _⟩
  have : (w.alloc (.map #[] 0)).heap.size = w.heap.size + 1 := by simp
  rw [← this]
  exact (MapKept.heap_alloc _ _).1

set_option maxHeartbeats 1000000 in
set_option maxRecDepth 100000 in
theorem find_yes (B rb : Nat) (l : List Lnk) (s : ByteArray) (w : World) (h : RegW B rb l w) (hs : s.size ≤ maxLen) (x : Lnk) (hx : fnd l s.data.toList = some x) :
    Calls Tryd.prog 22 #[.pointer (some ⟨rb, 0, none⟩), .string s] w (Ret w (.tuple #[.agg (lkArr x), .bool true])) := by
  obtain ⟨bm, v, D, h⟩ := h
  have c0 := h.c0
  have c1 := h.c1
  have hrl := h.lt
  have hown := h.mp
  have hkey := keyK hs
  obtain ⟨hm, hit⟩ := fnd_mem hx
  obtain ⟨i, hi⟩ := List.getElem?_of_mem hm
  obtain ⟨hil, hki⟩ := ki_some hi
  obtain ⟨y1, y2⟩ := h.map.yes i x hi
  rw [hit] at y1 y2
  have Y1 := Lib.hid y1
  have Y2 := Lib.hid y2
  have hll := h.h5
  obtain ⟨a, cap, e1, n1, n2, n3⟩ := h.own.sk
  subst e1
  obtain ⟨b, off, ha, hc⟩ := n3 i hil
  subst ha
  rw [hki] at hc
  have d0 := hc.c0
  have d1 := hc.c1
  have d2 := hc.c2
  have d3 := hc.c3
  have d4 := hc.c4
  have hbl : b < w.heap.size := World.block_lt_of_cell? w _ d0
  unfold maxLen at n2
  clear hx hm hi y1 y2 n3 hki hc hit
  go_enter Tryd.func22, Tryd.ntmps22
  go_wp2_with (at_lookup; refine wpList_lookup_own_ok_int _ rfl _ _ 47 rfl 9 3 .i64 lawK Tryd.underlying47 Tryd.underlying3 (zeroK _) bm _ D rfl (hown.alloc _) _ _ rfl hkey ?_)
  intro c hat _
  have hci : c = i := by
    rw [Y2.out] at hat
    simpa using hat.symm
  subst hci
  rw [Y1.out]
  clear hat hown hkey
  go_wp2_with fail
  exact bodyPost_ret (v := .tuple #[.agg (lkArr x), .bool true]) (by simp [results, lkArr, Tryd.results22, go_sem]) rfl ⟨rfl, (Below.refl _ _).alloc (Nat.le_refl _) _⟩
set_option maxHeartbeats 1000000 in
set_option maxRecDepth 100000 in
theorem find_no (B rb : Nat) (l : List Lnk) (s : ByteArray) (w : World) (h : RegW B rb l w) (hs : s.size ≤ maxLen) (hx : fnd l s.data.toList = none) :
    Calls Tryd.prog 22 #[.pointer (some ⟨rb, 0, none⟩), .string s] w (Ret w (.tuple #[.agg noArr, .bool false])) := by
  obtain ⟨bm, v, D, h⟩ := h
  have c1 := h.c1
  have hrl := h.lt
  have hown := h.mp
  have hkey := keyK hs
  have Y1 := Lib.hid (h.map.no _ hx)
  clear hx h
  go_enter Tryd.func22, Tryd.ntmps22
  go_wp2_with (at_lookup; refine wpList_lookup_own_ok_int _ rfl _ _ 47 rfl 9 3 .i64 lawK Tryd.underlying47 Tryd.underlying3 (zeroK _) bm _ D rfl (hown.alloc _) _ _ rfl hkey ?_)
  intro c hat _
  rw [Y1.out]
  clear hat hown hkey
  go_wp2_with fail
  exact bodyPost_ret (v := .tuple #[.agg noArr, .bool false]) (by simp [results, noArr, Tryd.results22, go_sem]) rfl ⟨rfl, (Below.refl _ _).alloc (Nat.le_refl _) _⟩
end Go.Proofs.YtjbegegjpepkjaaDoor
