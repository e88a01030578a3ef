/- Contract: place of dock. -/
import Derived.Test.YtlmfcigabojbmaaGreatDoorDokP0
set_option linter.unusedSimpArgs false
set_option linter.unusedVariables false
namespace Go.Proofs.YtlmfcigabojbmaaGreatDoor
open Go.RowKit

theorem bAt_new (w : World) (x : Ber) (e : TypeId) : BAt (w.alloc (.cells (syCs x) e)) w.heap.size 0 x := by
  have h := syC (ObjAt.new w (syCs x) e)
  exact ⟨h.c0, h.c1, h.c2, h.c3, h.c4, h.c5, h.c6, h.c7⟩
structure TiB (u : Ber) : Prop where
  x0 : 0 ≤ u.x
  x1 : u.x ≤ 524288
  y0 : 0 ≤ u.y
  y1 : u.y ≤ 524288
  l0 : 1 ≤ u.len
  l1 : u.len ≤ 524288
  w0 : 1 ≤ u.wid
  w1 : u.wid ≤ 524288
theorem TiB.sm {u : Ber} (h : TiB u) : SmB u := by
  obtain ⟨a, b, c, d, e, f, g, i⟩ := h
  constructor <;> unfold smallB <;> omega
theorem obs3 {C : World → Prop} {x y z : Ob} (hx : ∀ w, C w → w.rangeAt x.b x.off x.cells) (hy : ∀ w, C w → w.rangeAt y.b y.off y.cells) (hz : ∀ w, C w → w.rangeAt z.b z.off z.cells) : ObsIn C [x, y, z] := fun w hw k => by
  match k with
  | 0 => exact hx w hw
  | 1 => exact hy w hw
  | 2 => exact hz w hw
  | k + 3 => intro j v h; cases h
theorem tog_snoc (l : List Ber) (u x : Ber) : togB (l ++ [u]) x = (togB l x && (!(u.dock == x.dock && meetT x u) || decide (u.b = x.b))) := by
  unfold togB; rw [List.all_append]; simp
theorem beside_snoc (l : List Ber) (u x : Ber) : besideL (l ++ [u]) x = if (u.dock == x.dock && meetT x u) = true then besideL l x ++ [u] else besideL l x := by
  unfold besideL; rw [List.filter_append]
  cases h : (u.dock == x.dock && meetT x u) <;> simp [List.filter_cons, h]
theorem tog_take {l : List Ber} {x : Ber} {k : Nat} (h : togB (l.take k) x = false) : togB l x = false := by
  unfold togB at *
  rw [List.all_eq_false] at *
  obtain ⟨u, hu, h2⟩ := h
  exact ⟨u, List.mem_of_mem_take hu, h2⟩
theorem beside_len (l : List Ber) (x : Ber) : (besideL l x).length ≤ l.length := List.length_filter_le _ _
/-- what place returns -/
def PlaceV (d : DBay) (l : List Ber) (x : Ber) (v : Value) : Prop := (∃ X Y, PlaceP d l x X Y ∧ v = .tuple #[.agg (syCs (x.put X Y)), .bool true]) ∨ ((∀ X Y, ¬ PlaceP d l x X Y) ∧ v = .tuple #[.agg (syCs default), .bool false])
def RetP (w : World) (P : Value → Prop) (e : Ending) (w' : World) : Prop := ∃ v, e = .returned v ∧ P v ∧ Below w.heap.size w w'
theorem place_tog {d : DBay} {l : List Ber} {x : Ber} (h : togB l x = false) : PlaceV d l x (.tuple #[.agg (syCs default), .bool false]) :=
  .inr ⟨fun X Y hp => absurd (h.symm.trans hp.1) (by decide), rfl⟩
theorem any_congr' {α : Type} {p q : α → Bool} {l : List α} (h : ∀ u ∈ l, p u = q u) : l.any p = l.any q := by
  induction l with
  | nil => rfl
  | cons a l ih => rw [List.any_cons, List.any_cons, h a (by simp), ih fun u hu => h u (by simp [hu])]
theorem beside_mem {l : List Ber} {x u : Ber} (h : u ∈ besideL l x) : u ∈ l := (List.mem_filter.1 h).1
theorem put_sm {l : List Ber} {x : Ber} {X Y : Int} (h : ∀ u ∈ l, TiB u) (hl : 1 ≤ x.len ∧ x.len ≤ 524288) (hw : 1 ≤ x.wid ∧ x.wid ≤ 524288) (hX : X ∈ candX (besideL l x)) (hY : Y ∈ candY (besideL l x)) : 0 ≤ X ∧ X ≤ 1048576 ∧ 0 ≤ Y ∧ Y ≤ 1048576 ∧ SmB (x.put X Y) := by
  have a : 0 ≤ X ∧ X ≤ 1048576 := by
    unfold candX at hX
    rw [List.mem_cons, List.mem_map] at hX
    rcases hX with rfl | ⟨u, hu, rfl⟩
    · omega
    · obtain ⟨a, b, c, d, e, f, g, i⟩ := h u (beside_mem hu)
      omega
  have b : 0 ≤ Y ∧ Y ≤ 1048576 := by
    unfold candY at hY
    rw [List.mem_cons, List.mem_map] at hY
    rcases hY with rfl | ⟨u, hu, rfl⟩
    · omega
    · obtain ⟨a, b, c, d, e, f, g, i⟩ := h u (beside_mem hu)
      omega
  refine ⟨a.1, a.2, b.1, b.2, ?_⟩
  constructor <;> (unfold smallB Ber.put; dsimp only; omega)
theorem any_meet (l : List Ber) (x : Ber) (X Y : Int) : (besideL l x).any (fun u => meetT (x.put X Y) u && meetS (x.put X Y) u) = (besideL l x).any (fun u => meetS (x.put X Y) u) := by
  have : ∀ u ∈ besideL l x, (meetT (x.put X Y) u && meetS (x.put X Y) u) = meetS (x.put X Y) u := by
    intro u hu
    have h := (List.mem_filter.1 hu).2
    simp only [Bool.and_eq_true] at h
    rw [show meetT (x.put X Y) u = meetT x u from rfl, h.2]; rfl
  exact any_congr' this
theorem obj_free {w : World} {b : Nat} {xs : Array Value} {e : TypeId} (h : ObjAt w b xs e) (i : Nat) : w.frozen? ⟨b, i, none⟩ = false := by
  have : w.heap[b]? = some (.cells xs e) := h
  simp [World.frozen?, this]
end Go.Proofs.YtlmfcigabojbmaaGreatDoor
