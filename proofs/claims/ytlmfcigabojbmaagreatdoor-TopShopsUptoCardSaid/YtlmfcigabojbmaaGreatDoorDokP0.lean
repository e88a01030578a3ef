/- What place of dock keeps in memory. -/
import Derived.Test.YtlmfcigabojbmaaGreatDoorDokR
set_option linter.unusedSimpArgs false
set_option linter.unusedVariables false
namespace Go.Proofs.YtlmfcigabojbmaaGreatDoor
open Go.RowKit

theorem start_place (w : World) (d : DBay) (x : Ber) : ∃ W0 W1, Hid (ObjAt W0 w.heap.size (dyA d) 25) ∧ Hid (ObjAt W0 (w.heap.size + 1) (syCs x) 50) ∧ Hid (ObjAt W0 (w.heap.size + 1 + 1) (syCs default) 50) ∧ Hid (Below w.heap.size w W0) ∧ Hid (W0.heap.size = w.heap.size + 3) ∧
    Hid (Below W0.heap.size W0 W1) ∧ Hid (OwnI W1 W0.heap.size (.slice (some ⟨w.heap.size + 1 + 1 + 1, 0, none⟩) 1 1) [0]) ∧ Hid (OwnI W1 W0.heap.size (.slice (some ⟨w.heap.size + 1 + 1 + 1 + 1, 0, none⟩) 1 1) [0]) ∧
    Hid (((((w.alloc (.cells #[.string (bs d.name), .int .i64 d.len, .int .i64 d.wid] 25)).alloc (.cells #[.string (bs x.hull), .string (bs x.dock), .int .i64 x.x, .int .i64 x.y, .int .i64 x.len, .int .i64 x.wid, .int .i64 x.a, .int .i64 x.b] 50)).alloc
      (.cells #[.string ⟨#[]⟩, .string ⟨#[]⟩, .int .i64 0, .int .i64 0, .int .i64 0, .int .i64 0, .int .i64 0, .int .i64 0] 50)).alloc (.cells #[.int .i64 0] 3)).alloc (.cells #[.int .i64 0] 3) = W1) := by
  have hz : (((w.alloc (.cells (dyA d) 25)).alloc (.cells (syCs x) 50)).alloc (.cells (syCs default) 50)).heap.size = w.heap.size + 3 := by simp
  refine ⟨((w.alloc (.cells (dyA d) 25)).alloc (.cells (syCs x) 50)).alloc (.cells (syCs default) 50), _, (((ObjAt.new w (dyA d) 25).alloc _).alloc _), ((obj_two w (dyA d) (syCs x) 25 50).2.alloc _), ?_, ?_, hz, ?_, ?_, ?_, rfl⟩
  · have := ObjAt.new ((w.alloc (.cells (dyA d) 25)).alloc (.cells (syCs x) 50)) (syCs default) 50
    rw [show ((w.alloc (.cells (dyA d) 25)).alloc (.cells (syCs x) 50)).heap.size = w.heap.size + 1 + 1 by simp] at this
    exact this
  · exact ((((Below.refl _ _).alloc (Nat.le_refl _) _).alloc (by simp) _).alloc (by simp; omega) _)
  · exact (((Below.refl _ _).alloc (Nat.le_refl _) _).alloc (by simp) _)
  · have := OwnI_one (((w.alloc (.cells (dyA d) 25)).alloc (.cells (syCs x) 50)).alloc (.cells (syCs default) 50)) _ 0 (Nat.le_refl _)
    rw [hz] at this ⊢
    exact OwnI.alloc this _
  · have := OwnI_one ((((w.alloc (.cells (dyA d) 25)).alloc (.cells (syCs x) 50)).alloc (.cells (syCs default) 50)).alloc (.cells #[.int .i64 0] 3)) (w.heap.size + 3) 0 (by simp)
    rw [show ((((w.alloc (.cells (dyA d) 25)).alloc (.cells (syCs x) 50)).alloc (.cells (syCs default) 50)).alloc (.cells #[.int .i64 0] 3)).heap.size = w.heap.size + 1 + 1 + 1 + 1 by simp] at this
    rw [hz]
    exact this
/-- three rows of one's own -/
structure Rows3 (w : World) (B : Nat) (sb sx sy : Value) (l : List Ber) (xs ys : List Int) : Prop where
  b : OwnB w B sb l
  x : OwnI w B sx xs
  y : OwnI w B sy ys
  nx : sx.ownBlock ≠ none
  ny : sy.ownBlock ≠ none
  ne : sx.ownBlock ≠ sy.ownBlock
section
variable {w w' : World} {B : Nat} {sb sx sy : Value} {l : List Ber} {xs ys : List Int}
theorem Rows3.below (h : Rows3 w B sb sx sy l xs ys) (hb : Below w.heap.size w w') : Rows3 w' B sb sx sy l xs ys := ⟨h.b.below hb, h.x.below hb, h.y.below hb, h.nx, h.ny, h.ne⟩
theorem Rows3.alloc (h : Rows3 w B sb sx sy l xs ys) (o : Obj) : Rows3 (w.alloc o) B sb sx sy l xs ys := h.below ((Below.refl _ _).alloc (Nat.le_refl _) _)
theorem Rows3.appB (h : Rows3 w B sb sx sy l xs ys) {sb' : Value} {l' : List Ber} (ho : OwnB w' B sb' l') (hg : w.grownBy w' sb.ownBlock) : Rows3 w' B sb' sx sy l' xs ys :=
  ⟨ho, World.ownsRow.kept h.x hg (owns_ne h.x h.b (by decide)), World.ownsRow.kept h.y hg (owns_ne h.y h.b (by decide)), h.nx, h.ny, h.ne⟩
theorem Rows3.keepB (h : Rows3 w B sb sx sy l xs ys) (hg : w.grownBy w' sx.ownBlock) : OwnB w' B sb l := World.ownsRow.kept h.b hg (owns_ne h.b h.x (by decide))
theorem Rows3.appX (h : Rows3 w B sb sx sy l xs ys) {sx' : Value} {xs' : List Int} (ho : OwnI w' B sx' xs') (hg : w.grownBy w' sx.ownBlock) (ha : sx'.ownBlock = sx.ownBlock ∨ ∃ q, sx'.ownBlock = some q ∧ w.heap.size ≤ q) : Rows3 w' B sb sx' sy l xs' ys := by
  refine ⟨World.ownsRow.kept h.b hg (owns_ne h.b h.x (by decide)), ho, World.ownsRow.kept h.y hg (.inr (fun e => h.ne e.symm)), ?_, h.ny, ?_⟩
  · rcases ha with ha | ⟨q, ha, hq⟩
    · rw [ha]; exact h.nx
    · rw [ha]; simp
  · rcases ha with ha | ⟨q, ha, hq⟩
    · rw [ha]; exact h.ne
    · rw [ha]; intro e
      have := (World.ownsRow.lt h.y q e.symm).2
      omega
theorem Rows3.appY (h : Rows3 w B sb sx sy l xs ys) {sy' : Value} {ys' : List Int} (ho : OwnI w' B sy' ys') (hg : w.grownBy w' sy.ownBlock) (ha : sy'.ownBlock = sy.ownBlock ∨ ∃ q, sy'.ownBlock = some q ∧ w.heap.size ≤ q) : Rows3 w' B sb sx sy' l xs ys' := by
  refine ⟨World.ownsRow.kept h.b hg (owns_ne h.b h.y (by decide)), World.ownsRow.kept h.x hg (.inr h.ne), ho, h.nx, ?_, ?_⟩
  · rcases ha with ha | ⟨q, ha, hq⟩
    · rw [ha]; exact h.ny
    · rw [ha]; simp
  · rcases ha with ha | ⟨q, ha, hq⟩
    · rw [ha]; exact h.ne
    · rw [ha]; intro e
      have := (World.ownsRow.lt h.x q e).2
      omega
end
/-- a store into another block -/
theorem SI.set {w : World} {v : Value} {xs : List Int} (h : SI w v xs) {b : Nat} (hb : v.ownBlock ≠ some b) (k : Nat) (u : Value) : SI (w.setCell ⟨b, k, none⟩ u) v xs := by
  obtain ⟨a, cap, rfl, h1, h2, h3⟩ := h
  refine ⟨a, cap, rfl, h1, h2, fun i hi => ?_⟩
  obtain ⟨b', off, rfl, hc⟩ := h3 i hi
  refine ⟨b', off, rfl, ?_⟩
  rw [World.cell?_setCell_other (h := fun e => hb (congrArg some (congrArg Addr.block e).symm))]
  exact hc
theorem SB.set {w : World} {v : Value} {l : List Ber} (h : SB w v l) {b : Nat} (hb : v.ownBlock ≠ some b) (k : Nat) (u : Value) : SB (w.setCell ⟨b, k, none⟩ u) v l := by
  obtain ⟨a, cap, rfl, h1, h2, h3⟩ := h
  refine ⟨a, cap, rfl, h1, h2, fun i hi => ?_⟩
  obtain ⟨b', off, rfl, hc⟩ := h3 i hi
  have hne : b' ≠ b := fun e => hb (by simp [Value.ownBlock, e])
  have key : ∀ o z, w.cell? ⟨b', o, none⟩ = some z → (w.setCell ⟨b, k, none⟩ u).cell? ⟨b', o, none⟩ = some z := fun o z hz => by
    rw [World.cell?_setCell_other (h := fun e => hne (congrArg Addr.block e).symm)]; exact hz
  exact ⟨b', off, rfl, ⟨key _ _ hc.c0, key _ _ hc.c1, key _ _ hc.c2, key _ _ hc.c3, key _ _ hc.c4, key _ _ hc.c5, key _ _ hc.c6, key _ _ hc.c7⟩⟩
/-- what the search for a place works with -/
structure P2 (w w' : World) (d : DBay) (x : Ber) (sb sx sy : Value) (l : List Ber) (xs ys : List Int) (X Y : Int) : Prop where
  sx : SI w' sx xs
  sy : SI w' sy ys
  sb : SB w' sb l
  od : ObjAt w' w.heap.size (dyA d) 25
  ox : ObjAt w' (w.heap.size + 1) (syCs (x.put X Y)) 50
  orr : ObjAt w' (w.heap.size + 1 + 1) (syCs default) 50
  bw : Below w.heap.size w w'
section
variable {w w' w'' : World} {d : DBay} {x : Ber} {sb sx sy : Value} {l : List Ber} {xs ys : List Int} {X Y : Int}
theorem P2.below (h : P2 w w' d x sb sx sy l xs ys X Y) (hb : Below w'.heap.size w' w'') : P2 w w'' d x sb sx sy l xs ys X Y :=
  ⟨h.sx.keep hb, h.sy.keep hb, h.sb.keep hb, h.od.keep hb, h.ox.keep hb, h.orr.keep hb, ext_trans h.bw hb⟩
theorem P2.put (h : P2 w w' d x sb sx sy l xs ys X Y) (h1 : sx.ownBlock ≠ some (w.heap.size + 1)) (h2 : sy.ownBlock ≠ some (w.heap.size + 1)) (h3 : sb.ownBlock ≠ some (w.heap.size + 1)) (X' Y' : Int) :
    P2 w ((w'.setCell ⟨w.heap.size + 1, 2, none⟩ (.int .i64 X')).setCell ⟨w.heap.size + 1, 3, none⟩ (.int .i64 Y')) d x sb sx sy l xs ys X' Y' :=
  ⟨(h.sx.set h1 _ _).set h1 _ _, (h.sy.set h2 _ _).set h2 _ _, (h.sb.set h3 _ _).set h3 _ _, (h.od.other (by omega) _ _).other (by omega) _ _, (h.ox.set 2 _).set 3 _, (h.orr.other (by omega) _ _).other (by omega) _ _, (h.bw.setCell (p := ⟨w.heap.size + 1, 2, none⟩) (Nat.le_succ _) _).setCell (p := ⟨w.heap.size + 1, 3, none⟩) (Nat.le_succ _) _⟩
end
theorem SI.at' {w : World} {b off n c : Nat} {xs : List Int} (h : SI w (.slice (some ⟨b, off, none⟩) n c) xs) {k : Nat} (hk : k < xs.length) : w.cell? ⟨b, off + k, none⟩ = some (.int .i64 (gi xs k)) := by
  obtain ⟨a, cap, e, h1, h2, h3⟩ := h
  obtain ⟨b', off', ha, hc⟩ := h3 k hk
  simp only [Value.slice.injEq] at e
  obtain ⟨rfl, _, _⟩ := e
  simp only [Option.some.injEq, Addr.mk.injEq] at ha
  obtain ⟨rfl, rfl, _⟩ := ha
  exact hc
end Go.Proofs.YtlmfcigabojbmaaGreatDoor
