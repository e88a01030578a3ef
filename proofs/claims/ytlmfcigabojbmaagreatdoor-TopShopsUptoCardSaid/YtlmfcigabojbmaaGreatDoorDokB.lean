/- Contracts: meet of dock, Overlap of bay's reference. -/
import Derived.Test.YtlmfcigabojbmaaGreatDoorDokA
import Derived.Test.YtlmfcigabojbmaaGreatDoorDokT
import Derived.Deep.DeepCutAuto
set_option linter.unusedSimpArgs false
set_option linter.unusedVariables false
namespace Go.Proofs.YtlmfcigabojbmaaGreatDoor
open Go.RowKit

def syCs (x : Ber) : Array Value := #[.string (bs x.hull), .string (bs x.dock), .int .i64 x.x, .int .i64 x.y, .int .i64 x.len, .int .i64 x.wid, .int .i64 x.a, .int .i64 x.b]

def berO (b off : Nat) (x : Ber) : Ob := ⟨b, off, beCells x⟩
def bayO (b off : Nat) (x : DBay) : Ob := ⟨b, off, dyCells x⟩
theorem obs1 {C : World → Prop} {x : Ob} (hx : ∀ w, C w → w.rangeAt x.b x.off x.cells) : ObsIn C [x] := fun w hw k => by
  match k with
  | 0 => exact hx w hw
  | k + 1 => intro j v h; cases h
theorem obs2 {C : World → Prop} {x y : Ob} (hx : ∀ w, C w → w.rangeAt x.b x.off x.cells) (hy : ∀ w, C w → w.rangeAt y.b y.off y.cells) : ObsIn C [x, y] := fun w hw k => by
  match k with
  | 0 => exact hx w hw
  | 1 => exact hy w hw
  | k + 2 => intro j v h; cases h
theorem range_new {w : World} {xs : Array Value} {e : TypeId} {b : Nat} (h : ObjAt w b xs e) : w.rangeAt b 0 xs.toList := fun j v hv => by
  rw [Nat.zero_add, h.cell, ← Array.getElem?_toList]; exact hv
theorem obj_two (w : World) (xs ys : Array Value) (e f : TypeId) : ObjAt ((w.alloc (.cells xs e)).alloc (.cells ys f)) w.heap.size xs e ∧ ObjAt ((w.alloc (.cells xs e)).alloc (.cells ys f)) (w.heap.size + 1) ys f := by
  refine ⟨(ObjAt.new w xs e).alloc _, ?_⟩
  have := ObjAt.new (w.alloc (.cells xs e)) ys f
  simpa using this
set_option maxRecDepth 100000 in
theorem Overlap_any (x y : Ber) (w : World) (hx : SmB x) (hy : SmB y) : Calls Tryz.prog 65 #[syV x, syV y] w (Ret w (.bool (overB x y))) := by
  have X1 := hx.sx; have X2 := hx.sy; have X3 := hx.sl; have X4 := hx.sw
  have Y1 := hy.sx; have Y2 := hy.sy; have Y3 := hy.sl; have Y4 := hy.sw
  unfold smallB at X1 X2 X3 X4 Y1 Y2 Y3 Y4
  clear hx hy
  unfold syV
  go_enter Tryz.func65, Tryz.ntmps65
  go_upto_region 1 with fail
  have ho := obj_two w (syCs x) (syCs y) 50 50
  unfold syCs at ho
  refine wp_region_et dkT dkT_ok [berO w.heap.size 0 x, berO (w.heap.size + 1) 0 y] (fun w' => w' = _) [(2, 0), (3, 1)] [] [(4, .bool (overB x y))] (by kernel_rfl) rfl (obs2 (fun w' hw' => by subst hw'; exact range_new ho.1) (fun w' hw' => by subst hw'; exact range_new ho.2)) ⟨rfl, rfl, trivial⟩ ?_
  iterate 4
    conv => whnf
    refine And.intro (under_of (by omega)) ?_
  conv => whnf
  intro f
  conv => whnf
  refine And.intro ?_ ?_
  · congr 1
    unfold overB meetT meetS cutB
    rw [bs_eq]
    simp only [Bool.and_assoc]
  conv => whnf
  intro w' hw'
  subst hw'
  clear X1 X2 X3 X4 Y1 Y2 Y3 Y4
  go_wp2_with fail
  go_ret
  exact ⟨rfl, ((Below.refl _ _).alloc (Nat.le_refl _) _).alloc (by simp) _⟩
end Go.Proofs.YtlmfcigabojbmaaGreatDoor
