/- slices.SortFunc and slices.SortedFunc of jobs by their identifiers. -/
import Derived.RangeFuncBox
import Derived.RangeFuncNested
import Derived.RangeFuncBound
import Derived.RangeFuncCalls
import Derived.RangeFuncLeaves
import Derived.Shelf.Abstract
import Derived.Shelf.RegionOpen
import Derived.WalkKit
import Derived.OwnWalkIn
import Derived.TacticsInMore
import Derived.LoopNIn
import Derived.LoopIn
import Derived.Test.YtlmfcigabojbmaaGreatDoorShoK
import Derived.Test.YtlmfcigabojbmaaGreatDoorShoO
import Derived.Test.YtlmfcigabojbmaaGreatDoorIdCmp
import Derived.Test.YtlmfcigabojbmaaGreatDoorShelfS
import Derived.Test.YtlmfcigabojbmaaGreatDoorShelf
import Derived.Laws.Cover1
import Derived.Shelf.SlSortCmp.QuietGrown
set_option linter.unusedSimpArgs false
set_option linter.unusedVariables false

/- slices.Values and slices.Collect of jobs. -/
namespace Go.Proofs.YtlmfcigabojbmaaGreatDoor
open Go.RowKit Go.Shelf
attribute [local go_sem] Oper.semAt_some

def sa (v : Value) : Option Addr := match v with | .slice a _ _ => a | _ => none
def sn (v : Value) : Nat := match v with | .slice _ n _ => n | _ => 0
def sc (v : Value) : Nat := match v with | .slice _ _ c => c | _ => 0
/-- a job's cells, the last one a slice for sure -/
def wkN (x : MW) : Array Value := #[.string (bs x.w.id), .int .i64 x.w.hours, .int .i64 x.w.len, .int .i64 x.w.wid, .slice (sa x.av) (sn x.av) (sc x.av)]
def IsSl (x : MW) : Prop := x.av = .slice (sa x.av) (sn x.av) (sc x.av)
theorem IsSl.of {x : MW} {a : Option Addr} {n c : Nat} (h : x.av = .slice a n c) : IsSl x := by unfold IsSl; rw [h]; rfl
theorem Aft.sl {w : World} {l : List MW} (h : Aft w l) {m : MW} (hm : m ∈ l) : IsSl m := by
  obtain ⟨k, hk, rfl⟩ := mem_mri hm
  obtain ⟨a, c, e, _⟩ := h.form hk
  exact IsSl.of e
theorem wkN_eq {x : MW} (h : IsSl x) : wkN x = wkA x := by unfold wkN wkA; rw [← h]
theorem Values_any (a : Option Addr) (n c : Nat) (w : World) : Calls Tryz.prog 29 #[.slice a n c] w fun e w' => e = .returned (.func (.func 54) #[] #[.pointer (some ⟨w.heap.size, 0, none⟩)]) ∧ w' = w.alloc (.cells #[.slice a n c] 22) := by
  go_enter Tryz.func29, Tryz.ntmps29
  go_wp2
  go_ret
  exact ⟨rfl, rfl⟩
set_option maxRecDepth 100000 in
set_option maxHeartbeats 2000000 in
theorem values1_in (fr : Nat) (hn : 1 ≤ fr) (l Bs n₀ b off cap : Nat) (ms : List MW) (hsl : ∀ m ∈ ms, IsSl m) (hb : b < n₀) (hlen : ms.length ≤ 100000) (J Jx : List MW → World → Prop) (hJa : ∀ xs W o, J xs W → J xs (W.alloc o))
    (hY : ∀ pre x W, J pre W → pre.length < ms.length → YieldAt Fence.wide (fr - 1) Tryz.prog l #[.agg (wkN x)] W fun e W' =>
      (e = .returned (.bool true) ∧ J (pre ++ [x]) W' ∧ Below n₀ W W') ∨ (e = .returned (.bool false) ∧ Jx (pre ++ [x]) W'))
    (W : World) (hn0 : n₀ ≤ W.heap.size) (hBs : W.cell? ⟨Bs, 0, none⟩ = some (.slice (some ⟨b, off, none⟩) ms.length cap)) (hc : ∀ j, j < ms.length → WkAt W b (off + j * 5) (mri ms j)) (h0 : J [] W) :
    CallsIn Fence.wide fr Tryz.prog 54 #[.func (.yield l) #[] #[], .pointer (some ⟨Bs, 0, none⟩)] W fun e W' => (∃ v, e = .returned v) ∧
      ((∃ xs, xs = ms ∧ J xs W') ∨ (∃ pre, (∃ k, k ≤ ms.length ∧ pre = ms.take k) ∧ Jx pre W')) := by
  have HC := Lib.hid hc; clear hc
  refine callsIn_of_wp Tryz.func54 rfl trivial ?_ rfl
  simp only [Tryz.ntmps54, List.size_toArray, List.length_cons, List.length_nil, Nat.reduceAdd, Nat.reduceSub, Array.replicate_succ, Array.replicate_zero, List.push_toArray, List.append_toArray, List.nil_append, List.cons_append]
  gi_wp2
  gi_loopw [7] (fun i wr => ∃ k : Nat, k ≤ ms.length ∧ i = .int .i64 k ∧ J (ms.take k) wr ∧ Below n₀ W wr) (fun i _ => ms.length - (intOf i).toNat)
  case atStart => exact ⟨0, Nat.zero_le _, rfl, h0, Below.refl _ _⟩
  case round =>
    obtain ⟨k, hk, rfl, hJs, hnx⟩ := hrel
    by_cases hlt : k < ms.length
    · obtain ⟨e0, e1, e2, e3, e4⟩ := HC.out k hlt
      have c0 := (hnx.cell (p := ⟨b, off + k * 5, none⟩) hb).trans e0
      have c1 := (hnx.cell (p := ⟨b, off + k * 5 + 1, none⟩) hb).trans e1
      have c2 := (hnx.cell (p := ⟨b, off + k * 5 + 2, none⟩) hb).trans e2
      have c3 := (hnx.cell (p := ⟨b, off + k * 5 + 3, none⟩) hb).trans e3
      have c4 := (hnx.cell (p := ⟨b, off + k * 5 + 4, none⟩) hb).trans e4
      rw [hsl _ (mri_mem hlt)] at c4
      have hy := hY _ (mri ms k) (wr.alloc (.cells (wkN (mri ms k)) 44)) (hJa _ _ _ hJs) (by rw [List.length_take]; omega)
      unfold wkN at hy
      obtain ⟨fn, tmps, assign, body, hy, hR⟩ := hy
      clear e0 e1 e2 e3 e4
      gi_wp2
      refine hR.mono ?_
      rintro e W3 (⟨rfl, hJ3, hk3⟩ | ⟨rfl, hJx3⟩)
      · have hB : Below n₀ wr W3 := ((Below.refl _ _).alloc (by have := hnx.size; omega) _).trans hk3
        gi_wp2
        go_roundw
        case rel => exact ⟨k + 1, by omega, by go_num, by rw [take_mri hlt]; exact hJ3, hnx.trans hB⟩
        case measure => simp [intOf]; omega
      · gi_wp2
        refine bodyPost_ret (results_none rfl _ _ _) rfl ?_
        exact ⟨⟨_, rfl⟩, .inr ⟨_, ⟨k + 1, by omega, (take_mri hlt).symm⟩, hJx3⟩⟩
    · obtain rfl : k = ms.length := by omega
      gi_wp2
      go_end0
      exact ⟨⟨_, rfl⟩, .inl ⟨_, rfl, by rw [List.take_length] at hJs; exact hJs⟩⟩
set_option maxRecDepth 100000 in
theorem values1_nil (fr : Nat) (l Bs : Nat) (a : Option Addr) (cap : Nat) (J : List MW → World → Prop) (W : World) (hBs : W.cell? ⟨Bs, 0, none⟩ = some (.slice a 0 cap)) (h0 : J [] W) :
    CallsIn Fence.wide fr Tryz.prog 54 #[.func (.yield l) #[] #[], .pointer (some ⟨Bs, 0, none⟩)] W fun e W' => (∃ v, e = .returned v) ∧ J [] W' := by
  refine callsIn_of_wp Tryz.func54 rfl trivial ?_ rfl
  simp only [Tryz.ntmps54, List.size_toArray, List.length_cons, List.length_nil, Nat.reduceAdd, Nat.reduceSub, Array.replicate_succ, Array.replicate_zero, List.push_toArray, List.append_toArray, List.nil_append, List.cons_append]
  gi_wp2
  gi_loopw [7] (fun i wr => i = .int .i64 0 ∧ J [] wr) (fun _ _ => 0)
  case atStart => exact ⟨rfl, h0⟩
  case round =>
    obtain ⟨rfl, hJs⟩ := hrel
    gi_wp2
    go_end0
    exact ⟨⟨_, rfl⟩, hJs⟩
/-- slices.Values: all of them, in their order -/
theorem values_stops (fr : Nat) (hn : 1 ≤ fr) (Bs n₀ : Nat) (sv : Value) (ms : List MW) (hsl : ∀ m ∈ ms, IsSl m) (hlen : ms.length ≤ 100000) (w : World) (hBs : Bs < w.heap.size) (hn0 : n₀ ≤ w.heap.size) (hc : w.cell? ⟨Bs, 0, none⟩ = some sv) (hm : SWk w sv ms) (hlt : ∀ a n c, sv = .slice (some a) n c → 0 < n → a.block < n₀) :
    SeqStopsK Fence.wide fr Tryz.prog 54 #[.pointer (some ⟨Bs, 0, none⟩)] (fun x : MW => #[.agg (wkN x)]) (Below n₀) (fun xs => xs = ms) (fun pre => ∃ k, k ≤ ms.length ∧ pre = ms.take k) ms.length w := fun l J Jx W hW hJ _ hY h0 => by
  have hc' := (hW.cell (p := ⟨Bs, 0, none⟩) hBs).trans hc
  have hm' := hm.keep hW
  obtain ⟨a, cap, rfl, h1, h2, h3⟩ := hm'
  by_cases hz : ms.length = 0
  · have e : ms = [] := List.eq_nil_of_length_eq_zero hz
    subst e
    exact (values1_nil fr l Bs a cap J W hc' h0).mono fun e W' ⟨he, hj⟩ => ⟨he, .inl ⟨_, rfl, hj⟩⟩
  · obtain ⟨b, off, rfl, _⟩ := h3 0 (by omega)
    refine values1_in fr hn l Bs n₀ b off cap ms hsl (hlt _ _ _ rfl (by omega)) hlen J Jx (fun xs W' o h => hJ xs W' _ none h (World.grownBy_alloc W' o none) (fun r e => by cases e)) hY W (Nat.le_trans hn0 hW.size) hc' (fun j hj => ?_) h0
    obtain ⟨b', off', e, hcj⟩ := h3 j hj
    simp only [Option.some.injEq, Addr.mk.injEq, and_true] at e
    obtain ⟨rfl, rfl⟩ := e
    exact hcj
end Go.Proofs.YtlmfcigabojbmaaGreatDoor

/- slices.AppendSeq, slices.Collect of jobs. -/
namespace Go.Proofs.YtlmfcigabojbmaaGreatDoor
open Go.RowKit Go.Shelf
attribute [local go_sem] Oper.semAt_some

theorem Tryz_infoWork : (Tryz.prog.info? 44).map (fun i => (i.zero, i.size, i.bytes)) = some (some (.agg #[.string ⟨#[]⟩, .int .i64 0, .int .i64 0, .int .i64 0, .slice none 0 0]), 5, 64) := by kernel_rfl
theorem info_Work : (Tryz.prog.info? 44).map (·.size) = some 5 := by kernel_rfl
theorem wkN_len (x : MW) : (wkN x).toList.length = 5 := rfl
theorem wkN_one (x : MW) : ∀ v ∈ (wkN x).toList, v.oneCell' = true := by
  intro v hv
  simp only [wkN, List.mem_cons, List.not_mem_nil, or_false] at hv
  rcases hv with rfl | rfl | rfl | rfl | rfl <;> rfl
theorem cells_new (w : World) (xs : Array Value) (e : TypeId) : ∀ j u, xs.toList[j]? = some u → (w.alloc (.cells xs e)).cell? ((⟨w.heap.size, 0, none⟩ : Addr).add j) = some u := fun j u hj => by
  have := (ObjAt.new w xs e).cell j
  rw [Array.getElem?_toList] at hj
  rw [← hj, ← this]
  by_cases e0 : j = 0
  · subst e0; rfl
  · simp [Addr.add, e0]
theorem obj_own {W W' : World} {q : Nat} {xs : Array Value} {e : TypeId} {row : Option Nat} (h : ObjAt W q xs e) (hg : W.grownBy W' row) (hr : ∀ r, row = some r → ∃ o : Obj, W.heap[r]? = some o ∧ o.isCells = false) : ObjAt W' q xs e := by
  refine h.grown hg fun e2 => ?_
  obtain ⟨o, ho, hc⟩ := hr q e2
  rw [show W.heap[q]? = _ from h] at ho
  cases ho; cases hc
set_option maxRecDepth 100000 in
set_option maxHeartbeats 2000000 in
theorem appendSeq_any (Bs : Nat) (sv : Value) (ms : List MW) (hsl : ∀ m ∈ ms, IsSl m) (hlen : ms.length ≤ 100000) (w : World) (hBs : Bs < w.heap.size) (hc : w.cell? ⟨Bs, 0, none⟩ = some sv) (hm : SWk w sv ms) (hlt : ∀ a n c, sv = .slice (some a) n c → 0 < n → a.block < w.heap.size) :
    Calls Tryz.prog 68 #[.slice none 0 0, .func (.func 54) #[] #[.pointer (some ⟨Bs, 0, none⟩)]] w fun e w' => ∃ v, e = .returned v ∧ w'.ownsRow w.heap.size 44 5 v ms.length (ms.flatMap fun x => (wkN x).toList) ∧ Below w.heap.size w w' := by
  obtain ⟨i0, hi, hz0, hz1, hz2⟩ := info_parts Tryz_infoWork
  refine (callsIn_wide (n := 9)).1 ?_
  refine callsIn_of_wp_marks Tryz.func68 rfl trivial ?_ rfl
  simp only [Tryz.ntmps68, List.size_toArray, List.length_cons, List.length_nil, Nat.reduceAdd, Nat.reduceSub, Array.replicate_succ, Array.replicate_zero, List.push_toArray, List.append_toArray, List.nil_append, List.cons_append]
  refine wpIn_wide.2 ?_
  go_wp2_with fail
  obtain ⟨W1, hW1⟩ : ∃ W1, w.alloc (.cells #[.slice none 0 0] 22) = W1 := ⟨_, rfl⟩
  have hz1' : W1.heap.size = w.heap.size + 1 := by rw [← hW1]; simp
  have hB1 : Below w.heap.size w W1 := by rw [← hW1]; exact (Below.refl _ _).alloc (Nat.le_refl _) _
  have hbx : Boxed W1 w.heap.size 22 (.slice none 0 0) := by rw [← hW1]; exact Boxed.new _ _ _
  rw [hW1]
  clear hW1
  refine (wpIn_wide (n := 9)).1 ?_
  refine wpIn_rangeFunc_ownH rfl (by omega) (gf := 54) (lb := #[.pointer (some ⟨Bs, 0, none⟩)]) rfl trivial (enters_of Tryz.func54 (by kernel_rfl) rfl)
    (values_stops (9 - 1) (by omega) Bs w.heap.size sv ms hsl hlen W1 (by omega) (by omega) (cell_keep hB1 hc) (hm.keep hB1) hlt) belowK_t (belowK_b (by omega)) (Below.refl _ _) (fun _ => rfl)
    (fun pre W => (∃ v, Boxed W w.heap.size 22 v ∧ W.ownsRow w.heap.size 44 5 v pre.length (pre.flatMap fun x => (wkN x).toList) ∧ True) ∧ Below w.heap.size w W)
    (fun _ _ _ => False)
    (OwnFrom.and (Own.from (holdsRow_own w.heap.size w.heap.size 22 44 5 (fun pre : List MW => pre.length) (fun pre => pre.flatMap fun x => (wkN x).toList) (fun _ _ => True)) _) (ownFrom_below (Nat.le_refl _) (by omega)))
    (fun _ _ _ _ _ hs _ _ => hs)
    ⟨⟨_, hbx, World.ownsRow_nil _ _ _ _, trivial⟩, hB1⟩
    (fun x a' W => ∃ q, a' = { tmps := #[.slice none 0 0, .func (.func 54) #[] #[.pointer (some ⟨Bs, 0, none⟩)], .pointer (some ⟨w.heap.size, 0, none⟩), undef, .slice none 0 0, .pointer (some ⟨q, 0, none⟩), .func (.func 54) #[] #[.pointer (some ⟨Bs, 0, none⟩)], .agg (wkN x), undef, undef, undef, undef, undef], defers := [] } ∧ ObjAt W q (wkN x) 44)
    (fun x a' s W W' row hs hg hr => by
      obtain ⟨q, e, ho⟩ := hs
      exact ⟨q, e, obj_own ho hg (fun r e => (hr r e).2)⟩) ?assign ?body ?done ?stop
  case assign =>
    intro l pre x W K hi' hK
    unfold wkN
    gi_wp2
    refine hK _ _ (KeepsFrom.of_grownBy (World.grownBy_alloc W (.cells (wkN x) 44) none) (fun j e => by cases e)) ((Below.refl _ _).alloc hi'.2.size _) ?_ ⟨W.heap.size, rfl, ObjAt.new _ _ _⟩
    obtain ⟨⟨v, hv, hrow, _⟩, hB⟩ := hi'
    exact ⟨⟨v, hv.alloc _, World.ownsRow.alloc hrow _, trivial⟩, hB.alloc hB.size _⟩
  case body =>
    rintro l pre x a' W hl hr ⟨⟨v, hv, hrow, _⟩, hB⟩ ⟨q, rfl, hq⟩ hlt2
    have hc0 := hv.cell
    have q0 : W.cell? ⟨q, 0, none⟩ = some (.string (bs x.w.id)) := hq.cell 0
    have q1 : W.cell? ⟨q, 1, none⟩ = some (.int .i64 x.w.hours) := hq.cell 1
    have q2 : W.cell? ⟨q, 2, none⟩ = some (.int .i64 x.w.len) := hq.cell 2
    have q3 : W.cell? ⟨q, 3, none⟩ = some (.int .i64 x.w.wid) := hq.cell 3
    have q4 : W.cell? ⟨q, 4, none⟩ = some (.slice (sa x.av) (sn x.av) (sc x.av)) := hq.cell 4
    have HRW := Lib.hid (World.ownsRow.alloc hrow (.cells (wkN x) 44))
    unfold wkN at HRW
    have hwz : w.heap.size ≤ W.heap.size := hB.size
    have hfm : ((pre ++ [x]).flatMap fun x => (wkN x).toList) = (pre.flatMap fun x => (wkN x).toList) ++ (wkN x).toList := by rw [List.flatMap_append]; simp
    have HCN := Lib.hid (cells_new W (wkN x) 44)
    have HONE := Lib.hid (wkN_one x)
    unfold wkN at HCN HONE
    gi_wp2_with (gi_at_builtin; refine wpListIn_append_own _ rfl _ _ 22 rfl w.heap.size 44 i0 (.agg #[.string ⟨#[]⟩, .int .i64 0, .int .i64 0, .int .i64 0, .slice none 0 0]) 5 64 Tryz.underlying22 hi hz0 hz1 hz2 rfl (by decide) _ _ _ rfl HRW.out ⟨W.heap.size, 0, none⟩ 1 1 [.string (bs x.w.id), .int .i64 x.w.hours, .int .i64 x.w.len, .int .i64 x.w.wid, .slice (sa x.av) (sn x.av) (sc x.av)] rfl rfl HCN.out HONE.out (by unfold maxLen; omega) (by omega) (by simp; omega) ?_; intro v' w1 hown' hgrow _; obtain ⟨g', cap', rfl⟩ := ownsRow_succ hown'; obtain ⟨hv1, hv2, hr2, hk2, hb2⟩ := hv.appended (by decide) hrow hB.size (Nat.le_refl _) hown' hgrow; have hc1 := hv1.cell; have hf1 := hv1.frozen)
    have hr3 : (w1.setCell ⟨w.heap.size, 0, none⟩ (.slice (some ⟨g', 0, none⟩) (pre.length + 1) cap')).ownsRow w.heap.size 44 5 (.slice (some ⟨g', 0, none⟩) (pre.length + 1) cap') (pre ++ [x]).length ((pre ++ [x]).flatMap fun x => (wkN x).toList) := by
      rw [hfm, show (pre ++ [x]).length = pre.length + 1 by simp]; exact hr2
    first | exact ⟨hk2.from _, hb2, ⟨_, hv2, hr3⟩, hB.trans hb2⟩ | exact ⟨hk2.from _, hb2, ⟨_, hv2, hr3, trivial⟩, hB.trans hb2⟩
  case done =>
    rintro D ys W hD rfl ⟨⟨v, hv, hrow, _⟩, hB⟩ hK
    have hc := hv.cell
    have HR := Lib.hid hrow
    obtain ⟨va, vn, vc, rfl⟩ : ∃ a n c, v = .slice a n c := by
      rcases hrow.2 with ⟨rfl, _⟩ | ⟨g, cap, cur, rfl, _⟩ <;> exact ⟨_, _, _, rfl⟩
    clear hrow hv
    go_wp2_with fail
    refine ⟨by simp, .inl ⟨_, _, rfl, run_takeDeferred hK, ?_⟩⟩
    exact ⟨_, results_tmp rfl _ _ _, _, rfl, ownsRow_putObj HR.out _ hK rfl, hB.trans (belowK_b (w := w) (Nat.le_refl _) W D _ _ (by omega) hK rfl rfl)⟩
  case stop =>
    rintro D c pre W _ _ h _
    exact h.elim
end Go.Proofs.YtlmfcigabojbmaaGreatDoor

/- slices.SortFunc and slices.SortedFunc of jobs by their identifiers. -/
namespace Go.Proofs.YtlmfcigabojbmaaGreatDoor
open Go.RowKit Go.Sort

theorem below_grow (w : World) (n : Nat) (os : Array Obj) : Below w.heap.size w (grow (w.drewN n) os) :=
  ⟨rfl, rfl, rfl, by rw [size_grow]; exact Nat.le_add_right _ _, fun k hk => by simp [grow]; rw [Array.getElem?_append_left (by exact hk)]⟩
/-- w' is w after draws, with new blocks behind it -/
def GR (w w' : World) : Prop := ∃ q os, w' = grow (w.drewN q) os
theorem GR.refl (w : World) : GR w w := ⟨0, #[], by rw [grow_empty]; rfl⟩
theorem GR.drewN {w w' : World} (h : GR w w') (m : Nat) : GR w (w'.drewN m) := by
  obtain ⟨q, os, rfl⟩ := h; exact ⟨q + m, os, by show grow ((w.drewN q).drewN m) os = _; rw [World.drewN_drewN]⟩
theorem GR.drew {w w' : World} (h : GR w w') : GR w w'.drew := h.drewN 1
theorem GR.alloc {w w' : World} (h : GR w w') (o : Obj) : GR w (w'.alloc o) := by
  obtain ⟨q, os, rfl⟩ := h; exact ⟨q, os ++ #[o], by rw [alloc_eq_grow, grow_grow]⟩
theorem GR.trans {a b c : World} (h : GR a b) (k : GR b c) : GR a c := by
  obtain ⟨q, os, rfl⟩ := h; obtain ⟨q', os', rfl⟩ := k
  exact ⟨q + q', os ++ os', by show grow (grow ((a.drewN q).drewN q') os) os' = _; rw [grow_grow, World.drewN_drewN]⟩
theorem GR.below {w w' : World} (h : GR w w') : Below w.heap.size w w' := by obtain ⟨q, os, rfl⟩ := h; exact below_grow _ _ _

theorem less_is (a b : List UInt8) : Op.bytesLess a b = decide (bytesC a b = -1) := by
  unfold bytesC
  induction a generalizing b with
  | nil => cases b <;> rfl
  | cons x a ih =>
    cases b with
    | nil => rfl
    | cons y b =>
      rw [lexI_cons]
      show (decide (x < y) || (x == y && Op.bytesLess a b)) = _
      rw [ih b]
      unfold cB cN
      have e1 : x < y ↔ x.toNat < y.toNat := UInt8.lt_iff_toNat_lt
      have e3 : x = y ↔ x.toNat = y.toNat := UInt8.toNat_inj.symm
      by_cases h1 : x.toNat < y.toNat
      · rw [if_pos h1, if_neg (by decide), decide_eq_true (e1.2 h1)]; rfl
      · have h1' : ¬ x < y := fun h => h1 (e1.1 h)
        by_cases h2 : y.toNat < x.toNat
        · have hne : (x == y) = false := by rw [beq_eq_false_iff_ne]; intro h; have := e3.1 h; omega
          rw [if_neg h1, if_pos h2, if_neg (by decide), decide_eq_false h1', hne]; rfl
        · have he : (x == y) = true := by rw [beq_iff_eq]; exact e3.2 (by omega)
          rw [if_neg h1, if_neg h2, if_pos rfl, decide_eq_false h1', he]; simp
theorem less_lt (a b : List UInt8) : Op.bytesLess a b = decide (bytesC a b < 0) := by
  rw [less_is]
  have := bytesC_ok.rng a b
  rw [Bool.eq_iff_iff, decide_eq_true_eq, decide_eq_true_eq]; omega

theorem isNaN_str (x : ByteArray) (w : World) : Calls Tryz.prog 55 #[.string x] w fun e w' => e = .returned (.bool false) ∧ w' = w := by
  have hx : (!(x.toList == x.toList)) = false := by simp
  go_enter Tryz.func55, Tryz.ntmps55
  go_wp2_with fail
  go_ret
  exact ⟨rfl, rfl⟩
theorem compare_str (a b : List UInt8) (w : World) : Calls Tryz.prog 31 #[.string (bs a), .string (bs b)] w fun e w' => e = .returned (.int .i64 (bytesC a b)) ∧ w' = w := by
  have hr := bytesC_ok.rng a b
  have ha := bytesC_ok.anti a b
  have l1 : Op.bytesLess (bs a).toList (bs b).toList = decide (bytesC a b < 0) := by rw [bs_toList, bs_toList, less_lt]
  have l2 : Op.bytesLess (bs b).toList (bs a).toList = decide (bytesC b a < 0) := by rw [bs_toList, bs_toList, less_lt]
  have HZ : Hid (bytesC a b = 0 → (bs a).toList == (bs b).toList) := fun h => by rw [bs_toList, bs_toList, bytesC_zero h]; simp
  have HN : Hid (bytesC a b ≠ 0 → ((bs a).toList == (bs b).toList) = false) := fun h => by
    rw [bs_toList, bs_toList, beq_eq_false_iff_ne]; intro e; subst e; exact h (bytesC_ok.refl _)
  generalize bytesC a b = c at *
  generalize bytesC b a = c' at *
  subst ha
  go_enter Tryz.func31, Tryz.ntmps31
  go_wp2_with fail
  refine (isNaN_str (bs a) w).mono ?_
  rintro e w1 ⟨rfl, rfl⟩
  go_wp2_with fail
  refine (isNaN_str (bs b) _).mono ?_
  rintro e w1 ⟨rfl, rfl⟩
  rcases hr with rfl | rfl | rfl
  · have d1 : Op.bytesLess (bs a).toList (bs b).toList = true := l1
    clear l1 l2 HZ HN
    go_wp2_with fail
    go_ret
    exact ⟨rfl, rfl⟩
  · have d1 : Op.bytesLess (bs a).toList (bs b).toList = false := l1
    have d2 := HZ.out rfl
    clear l1 l2 HZ HN
    go_wp2_with fail
    go_ret
    exact ⟨rfl, rfl⟩
  · have d1 : Op.bytesLess (bs a).toList (bs b).toList = false := l1
    have d2 := HN.out (by decide)
    clear l1 l2 HZ HN
    go_wp2_with fail
    go_ret
    exact ⟨rfl, rfl⟩
/-- what a sort needs of a row of elements of k cells -/
theorem holdsK_of {α : Type} [Inhabited α] {enc : α → List Value} {k : Nat} (hk : ∀ x, (enc x).length = k) (h0 : 0 < k) {w : World} {B g n cap : Nat} {e : TypeId} {l : List α} (h : w.ownsRow B e k (.slice (some ⟨g, 0, none⟩) n cap) l.length (l.flatMap enc)) : HoldsK enc k w g 0 l.toArray := by
  have hn : l.length = n := by
    rcases h.2 with ⟨e, _⟩ | ⟨g', cap', cur, e, _⟩
    · cases e
    · simp at e; exact e.2.1.symm
  subst hn
  intro t ht
  rw [size_flatK] at ht
  simp only [List.size_toArray] at ht
  rw [get_flatK enc k l.toArray t (by simpa using ht), Nat.zero_add]
  have hi : t / k < l.length := Nat.div_lt_of_lt_mul (by rw [Nat.mul_comm]; exact ht)
  have hj : t % k < k := Nat.mod_lt _ h0
  refine ⟨?_, h.frozenAt t⟩
  have e1 : t = t / k * k + t % k := by rw [Nat.mul_comm]; exact (Nat.div_add_mod t k).symm
  have key := h.cellAt t ht
  rw [key]
  conv => lhs; rw [e1]
  rw [flat_get enc hk l (t / k) (t % k) hi hj]
  have hel : (l.toArray)[t / k]! = l[t / k] := by simp [hi]
  rw [hel, List.getElem?_eq_getElem (by rw [hk]; exact hj)]
  simp [List.getElem!_eq_getElem?_getD, List.getElem?_eq_getElem (show t % k < (enc l[t / k]).length by rw [hk]; exact hj)]
theorem below_worldK {α : Type} [Inhabited α] (enc : α → List Value) (k : Nat) (w : World) (g n : Nat) (d : Array α) (os : Array Obj) : w.grownBy (sortWorldK enc k w g 0 n d os) (some g) := by
  unfold sortWorldK
  refine ⟨rfl, rfl, rfl, by rw [size_grow, size_putRowK]; exact Nat.le_add_right _ _, fun b hb hne => ?_⟩
  have hs : b < (putRowK enc k (Sort.ahead w n) g 0 d).heap.size := by rw [size_putRowK]; exact hb
  have hb' : b ≠ g := fun e => hne (by rw [e])
  have e1 : (grow (putRowK enc k (Sort.ahead w n) g 0 d) os).heap[b]? = (putRowK enc k (Sort.ahead w n) g 0 d).heap[b]? := by
    simp only [grow]; rw [Array.getElem?_append_left hs]
  rw [e1]
  unfold putRowK putRow mapBlock
  simp only [Array.getElem?_modify]
  rw [if_neg (fun e => hb' e.symm)]
  rfl
theorem at_worldK {α : Type} [Inhabited α] {enc : α → List Value} {k : Nat} {w : World} {g n : Nat} {d d' : Array α} {os : Array Obj} (h : HoldsK enc k w g 0 d) (hg : g < w.heap.size) (hs : d'.size = d.size) {i j : Nat} (hi : i < d'.size) (hj : j < k) :
    (sortWorldK enc k w g 0 n d' os).cell? ⟨g, i * k + j, none⟩ = some (enc d'[i]!)[j]! := by
  have := (HoldsK.cell (holdsK_sortWorldK enc k w g 0 n d d' os hg h hs) hi hj).1
  rwa [Nat.zero_add] at this


theorem ordered1_any (x y : MW) (w : World) : Calls Tryz.prog 30 #[.agg #[.string (bs x.w.id), .int .i64 x.w.hours, .int .i64 x.w.len, .int .i64 x.w.wid, .slice (sa x.av) (sn x.av) (sc x.av)], .agg #[.string (bs y.w.id), .int .i64 y.w.hours, .int .i64 y.w.len, .int .i64 y.w.wid, .slice (sa y.av) (sn y.av) (sc y.av)]] w
    fun e w' => e = .returned (.int .i64 (bytesC x.w.id y.w.id)) ∧ GR w w' := by
  have GW : GR w ((w.alloc (.cells (wkN x) 44)).alloc (.cells (wkN y) 44)) := ((GR.refl w).alloc _).alloc _
  unfold wkN at GW
  have HG := Lib.hid GW
  clear GW
  go_enter Tryz.func30, Tryz.ntmps30
  go_wp2_with fail
  refine (compare_str _ _ _).mono ?_
  rintro e w1 ⟨rfl, rfl⟩
  go_wp2_with fail
  go_ret
  exact ⟨rfl, HG.out⟩
theorem enter_ordered1 : ∀ args w, (callFunc 30 args).run Tryz.prog w = .ok (.enter 30 args) w := enters_of Tryz.func30 (by kernel_rfl) rfl
def idC (x y : MW) : Int := bytesC x.w.id y.w.id
theorem swo_ids : Sort.SWO (ltOf idC) := by
  have hr := bytesC_ok
  refine ⟨fun x => ?_, fun x y z h1 h2 => ?_, fun x y z h1 h2 => ?_⟩
  · unfold ltOf idC; rw [hr.refl]; rfl
  · unfold ltOf idC at *
    rw [decide_eq_true_eq] at *
    exact hr.lt_le h1 (by omega)
  · unfold ltOf idC at *
    rw [decide_eq_false_iff_not] at *
    have a1 := hr.anti x.w.id y.w.id
    have a2 := hr.anti y.w.id z.w.id
    have a3 := hr.anti x.w.id z.w.id
    have := hr.tr z.w.id y.w.id x.w.id (by omega) (by omega)
    omega
theorem sorted_ids {d : Array MW} (h : SortedIn (ltOf idC) 0 d.size d) : d.toList.Pairwise fun a b => leI a.w.id b.w.id = true := by
  rw [List.pairwise_iff_getElem]
  intro i j hi hj hij
  have := h i j (Nat.zero_le _) hij (by simpa using hj)
  unfold ltOf idC at this
  have hi' : i < d.size := by simpa using hi
  have hj' : j < d.size := by simpa using hj
  rw [getElem!_pos d i hi', getElem!_pos d j hj', ← less_lt, less_idLt] at this
  simp only [Array.getElem_toList]
  exact leI_of_not this
theorem perm_ids {d d' : Array MW} (h : PermIn 0 d.size d d') : d'.toList.Perm d.toList := by
  obtain ⟨h1, _, h3⟩ := h
  have e1 : d.extract 0 d.size = d := by simp
  have e2 : d'.extract 0 d.size = d' := by rw [← h1]; simp
  rwa [e1, e2] at h3
theorem agg_work : ∀ w, (isAgg 44).run Tryz.prog w = .ok true w := Tryz.isAgg44
theorem size_work : ∀ w, (Go.sizeOf 44).run Tryz.prog w = .ok 5 w := Tryz.sizeOf44
def wkL (x : MW) : List Value := (wkN x).toList
theorem sortW_any (w : World) (B g n cap : Nat) (ms : List MW) (hsl : ∀ m ∈ ms, IsSl m) (ho : w.ownsRow B 44 5 (.slice (some ⟨g, 0, none⟩) n cap) ms.length (ms.flatMap wkL)) (hl : ms.length ≤ 100000) :
    Calls Tryz.prog 53 #[.slice (some ⟨g, 0, none⟩) n cap, .func (.func 30) #[] #[]] w fun e w' =>
      e = .returned (.tuple #[]) ∧ w.grownBy w' (some g) ∧ ∃ ms', ms'.Perm ms ∧ (ms'.Pairwise fun a b => leI a.w.id b.w.id = true) ∧ SWk w' (.slice (some ⟨g, 0, none⟩) n cap) ms' := by
  have hH := holdsK_of (enc := wkL) (k := 5) (fun _ => rfl) (by omega) ho
  have hlt := World.ownsRow.lt ho g rfl
  obtain ⟨rfl, hc1, hc2⟩ : n = ms.length ∧ ms.length ≤ cap ∧ cap ≤ maxLen := by
    rcases ho.2 with ⟨e, _⟩ | ⟨g', cap', cur, e, _, _, h1, h2, _⟩
    · cases e
    · simp at e; obtain ⟨_, e1, rfl⟩ := e; exact ⟨e1, h1, h2⟩
  have hcmp : CmpLays Tryz.prog 30 #[] wkL 5 idC g 0 ms.toArray.size w := fun m os dk _ x y =>
    (ordered1_any x y _).mono fun e w' ⟨he, hg⟩ => ⟨he, hg⟩
  have key := AnyQ.slices_SortFunc Tryz.sortW 5 agg_work size_work wkL (fun _ => rfl) wkN_one idC swo_ids 30 #[] g 0 cap ms.toArray w enter_ordered1 hcmp hH hlt.2 (by simp; omega)
  rw [List.size_toArray] at key
  refine key.mono ?_
  rintro e w' ⟨rfl, d', q, os, hp, hs, rfl⟩
  have hperm : d'.toList.Perm ms := by
    have := perm_ids (d := ms.toArray) (d' := d') (by rw [List.size_toArray]; exact hp)
    simpa using this
  refine ⟨rfl, below_worldK _ _ _ _ _ _ _, d'.toList, hperm, ?_, ?_⟩
  · refine sorted_ids ?_
    have hsz : d'.size = ms.length := by have := hp.1; simpa using this
    rw [hsz]; exact hs
  · have hsz : d'.size = ms.length := by have := hp.1; simpa using this
    have hln : d'.toList.length = ms.length := by simpa using hsz
    refine ⟨_, cap, by rw [hln], by rw [Array.length_toList, hsz]; exact hc1, hc2, fun i hi => ⟨g, 0, rfl, ?_⟩⟩
    have hi0 := hi
    rw [Array.length_toList] at hi
    have key : ∀ j, j < 5 → (sortWorldK wkL 5 w g 0 ms.length d' os).cell? ⟨g, i * 5 + j, none⟩ = some (wkL d'[i]!)[j]! := fun j hj => at_worldK hH hlt.2 (by simpa using hsz) hi hj
    have hel : mri d'.toList i = d'[i]! := by
      rw [mri_lt (by simpa using hi)]
      simp [hi]
    have hav : IsSl d'[i]! := by rw [← hel]; exact hsl _ (hperm.mem_iff.1 (mri_mem hi0))
    rw [hel, Nat.zero_add]
    exact ⟨key 0 (by omega), key 1 (by omega), key 2 (by omega), key 3 (by omega), by rw [hav]; exact key 4 (by omega)⟩
/-! no jobs -/
theorem inW_nil (F : FuncId) (w : World) : Calls Tryz.prog 75 #[.slice none 0 0, .int .i64 0, .int .i64 0, .func (.func F) #[] #[]] w fun e w' => e = .returned (.tuple #[]) ∧ w' = w := by
  go_enter Tryz.func75, Tryz.ntmps75
  go_wp2_with fail
  refine wp_loop_rounds 1 ?_
  rw [rounds_succ]
  go_wp2_with fail
  refine bodyPost_end (results_none Tryz.results75 _ _ _) rfl ?_
  exact ⟨rfl, rfl⟩
theorem pdW_nil (F : FuncId) (n : Int) (w : World) : Calls Tryz.prog 69 #[.slice none 0 0, .int .i64 0, .int .i64 0, .int .i64 n, .func (.func F) #[] #[]] w fun e w' => e = .returned (.tuple #[]) ∧ w' = w := by
  go_enter Tryz.func69, Tryz.ntmps69
  go_wp2_with fail
  refine wp_loop_rounds 1 ?_
  rw [rounds_succ]
  go_wp2_with fail
  refine (inW_nil F w).mono ?_
  rintro e w1 ⟨rfl, rfl⟩
  go_wp2_with fail
  refine bodyPost_ret (v := .tuple #[]) (results_none Tryz.results69 _ _ _) rfl ?_
  exact ⟨rfl, rfl⟩
theorem sortW_nil (F : FuncId) (w : World) : Calls Tryz.prog 53 #[.slice none 0 0, .func (.func F) #[] #[]] w fun e w' => e = .returned (.tuple #[]) ∧ w' = w := by
  have hl := Lib.hid (Tryz.bits_Len 0 w (by omega) (by omega))
  go_enter Tryz.func53, Tryz.ntmps53
  go_wp2_with (go_at_call 70; refine hl.out.mono ?_; rintro e w1 ⟨rfl, rfl⟩)
  refine (pdW_nil F _ _).mono ?_
  rintro e w1 ⟨rfl, rfl⟩
  go_wp2_with fail
  refine bodyPost_end (results_none Tryz.results53 _ _ _) rfl ?_
  exact ⟨rfl, rfl⟩
/-- slices.SortedFunc of slices.Values -/
theorem sorted_any (Bs : Nat) (sv : Value) (ms : List MW) (hsl : ∀ m ∈ ms, IsSl m) (hlen : ms.length ≤ 100000) (w : World) (hBs : Bs < w.heap.size) (hc : w.cell? ⟨Bs, 0, none⟩ = some sv) (hm : SWk w sv ms) (hlt : ∀ a n c, sv = .slice (some a) n c → 0 < n → a.block < w.heap.size) :
    Calls Tryz.prog 28 #[.func (.func 54) #[] #[.pointer (some ⟨Bs, 0, none⟩)], .func (.func 30) #[] #[]] w fun e w' => ∃ v ms', e = .returned v ∧ ms'.Perm ms ∧ (ms'.Pairwise fun a b => leI a.w.id b.w.id = true) ∧ SWk w' v ms' ∧ Below w.heap.size w w' := by
  have HSL := Lib.hid hsl
  have HAS := Lib.hid (appendSeq_any Bs sv ms hsl hlen w hBs hc hm hlt)
  clear hc hm hlt hsl
  have HCL : Hid (Calls Tryz.prog 52 #[.func (.func 54) #[] #[.pointer (some ⟨Bs, 0, none⟩)]] w fun e w' => ∃ v, e = .returned v ∧ w'.ownsRow w.heap.size 44 5 v ms.length (ms.flatMap wkL) ∧ Below w.heap.size w w') := by
    show Calls _ _ _ _ _
    go_enter Tryz.func52, Tryz.ntmps52
    go_wp2_with fail
    refine HAS.out.mono ?_
    rintro e w1 ⟨v, rfl, h1, h2⟩
    have H1 := Lib.hid h1; have H2 := Lib.hid h2
    clear h1 h2
    go_wp2_with fail
    go_ret
    exact ⟨_, rfl, H1.out, H2.out⟩
  go_enter Tryz.func28, Tryz.ntmps28
  go_wp2_with fail
  refine HCL.out.mono ?_
  rintro e w1 ⟨v, rfl, h1, h2⟩
  have H1 := Lib.hid h1; have H2 := Lib.hid h2
  have hform : (v = .slice none 0 0 ∧ ms = []) ∨ ∃ g n c, v = .slice (some ⟨g, 0, none⟩) n c ∧ w.heap.size ≤ g := by
    rcases h1.2 with ⟨rfl, h0⟩ | ⟨g, cap, cur, rfl, hg, _⟩
    · exact .inl ⟨rfl, List.eq_nil_of_length_eq_zero h0⟩
    · exact .inr ⟨_, _, _, rfl, hg⟩
  clear h1 h2
  rcases hform with ⟨rfl, rfl⟩ | ⟨g, n, c, rfl, hg⟩
  · go_wp2_with fail
    refine (sortW_nil _ _).mono ?_
    rintro e w2 ⟨rfl, rfl⟩
    go_wp2_with fail
    go_ret
    exact ⟨_, [], rfl, List.Perm.refl _, List.Pairwise.nil, SWk_nil _, H2.out⟩
  · go_wp2_with fail
    refine (sortW_any w1 w.heap.size g n c ms HSL.out H1.out hlen).mono ?_
    rintro e w2 ⟨rfl, hgr, ms', hp, hs, hw⟩
    have HP := Lib.hid hp; have HS := Lib.hid hs; have HW := Lib.hid hw
    have HB := Lib.hid (H2.out.grown hgr H2.out.size (fun q hq => by cases hq; exact hg))
    clear hp hs hw hgr
    go_wp2_with fail
    go_ret
    exact ⟨_, ms', rfl, HP.out, HS.out, HW.out, HB.out⟩
/-- the first of a sorted list is the next job -/
theorem find_next {l : List Wrk} {ws : List Wrk} (hu : Uniq l) (hp : ws.Perm l) (hs : ws.Pairwise fun a b => leI a.id b.id = true) (D : List (List UInt8)) : ws.find? (readyW D) = nextF l D := by
  cases h : ws.find? (readyW D) with
  | none =>
    symm
    rw [nextF_none]
    intro w hw
    have := List.find?_eq_none.1 h w (hp.mem_iff.2 hw)
    simpa using this
  | some w =>
    symm
    have hr := List.find?_some h
    rw [List.find?_eq_some_iff_append] at h
    obtain ⟨_, ls, rs, e, hn⟩ := h
    refine nextF_least hu (hp.mem_iff.1 (by rw [e]; simp)) hr fun u hu2 hru => ?_
    have hm : u ∈ ls ++ w :: rs := by rw [← e]; exact hp.mem_iff.2 hu2
    rw [e] at hs
    rcases List.mem_append.1 hm with hm | hm
    · have := hn u hm; rw [hru] at this; cases this
    · rcases List.mem_cons.1 hm with rfl | hm
      · exact leI_refl _
      · exact (List.pairwise_cons.1 (List.pairwise_append.1 hs).2.1).1 u hm
end Go.Proofs.YtlmfcigabojbmaaGreatDoor
