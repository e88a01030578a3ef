/- The iterator over the jobs that are not in a beginning: for every loop over it. -/
import Derived.RangeFuncNested
import Derived.RangeFuncBound
import Derived.RangeFuncCalls
import Derived.RangeFuncLeaves
import Derived.Shelf.Abstract
import Derived.Shelf.RegionOpen
import Derived.WalkKit
import Derived.OwnWalkIn
import Derived.TacticsInMore
import Derived.LoopNIn
import Derived.LoopIn
import Derived.Test.YtehbnckdllbmgaaGreatDoorCerMem
import Derived.Test.YtehbnckdllbmgaaGreatDoorCerA
set_option linter.unusedSimpArgs false
set_option linter.unusedVariables false
namespace Go.Proofs.YtehbnckdllbmgaaGreatDoor
open Go.RowKit Go.Shelf
attribute [local go_sem] Oper.semAt_some

/-- the blocks of S lie as they lay -/
def KeepS (S : Nat → Prop) (W W' : World) : Prop := ∀ k, S k → W'.heap[k]? = W.heap[k]?
theorem KeepS.t {S : Nat → Prop} {A B C : World} (h : KeepS S A B) (g : KeepS S B C) : KeepS S A C := fun k hk => (g k hk).trans (h k hk)
theorem KeepS.b {S : Nat → Prop} {w : World} (hS : ∀ k, S k → k < w.heap.size) (W : World) (l : Nat) (o o' : Obj) (hl : w.heap.size ≤ l) (_ : W.heap[l]? = some o) (_ : o.isCells = false) (_ : o.isWalk = false) : KeepS S W (W.putObj l o') :=
  fun k hk => World.putObj_heap_other (fun e => by have := hS k hk; omega)
theorem KeepS.cell {S : Nat → Prop} {W W' : World} (h : KeepS S W W') {p : Addr} (hp : S p.block) : W'.cell? p = W.cell? p := by
  unfold World.cell?; rw [h _ hp]
theorem KeepS.frozen {S : Nat → Prop} {W W' : World} (h : KeepS S W W') {p : Addr} (hp : S p.block) : W'.frozen? p = W.frozen? p := by
  unfold World.frozen?; rw [h _ hp]
theorem KeepS.of_below {S : Nat → Prop} {n : Nat} {W W' : World} (h : Below n W W') (hS : ∀ k, S k → k < n) : KeepS S W W' := fun k hk => h.block k (hS k hk)
/-- the block of a slice value is of S -/
def InS (S : Nat → Prop) (v : Value) : Prop := ∀ a n c, v = .slice (some a) n c → 0 < n → S a.block
theorem Sl.keepS {S : Nat → Prop} {w w' : World} {v : Value} {n : Nat} {C : Nat → Value} (h : Sl w v n C) (hk : KeepS S w w') (hi : InS S v) : Sl w' v n C := by
  obtain ⟨a, cap, rfl, h1, h2, h3⟩ := h
  refine ⟨a, cap, rfl, h1, h2, fun i hj => ?_⟩
  obtain ⟨b, off, rfl, hc⟩ := h3 i hj
  exact ⟨b, off, rfl, (hk.cell (p := ⟨b, off + i, none⟩) (hi ⟨b, off, none⟩ _ _ rfl (by omega))).trans hc⟩
theorem SI.keepS {S : Nat → Prop} {w w' : World} {v : Value} {xs : List Int} (h : SI w v xs) (hk : KeepS S w w') (hi : InS S v) : SI w' v xs := Sl.keepS h hk hi

theorem InS_of {S : Nat → Prop} {w : World} {v : Value} {xs : List Int} (h : SI w v xs) (hS : ∀ k, k < w.heap.size → S k) : InS S v := by
  intro a n c e hn
  subst e
  obtain ⟨a', cap, he, _, _, h3⟩ := h
  simp at he
  obtain ⟨rfl, rfl, rfl⟩ := he
  obtain ⟨b, off, ha, hc⟩ := h3 0 hn
  cases ha
  exact hS _ (World.block_lt_of_cell? w _ hc)
/-- the jobs that are not in us -/
abbrev JobOf (N : Nat) (us : List Int) := { j : Nat // j < N ∧ us.any (fun y => (j : Int) == y) = false }
/-- what has come when the jobs before k are over -/
def uptoJ (N : Nat) (us : List Int) : Nat → List (JobOf N us)
  | 0 => []
  | k + 1 => uptoJ N us k ++ if h : k < N ∧ us.any (fun y => (k : Int) == y) = false then [⟨k, h⟩] else []
theorem uptoJ_in {N : Nat} {us : List Int} {k : Nat} (h : us.any (fun y => (k : Int) == y) = true) : uptoJ N us (k + 1) = uptoJ N us k := by simp [uptoJ, h]
theorem uptoJ_new {N : Nat} {us : List Int} {k : Nat} (hk : k < N) (h : us.any (fun y => (k : Int) == y) = false) : uptoJ N us (k + 1) = uptoJ N us k ++ [⟨k, hk, h⟩] := by
  show uptoJ N us k ++ _ = _
  rw [dif_pos ⟨hk, h⟩]
theorem uptoJ_len {N : Nat} {us : List Int} : ∀ k, (uptoJ N us k).length ≤ k
  | 0 => Nat.le_refl _
  | k + 1 => by
    have := uptoJ_len (N := N) (us := us) k
    unfold uptoJ
    split <;> simp <;> omega
theorem uptoJ_last {N : Nat} {us : List Int} {pre : List (JobOf N us)} {x : JobOf N us} : ∀ j, j ≤ N → uptoJ N us j = pre ++ [x] → x.1 < j ∧ uptoJ N us x.1 = pre ∧ ∀ i, x.1 < i → i < j → us.any (fun y => (i : Int) == y) = true
  | 0, _, h => by simp [uptoJ] at h
  | j + 1, hj, h => by
    cases hn : us.any fun y => (j : Int) == y
    · rw [uptoJ_new (by omega) hn] at h
      obtain ⟨h1, h2⟩ := List.append_inj' h rfl
      simp only [List.cons.injEq, and_true] at h2
      have e : x.1 = j := by rw [← h2]
      exact ⟨by omega, by rw [e]; exact h1, fun i h3 h4 => by omega⟩
    · rw [uptoJ_in hn] at h
      obtain ⟨h1, h2, h3⟩ := uptoJ_last j (by omega) h
      refine ⟨by omega, h2, fun i h4 h5 => ?_⟩
      by_cases e : i = j
      · subst e; exact hn
      · exact h3 i h4 (by omega)
theorem uptoJ_nil {N : Nat} {us : List Int} : ∀ j, j ≤ N → uptoJ N us j = [] → ∀ i, i < j → us.any (fun y => (i : Int) == y) = true
  | 0, _, _, i, hi => by omega
  | j + 1, hj, h, i, hi => by
    cases hn : us.any fun y => (j : Int) == y
    · rw [uptoJ_new (by omega) hn] at h; simp at h
    · rw [uptoJ_in hn] at h
      by_cases e : i = j
      · subst e; exact hn
      · exact uptoJ_nil j (by omega) h i (by omega)

theorem grown_drewN (W : World) (m : Nat) : W.grownBy (W.drewN m) none := ⟨rfl, rfl, rfl, Nat.le_refl _, fun _ _ _ => rfl⟩
set_option maxRecDepth 100000 in
set_option maxHeartbeats 2000000 in
theorem others1_in (fr : Nat) (hn : 1 ≤ fr) (l Bn Bp : Nat) (S : Nat → Prop) (N : Nat) (hN : N ≤ 100000) (u : Value) (us : List Int) (hS1 : S Bn) (hS2 : S Bp) (hSu : InS S u) (J Jx : List (JobOf N us) → World → Prop)
    (hJd : ∀ xs W m, J xs W → J xs (W.drewN m))
    (hY : ∀ pre x W, J pre W → pre.length < N → YieldAt Fence.wide (fr - 1) Tryz.prog l #[.int .i64 ((x : JobOf N us).1 : Int)] W fun e W' =>
      (e = .returned (.bool true) ∧ J (pre ++ [x]) W' ∧ KeepS S W W') ∨ (e = .returned (.bool false) ∧ Jx (pre ++ [x]) W'))
    (W : World) (hBn : W.cell? ⟨Bn, 0, none⟩ = some (.int .i64 N)) (hBp : W.cell? ⟨Bp, 0, none⟩ = some u) (hu : SI W u us) (h0 : J [] W) :
    CallsIn Fence.wide fr Tryz.prog 110 #[.func (.yield l) #[] #[], .pointer (some ⟨Bn, 0, none⟩), .pointer (some ⟨Bp, 0, none⟩)] W fun e W' => (∃ v, e = .returned v) ∧
      ((∃ xs, xs = uptoJ N us N ∧ J xs W') ∨ (∃ pre, (∃ k, k ≤ N ∧ pre = uptoJ N us k) ∧ Jx pre W')) := by
  have HU := Lib.hid hu; clear hu
  have HP := Lib.hid hBp; clear hBp
  refine callsIn_of_wp Tryz.func110 rfl trivial ?_ rfl
  simp only [Tryz.ntmps110, List.size_toArray, List.length_cons, List.length_nil, Nat.reduceAdd, Nat.reduceSub, Array.replicate_succ, Array.replicate_zero, List.push_toArray, List.append_toArray, List.nil_append, List.cons_append]
  gi_wp2
  gi_loopw [6] (fun i wr => ∃ k : Nat, k ≤ N ∧ i = .int .i64 k ∧ J (uptoJ N us k) wr ∧ KeepS S W wr) (fun i _ => N - (intOf i).toNat)
  case atStart => exact ⟨0, Nat.zero_le _, rfl, h0, fun _ _ => rfl⟩
  case round =>
    obtain ⟨k, hk, rfl, hJs, hnx⟩ := hrel
    by_cases hlt : k < N
    · have hp1 : wr.cell? ⟨Bp, 0, none⟩ = some u := (hnx.cell (p := ⟨Bp, 0, none⟩) hS2).trans HP.out
      have hu1 : SI wr u us := HU.out.keepS hnx hSu
      have HU1 := Lib.hid hu1; clear hu1
      have hq : CallsIn Fence.wide (fr - 1) Tryz.prog 68 #[u, .int .i64 k] wr _ := callsIn_wide.2 (contains_int u k us wr HU1.out)
      cases hb : us.any fun y => (k : Int) == y
      · rw [hb] at hq
        have HQ := Lib.hid hq; clear hq
        gi_wp2
        refine ⟨trivial, HQ.out.mono ?_⟩
        rintro e w1 ⟨rfl, m, rfl⟩
        obtain ⟨fn, tmps, assign, body, hy, hR⟩ := hY _ ⟨k, hlt, hb⟩ (wr.drewN m) (hJd _ _ m hJs) (Nat.lt_of_le_of_lt (uptoJ_len _) hlt)
        dsimp only at hy
        gi_wp2
        refine hR.mono ?_
        rintro e W3 (⟨rfl, hJ3, hk3⟩ | ⟨rfl, hJx3⟩)
        · gi_wp2
          go_roundw
          case rel => exact ⟨k + 1, by omega, by go_num, by rw [uptoJ_new hlt hb]; exact hJ3, hnx.t (KeepS.t (B := wr.drewN m) (fun _ _ => rfl) hk3)⟩
          case measure => simp [intOf]; omega
        · gi_wp2
          refine bodyPost_ret (results_none rfl _ _ _) rfl ?_
          exact ⟨⟨_, rfl⟩, .inr ⟨_, ⟨k + 1, by omega, (uptoJ_new hlt hb).symm⟩, hJx3⟩⟩
      · rw [hb] at hq
        have HQ := Lib.hid hq; clear hq
        gi_wp2
        refine ⟨trivial, HQ.out.mono ?_⟩
        rintro e w1 ⟨rfl, m, rfl⟩
        gi_wp2
        refine ⟨fun _ h => (by cases h), ?_⟩
        gi_wp2
        go_roundw
        case rel => exact ⟨k + 1, by omega, by go_num, by rw [uptoJ_in hb]; exact hJd _ _ m hJs, hnx.t (fun _ _ => rfl)⟩
        case measure => simp [intOf]; omega
    · obtain rfl : k = N := by omega
      gi_wp2
      go_end0
      exact ⟨⟨_, rfl⟩, .inl ⟨_, rfl, hJs⟩⟩

/-- THE CONTRACT of the iterator: all jobs that are not in us, in ascending order; or the first of them -/
theorem others_stops (fr : Nat) (hn : 1 ≤ fr) (Bn Bp : Nat) (S : Nat → Prop) (N : Nat) (hN : N ≤ 100000) (u : Value) (us : List Int) (hS1 : S Bn) (hS2 : S Bp) (hSu : InS S u) (w : World) (hSw : ∀ k, S k → k < w.heap.size)
    (hBn : w.cell? ⟨Bn, 0, none⟩ = some (.int .i64 N)) (hBp : w.cell? ⟨Bp, 0, none⟩ = some u) (hu : SI w u us) :
    SeqStopsK Fence.wide fr Tryz.prog 110 #[.pointer (some ⟨Bn, 0, none⟩), .pointer (some ⟨Bp, 0, none⟩)] (fun x : JobOf N us => #[.int .i64 (x.1 : Int)]) (KeepS S) (fun xs => xs = uptoJ N us N) (fun pre => ∃ k, k ≤ N ∧ pre = uptoJ N us k) N w := fun l J Jx W hW hJ _ hY h0 => by
  have hk : KeepS S w W := KeepS.of_below hW hSw
  exact others1_in fr hn l Bn Bp S N hN u us hS1 hS2 hSu J Jx (fun xs W' m h => hJ xs W' _ none h (grown_drewN W' m) (fun r e => by cases e)) hY W
    ((hk.cell (p := ⟨Bn, 0, none⟩) hS1).trans hBn) ((hk.cell (p := ⟨Bp, 0, none⟩) hS2).trans hBp) (hu.keepS hk hSu) h0
theorem others_any (n : Int) (u : Value) (w : World) (hu : ∃ a k c, u = .slice a k c) :
    Calls Tryz.prog 77 #[.int .i64 n, u] w fun e w' => e = .returned (.func (.func 110) #[] #[.pointer (some ⟨w.heap.size, 0, none⟩), .pointer (some ⟨w.heap.size + 1, 0, none⟩)]) ∧
      w' = (w.alloc (.cells #[.int .i64 n] 3)).alloc (.cells #[u] 24) := by
  obtain ⟨a, k, c, rfl⟩ := hu
  go_enter Tryz.func77, Tryz.ntmps77
  go_wp2
  go_ret
  exact ⟨rfl, rfl⟩
end Go.Proofs.YtehbnckdllbmgaaGreatDoor
