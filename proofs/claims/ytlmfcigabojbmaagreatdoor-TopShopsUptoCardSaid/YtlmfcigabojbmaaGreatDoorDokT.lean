/- The types of docks, as the walk of regions wants them. -/
import Derived.Test.YtlmfcigabojbmaaGreatDoorQev
import Derived.Shelf.Abstract
set_option linter.unusedSimpArgs false
set_option linter.unusedVariables false
namespace Go.Proofs.YtlmfcigabojbmaaGreatDoor
open Go.RowKit

def dkFo : TypeId → Nat → Option Nat
  | 50, 0 => some 0
  | 50, 1 => some 1
  | 50, 2 => some 2
  | 50, 3 => some 4
  | 50, 4 => some 5
  | 50, 5 => some 6
  | 48, 0 => some 0
  | 48, 1 => some 1
  | 46, 0 => some 0
  | 46, 1 => some 1
  | 25, 0 => some 0
  | 25, 1 => some 1
  | 25, 2 => some 2
  | _, _ => none
theorem dkFo_ok (t f d : Nat) (h : dkFo t f = some d) (b off : Nat) (w : World) : (Instr.fieldAt t (.pointer (some ⟨b, off, none⟩)) f).run Tryz.prog w = .ok (.pointer (some ⟨b, off + d, none⟩)) w := by
  unfold dkFo at h
  split at h
  all_goals first | (cases h; done) | (cases h; go_simp)
def dkSc : TypeId → Bool
  | 3 => true
  | 9 => true
  | 4 => true
  | 27 => true
  | _ => false
theorem agg_of {t : TypeId} {d : TypeDesc} (h : Tryz.prog.underlying t = some d) (hd : (match d with | .struct _ | .array _ _ => true | _ => false) = false) (w : World) : (isAgg t).run Tryz.prog w = .ok false w := by
  unfold isAgg; rw [Sem.run_bind, run_underlying h w]; cases d <;> simp_all
theorem load_of {t : TypeId} (h : ∀ w, (isAgg t).run Tryz.prog w = .ok false w) (p : Addr) (v : Value) (w : World) (hc : w.cell? p = some v) : (Instr.loadAt t (.pointer (some p))).run Tryz.prog w = .ok v w := by
  simp only [Instr.loadAt, Instr.sureAddr, Sem.run_bind, Sem.run_pure, Result.andThen_ok, loadVar, h]
  go_simp
theorem dkSc_ok (t : TypeId) (h : dkSc t = true) (p : Addr) (v : Value) (w : World) (hc : w.cell? p = some v) : (Instr.loadAt t (.pointer (some p))).run Tryz.prog w = .ok v w := by
  unfold dkSc at h
  split at h
  · exact load_of (agg_of Tryz.underlying3 rfl) p v w hc
  · exact load_of (agg_of Tryz.underlying9 rfl) p v w hc
  · exact load_of (agg_of Tryz.underlying4 rfl) p v w hc
  · exact load_of (agg_of Tryz.underlying27 rfl) p v w hc
  · cases h
def dkAg : TypeId → Option Nat
  | 50 => some 8
  | 25 => some 3
  | 48 => some 2
  | 46 => some 2
  | _ => none
theorem dkAg_ok (t : TypeId) (m : Nat) (h : dkAg t = some m) (b off : Nat) (cs : List Value) (w : World) (hl : cs.length = m) (hr : w.rangeAt b off cs) : (Instr.loadAt t (.pointer (some ⟨b, off, none⟩))).run Tryz.prog w = .ok (.agg cs.toArray) w := by
  unfold dkAg at h
  split at h
  all_goals first | (cases h; done) | skip
  · exact run_loadAt_mid w b off _ cs _ hr Tryz.underlying50 rfl (by rw [hl]; cases h; kernel_rfl)
  · exact run_loadAt_mid w b off _ cs _ hr Tryz.underlying25 rfl (by rw [hl]; cases h; kernel_rfl)
  · exact run_loadAt_mid w b off _ cs _ hr Tryz.underlying48 rfl (by rw [hl]; cases h; kernel_rfl)
  · exact run_loadAt_mid w b off _ cs _ hr Tryz.underlying46 rfl (by rw [hl]; cases h; kernel_rfl)
def dkEs : TypeId → Option Nat
  | 23 => some 3
  | 26 => some 8
  | 81 => some 1
  | _ => none
theorem dkEs_ok (t : TypeId) (q : Nat) (h : dkEs t = some q) (b off l c j : Nat) (w : World) (hj : j < l) : (Instr.indexAt t (.slice (some ⟨b, off, none⟩) l c) (.int .i64 j)).run Tryz.prog w = .ok (.pointer (some ⟨b, off + j * q, none⟩)) w := by
  have i1 : (j : Int) < l := by omega
  unfold dkEs at h
  split at h
  all_goals first | (cases h; done) | (cases h; go_simp)
def dkLn : TypeId → Bool
  | 23 => true
  | 26 => true
  | 81 => true
  | _ => false
theorem dkLn_ok (t : TypeId) (h : dkLn t = true) (a : Option Addr) (n c : Nat) (ty : TypeId) (w : World) : (Builtin.len_ #[t] ty #[.slice a n c]).run Tryz.prog w = .ok (.int .i64 n) w := by
  unfold dkLn at h
  split at h
  all_goals first | (cases h; done) | go_simp
theorem dkSl_ok (t : TypeId) (h : dkLn t = true) (a : Option Addr) (n c j : Nat) (w : World) (hj : j ≤ c) : (Instr.sliceAt t (.slice a n c) none (some (.int .i64 j)) none).run Tryz.prog w = .ok (.slice a j c) w := by
  have i1 : (j : Int) ≤ c := by omega
  unfold dkLn at h
  split at h
  all_goals first | (cases h; done) | go_simp
def dkEn : FuncId → Bool
  | 21 => true
  | 67 => true
  | 42 => true
  | 22 => true
  | 23 => true
  | 49 => true
  | 64 => true
  | 65 => true
  | 41 => true
  | _ => false
theorem dkEn_ok (f : FuncId) (h : dkEn f = true) (args : Array Value) (w : World) : (callFunc f args).run Tryz.prog w = .ok (.enter f args) w := by
  unfold dkEn at h
  split at h
  · exact enters_of Tryz.func21 (by kernel_rfl) rfl args w
  · exact enters_of Tryz.func67 (by kernel_rfl) rfl args w
  · exact enters_of Tryz.func42 (by kernel_rfl) rfl args w
  · exact enters_of Tryz.func22 (by kernel_rfl) rfl args w
  · exact enters_of Tryz.func23 (by kernel_rfl) rfl args w
  · exact enters_of Tryz.func49 (by kernel_rfl) rfl args w
  · exact enters_of Tryz.func64 (by kernel_rfl) rfl args w
  · exact enters_of Tryz.func65 (by kernel_rfl) rfl args w
  · exact enters_of Tryz.func41 (by kernel_rfl) rfl args w
  · cases h
def dkT : QTab := ⟨dkFo, dkSc, dkAg, dkEs, dkLn, dkEn, dkLn⟩
theorem dkT_ok : dkT.Ok := ⟨dkFo_ok, dkSc_ok, dkAg_ok, dkEs_ok, dkLn_ok, dkEn_ok, dkSl_ok⟩
end Go.Proofs.YtlmfcigabojbmaaGreatDoor
