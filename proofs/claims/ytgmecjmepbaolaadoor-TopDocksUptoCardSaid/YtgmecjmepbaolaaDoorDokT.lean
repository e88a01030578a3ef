/- The types of docks, as the walk of regions wants them. -/
import Derived.Test.YtgmecjmepbaolaaDoorQev
import Derived.Shelf.Abstract
set_option linter.unusedSimpArgs false
set_option linter.unusedVariables false
namespace Go.Proofs.YtgmecjmepbaolaaDoor
open Go.RowKit

def dkFo : TypeId → Nat → Option Nat
  | 29, 0 => some 0
  | 29, 1 => some 1
  | 29, 2 => some 2
  | 29, 3 => some 4
  | 29, 4 => some 5
  | 29, 5 => some 6
  | 40, 0 => some 0
  | 40, 1 => some 1
  | 40, 2 => some 2
  | 40, 3 => some 4
  | 40, 4 => some 5
  | 40, 5 => some 6
  | 25, 0 => some 0
  | 25, 1 => some 1
  | 27, 0 => some 0
  | 27, 1 => some 1
  | 53, 0 => some 0
  | 53, 1 => some 1
  | 53, 2 => some 2
  | _, _ => none
theorem dkFo_ok (t f d : Nat) (h : dkFo t f = some d) (b off : Nat) (w : World) : (Instr.fieldAt t (.pointer (some ⟨b, off, none⟩)) f).run Tryd.prog w = .ok (.pointer (some ⟨b, off + d, none⟩)) w := by
  unfold dkFo at h
  split at h
  all_goals first | (cases h; done) | (cases h; go_simp)
def dkSc : TypeId → Bool
  | 3 => true
  | 9 => true
  | 4 => true
  | 32 => true
  | _ => false
theorem agg_of {t : TypeId} {d : TypeDesc} (h : Tryd.prog.underlying t = some d) (hd : (match d with | .struct _ | .array _ _ => true | _ => false) = false) (w : World) : (isAgg t).run Tryd.prog w = .ok false w := by
  unfold isAgg; rw [Sem.run_bind, run_underlying h w]; cases d <;> simp_all
theorem load_of {t : TypeId} (h : ∀ w, (isAgg t).run Tryd.prog w = .ok false w) (p : Addr) (v : Value) (w : World) (hc : w.cell? p = some v) : (Instr.loadAt t (.pointer (some p))).run Tryd.prog w = .ok v w := by
  simp only [Instr.loadAt, Instr.sureAddr, Sem.run_bind, Sem.run_pure, Result.andThen_ok, loadVar, h]
  go_simp
theorem dkSc_ok (t : TypeId) (h : dkSc t = true) (p : Addr) (v : Value) (w : World) (hc : w.cell? p = some v) : (Instr.loadAt t (.pointer (some p))).run Tryd.prog w = .ok v w := by
  unfold dkSc at h
  split at h
  · exact load_of (agg_of Tryd.underlying3 rfl) p v w hc
  · exact load_of (agg_of Tryd.underlying9 rfl) p v w hc
  · exact load_of (agg_of Tryd.underlying4 rfl) p v w hc
  · exact load_of (agg_of Tryd.underlying32 rfl) p v w hc
  · cases h
def dkAg : TypeId → Option Nat
  | 29 => some 8
  | 40 => some 8
  | 53 => some 3
  | 25 => some 2
  | 27 => some 2
  | _ => none
theorem dkAg_ok (t : TypeId) (m : Nat) (h : dkAg t = some m) (b off : Nat) (cs : List Value) (w : World) (hl : cs.length = m) (hr : w.rangeAt b off cs) : (Instr.loadAt t (.pointer (some ⟨b, off, none⟩))).run Tryd.prog w = .ok (.agg cs.toArray) w := by
  unfold dkAg at h
  split at h
  all_goals first | (cases h; done) | skip
  · exact run_loadAt_mid w b off _ cs _ hr Tryd.underlying29 rfl (by rw [hl]; cases h; kernel_rfl)
  · exact run_loadAt_mid w b off _ cs _ hr Tryd.underlying40 rfl (by rw [hl]; cases h; kernel_rfl)
  · exact run_loadAt_mid w b off _ cs _ hr Tryd.underlying53 rfl (by rw [hl]; cases h; kernel_rfl)
  · exact run_loadAt_mid w b off _ cs _ hr Tryd.underlying25 rfl (by rw [hl]; cases h; kernel_rfl)
  · exact run_loadAt_mid w b off _ cs _ hr Tryd.underlying27 rfl (by rw [hl]; cases h; kernel_rfl)
def dkEs : TypeId → Option Nat
  | 22 => some 3
  | 23 => some 8
  | 38 => some 8
  | 34 => some 1
  | _ => none
theorem dkEs_ok (t : TypeId) (q : Nat) (h : dkEs t = some q) (b off l c j : Nat) (w : World) (hj : j < l) : (Instr.indexAt t (.slice (some ⟨b, off, none⟩) l c) (.int .i64 j)).run Tryd.prog w = .ok (.pointer (some ⟨b, off + j * q, none⟩)) w := by
  have i1 : (j : Int) < l := by omega
  unfold dkEs at h
  split at h
  all_goals first | (cases h; done) | (cases h; go_simp)
def dkLn : TypeId → Bool
  | 22 => true
  | 23 => true
  | 38 => true
  | 34 => true
  | _ => false
theorem dkLn_ok (t : TypeId) (h : dkLn t = true) (a : Option Addr) (n c : Nat) (ty : TypeId) (w : World) : (Builtin.len_ #[t] ty #[.slice a n c]).run Tryd.prog w = .ok (.int .i64 n) w := by
  unfold dkLn at h
  split at h
  all_goals first | (cases h; done) | go_simp
theorem dkSl_ok (t : TypeId) (h : dkLn t = true) (a : Option Addr) (n c j : Nat) (w : World) (hj : j ≤ c) : (Instr.sliceAt t (.slice a n c) none (some (.int .i64 j)) none).run Tryd.prog w = .ok (.slice a j c) w := by
  have i1 : (j : Int) ≤ c := by omega
  unfold dkLn at h
  split at h
  all_goals first | (cases h; done) | go_simp
def dkEn : FuncId → Bool
  | 27 => true
  | 64 => true
  | 46 => true
  | 28 => true
  | 29 => true
  | 45 => true
  | 47 => true
  | 48 => true
  | 31 => true
  | 38 => true
  | 20 => true
  | _ => false
theorem dkEn_ok (f : FuncId) (h : dkEn f = true) (args : Array Value) (w : World) : (callFunc f args).run Tryd.prog w = .ok (.enter f args) w := by
  unfold dkEn at h
  split at h
  · exact enters_of Tryd.func27 (by kernel_rfl) rfl args w
  · exact enters_of Tryd.func64 (by kernel_rfl) rfl args w
  · exact enters_of Tryd.func46 (by kernel_rfl) rfl args w
  · exact enters_of Tryd.func28 (by kernel_rfl) rfl args w
  · exact enters_of Tryd.func29 (by kernel_rfl) rfl args w
  · exact enters_of Tryd.func45 (by kernel_rfl) rfl args w
  · exact enters_of Tryd.func47 (by kernel_rfl) rfl args w
  · exact enters_of Tryd.func48 (by kernel_rfl) rfl args w
  · exact enters_of Tryd.func31 (by kernel_rfl) rfl args w
  · exact enters_of Tryd.func38 (by kernel_rfl) rfl args w
  · exact enters_of Tryd.func20 (by kernel_rfl) rfl args w
  · cases h
def dkT : QTab := ⟨dkFo, dkSc, dkAg, dkEs, dkLn, dkEn, dkLn⟩
theorem dkT_ok : dkT.Ok := ⟨dkFo_ok, dkSc_ok, dkAg_ok, dkEs_ok, dkLn_ok, dkEn_ok, dkSl_ok⟩
end Go.Proofs.YtgmecjmepbaolaaDoor
