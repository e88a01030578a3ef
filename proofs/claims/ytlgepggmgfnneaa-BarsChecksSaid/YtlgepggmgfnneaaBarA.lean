/- Parts and strings in memory; contracts of what finds a part. -/
import Derived.Test.YtlgepggmgfnneaaApp
import Derived.Laws.Rows
import Derived.Laws.Tables
namespace Go.Proofs.Ytlgepggmgfnneaa
open Go.RowKit

/-- what counts of a part; rest: its other cells -/
structure PartD where
  id : ByteArray
  sec : ByteArray
  grade : ByteArray
  kind : Int
  len : Int
  rest : Nat → Value
def PartD.cell (p : PartD) : Nat → Value
  | 0 => .string p.id
  | 2 => .int .i64 p.kind
  | 4 => .string p.grade
  | 8 => .string p.sec
  | 9 => .int .i64 p.len
  | j => p.rest j
def PartD.arr (p : PartD) : Array Value := #[.string p.id, p.rest 1, .int .i64 p.kind, p.rest 3, .string p.grade, p.rest 5, p.rest 6, p.rest 7, .string p.sec, .int .i64 p.len, p.rest 10, p.rest 11, p.rest 12, p.rest 13, p.rest 14, p.rest 15, p.rest 16, p.rest 17]
def PartD.agg (p : PartD) : Value := .agg p.arr
theorem PartD.arr_at (p : PartD) (j : Nat) (v : Value) (h : p.arr.toList[j]? = some v) : j < 18 ∧ v = p.cell j := by
  unfold PartD.arr at h
  match j, h with
  | 0, h => simp at h; exact ⟨by omega, h.symm⟩
  | 1, h => simp at h; exact ⟨by omega, h.symm⟩
  | 2, h => simp at h; exact ⟨by omega, h.symm⟩
  | 3, h => simp at h; exact ⟨by omega, h.symm⟩
  | 4, h => simp at h; exact ⟨by omega, h.symm⟩
  | 5, h => simp at h; exact ⟨by omega, h.symm⟩
  | 6, h => simp at h; exact ⟨by omega, h.symm⟩
  | 7, h => simp at h; exact ⟨by omega, h.symm⟩
  | 8, h => simp at h; exact ⟨by omega, h.symm⟩
  | 9, h => simp at h; exact ⟨by omega, h.symm⟩
  | 10, h => simp at h; exact ⟨by omega, h.symm⟩
  | 11, h => simp at h; exact ⟨by omega, h.symm⟩
  | 12, h => simp at h; exact ⟨by omega, h.symm⟩
  | 13, h => simp at h; exact ⟨by omega, h.symm⟩
  | 14, h => simp at h; exact ⟨by omega, h.symm⟩
  | 15, h => simp at h; exact ⟨by omega, h.symm⟩
  | 16, h => simp at h; exact ⟨by omega, h.symm⟩
  | 17, h => simp at h; exact ⟨by omega, h.symm⟩
  | j + 18, h => simp at h
def noPart : PartD := ⟨.empty, .empty, .empty, 0, 0, fun _ => undef⟩
def pi (ps : List PartD) (k : Nat) : PartD := ps.getD k noPart
theorem pi_lt {ps : List PartD} {k : Nat} (h : k < ps.length) : pi ps k = ps[k] := by simp [pi, h]
theorem pi_mem {ps : List PartD} {k : Nat} (h : k < ps.length) : pi ps k ∈ ps := by rw [pi_lt h]; exact List.getElem_mem h
theorem mem_pi {ps : List PartD} {x : PartD} (h : x ∈ ps) : ∃ k, k < ps.length ∧ pi ps k = x := by
  obtain ⟨k, hk, rfl⟩ := List.mem_iff_getElem.1 h; exact ⟨k, hk, pi_lt hk⟩
def si (ss : List ByteArray) (k : Nat) : ByteArray := ss.getD k .empty
theorem si_lt {ss : List ByteArray} {k : Nat} (h : k < ss.length) : si ss k = ss[k] := by simp [si, h]
theorem si_mem {ss : List ByteArray} {k : Nat} (h : k < ss.length) : si ss k ∈ ss := by rw [si_lt h]; exact List.getElem_mem h
theorem mem_si {ss : List ByteArray} {x : ByteArray} (h : x ∈ ss) : ∃ k, k < ss.length ∧ si ss k = x := by
  obtain ⟨k, hk, rfl⟩ := List.mem_iff_getElem.1 h; exact ⟨k, hk, si_lt hk⟩

/-- the slice value v reads as strings -/
def SStr (w : World) (v : Value) (ss : List ByteArray) : Prop := Sl w v ss.length fun i => .string (si ss i)
/-- the slice value v reads as parts -/
def SP (w : World) (v : Value) (ps : List PartD) : Prop :=
  ∃ a cap, v = .slice a ps.length cap ∧ ps.length ≤ cap ∧ cap ≤ maxLen ∧ ∀ i, i < ps.length → (pi ps i).arr.all (·.oneCell') = true ∧ ∃ b off, a = some ⟨b, off, none⟩ ∧ ∀ j, j < 18 → w.cell? ⟨b, off + i * 18 + j, none⟩ = some ((pi ps i).cell j)
theorem SStr.keep {w w' : World} {v : Value} {xs : List ByteArray} (h : SStr w v xs) (hb : Below w.heap.size w w') : SStr w' v xs := Sl.keep h hb
theorem SP.keep {w w' : World} {v : Value} {ps : List PartD} (h : SP w v ps) (hb : Below w.heap.size w w') : SP w' v ps := by
  obtain ⟨a, cap, rfl, h1, h2, h3⟩ := h
  refine ⟨a, cap, rfl, h1, h2, fun i hi => ?_⟩
  obtain ⟨ho, b, off, ha, hc⟩ := h3 i hi
  exact ⟨ho, b, off, ha, fun j hj => cell_keep hb (hc j hj)⟩

theorem OwnI.dn {w : World} {B : Nat} {v : Value} {r : List Int} (h : OwnI w B v r) (m : Nat) : OwnI (w.drewN m) B v r := h
theorem run_load_part {w : World} {b o : Nat} {p : PartD} (h : ∀ j, j < 18 → w.cell? ⟨b, o + j, none⟩ = some (p.cell j)) : (loadVar 58 ⟨b, o, none⟩).run Try.prog w = .ok p.agg w := by
  have hl : (loadCells ⟨b, o, none⟩ p.arr.toList.length).run Try.prog w = .ok p.arr.toList.toArray w :=
    run_loadCells_list (P := Try.prog) w ⟨b, o, none⟩ p.arr.toList (fun j v hv => by
      have hadd : (⟨b, o, none⟩ : Addr).add j = ⟨b, o + j, none⟩ := by unfold Addr.add; split <;> simp_all
      obtain ⟨h1, rfl⟩ := p.arr_at j v hv
      rw [hadd, h j h1])
  have hi : (Try.prog.info? 58).map (·.size) = some 18 := by kernel_rfl
  cases hq : Try.prog.info? 58 with
  | none => simp [hq] at hi
  | some i =>
    have hs : i.size = 18 := by simpa [hq] using hi
    have hagg : (isAgg 58).run Try.prog w = .ok true w := by
      unfold isAgg
      rw [Sem.run_bind, run_underlying Try.underlying58 w]
      rfl
    have h18 : p.arr.toList.length = 18 := rfl
    rw [h18] at hl
    simp only [Array.toArray_toList] at hl
    simp [loadVar, Sem.run_bind, hagg, sizeOf, typeInfo, hq, hs, hl, PartD.agg]
theorem wp_load_part {o : Oper} {a : Act} {w : World} {K : Act → World → Prop} {Q : Exit → Act → World → Prop} (x : Operand) (ho : o.op = .load 58 x)
    (b off : Nat) (p : PartD) (hx : a.eval x = .pointer (some ⟨b, off, none⟩)) (hc : ∀ j, j < 18 → w.cell? ⟨b, off + j, none⟩ = some (p.cell j)) (h : K (a.put o.dst p.agg) w) : o.wp Try.prog a w K Q := by
  unfold Oper.wp execOp
  simp only [ho, hx, Instr.loadAt, Instr.sureAddr, Sem.run_bind, Sem.run_pure, Result.andThen_ok, run_load_part hc]
  exact h
theorem wpList_load_part {ops : Array Oper} {rest : List Oper} {o : Oper} {a : Act} {w : World} {Q : Exit → Act → World → Prop} (hgd : o.guard = none) (x : Operand) (ho : o.op = .load 58 x)
    (b off : Nat) (p : PartD) (hx : a.eval x = .pointer (some ⟨b, off, none⟩)) (hc : ∀ j, j < 18 → w.cell? ⟨b, off + j, none⟩ = some (p.cell j)) (h : wpList Try.prog ops Q rest (a.put o.dst p.agg) w) : wpList Try.prog ops Q (o :: rest) a w :=
  wpList_plain hgd fun _ hK => wp_load_part x ho b off p hx hc (hK _ _ h)

theorem pieces1_any (p : PartD) (X : Nat) (id : ByteArray) (w : World) (hc : w.cell? ⟨X, 0, none⟩ = some (.string id)) :
    Calls Try.prog 45 #[p.agg, .pointer (some ⟨X, 0, none⟩)] w fun e w' => e = .returned (.bool (p.id.toList == id.toList)) ∧ Below w.heap.size w w' := by
  have hX : X < w.heap.size := World.block_lt_of_cell? w _ hc
  unfold PartD.agg PartD.arr
  go_enter Try.func45, Try.ntmps45
  go_wp2_with fail
  go_ret
  exact ⟨rfl, (Below.refl _ _).alloc (Nat.le_refl _) _⟩

/-- A function value that answers a predicate of one part. -/
def FnPt (fv : Value) (W0 : World) (p : PartD → Bool) : Prop :=
  ∃ F caps, fv = .func (.func F) #[] caps ∧ (∀ args w, (callFunc F args).run Try.prog w = .ok (.enter F args) w) ∧
    ∀ x w', Below W0.heap.size W0 w' → Calls Try.prog F (#[x.agg] ++ caps) w' fun e w'' => e = .returned (.bool (p x)) ∧ Below w'.heap.size w' w''
def findPt (p : PartD → Bool) (xs : List PartD) : Int := match xs.findIdx? p with | some i => i | none => -1
theorem findPt_hit (p : PartD → Bool) (xs : List PartD) (k : Nat) (hk : k < xs.length) (h1 : ∀ j, j < k → p (pi xs j) = false) (h2 : p (pi xs k) = true) : findPt p xs = k := by
  have : xs.findIdx? p = some k := by
    rw [List.findIdx?_eq_some_iff_getElem]
    refine ⟨hk, by rw [pi_lt hk] at h2; simpa using h2, fun j hj => ?_⟩
    have := h1 j hj
    rw [pi_lt (show j < xs.length by omega)] at this
    simp [this]
  simp [findPt, this]
theorem findPt_miss (p : PartD → Bool) (xs : List PartD) (h1 : ∀ j, j < xs.length → p (pi xs j) = false) : findPt p xs = -1 := by
  have : xs.findIdx? p = none := by
    rw [List.findIdx?_eq_none_iff]
    intro x hx
    obtain ⟨j, hj, rfl⟩ := mem_pi hx
    exact h1 j hj
  simp [findPt, this]
theorem findPt_cases (p : PartD → Bool) (xs : List PartD) : (findPt p xs = -1 ∧ ∀ j, j < xs.length → p (pi xs j) = false) ∨ ∃ k : Nat, findPt p xs = k ∧ k < xs.length ∧ p (pi xs k) = true ∧ ∀ j, j < k → p (pi xs j) = false := by
  unfold findPt
  cases hh : xs.findIdx? p with
  | none =>
    rw [List.findIdx?_eq_none_iff] at hh
    exact .inl ⟨rfl, fun j hj => hh _ (pi_mem hj)⟩
  | some i =>
    rw [List.findIdx?_eq_some_iff_getElem] at hh
    obtain ⟨h1, h2, h3⟩ := hh
    refine .inr ⟨i, rfl, h1, by rw [pi_lt h1]; exact h2, fun j hj => ?_⟩
    have := h3 j hj
    rw [pi_lt (by omega)]; simpa using this

set_option maxHeartbeats 400000 in
theorem indexFunc_part (fv v : Value) (p : PartD → Bool) (xs : List PartD) (w : World) (h : SP w v xs) (hf : FnPt fv w p) :
    Calls Try.prog 44 #[v, fv] w fun e w' => e = .returned (.int .i64 (findPt p xs)) ∧ Below w.heap.size w w' := by
  obtain ⟨F, caps, rfl, hcf, hf⟩ := hf
  obtain ⟨a, cap, rfl, h1, h2, h3⟩ := h
  have HF := Lib.hid hf; clear hf
  have H3 := Lib.hid h3; clear h3
  have hm : xs.length ≤ 9223372036854775807 := by unfold maxLen at h2; omega
  go_enter Try.func44, Try.ntmps44
  go_wp2
  go_loopw [8] (fun i wr => ∃ k : Nat, k ≤ xs.length ∧ i = .int .i64 k ∧ Hid (Below w.heap.size w wr) ∧ Hid (∀ j, j < k → p (pi xs j) = false)) (fun i _ => xs.length - (intOf i).toNat)
  case atStart => exact ⟨0, Nat.zero_le _, rfl, Below.refl _ _, fun j hj => by omega⟩
  case round =>
    obtain ⟨k, hk, rfl, hb, hj⟩ := hrel
    by_cases hlt : k < xs.length
    · obtain ⟨_, b, off, ha, hc⟩ := H3.out k hlt
      rw [ha]
      have hc := fun j hj => cell_keep hb.out (hc j hj)
      have HX := Lib.hid (HF.out (pi xs k) wr hb.out)
      generalize hp : pi xs k = x at *
      have HP := Lib.hid hp
      have HC := Lib.hid hc
      clear hc hp
      go_wp2_with (with_reducible refine wpList_load_part rfl (.tmp 14) rfl b (off + k * 18) x rfl HC.out ?_)
      refine HX.out.mono ?_
      rintro e w1 ⟨rfl, hb1⟩
      have HB := Lib.hid (ext_trans hb.out hb1)
      clear hb1
      generalize hpx : p x = t
      have HT := Lib.hid hpx
      clear hpx
      cases t
      · go_wp2_with fail
        go_roundw
        case rel => exact ⟨k + 1, by omega, by go_num, HB, upto hj.out (by rw [HP.out]; exact HT.out)⟩
        case measure => simp [intOf]; omega
      · go_wp2_with fail
        go_ret
        exact ⟨ret_int (findPt_hit p xs k hlt hj.out (by rw [HP.out]; exact HT.out)).symm, HB.out⟩
    · go_wp2_with fail
      go_ret
      exact ⟨ret_int (findPt_miss p xs (fun j h => hj.out j (by omega))).symm, hb.out⟩
end Go.Proofs.Ytlgepggmgfnneaa
