/- The frame of certify's rows: what the listed variables hold; rows, cuts, small numbers that came in. -/
import Derived.Test.YtehbnckdllbmgaaGreatDoorCerM
import Derived.Test.YtehbnckdllbmgaaGreatDoorRowL
set_option linter.unusedSimpArgs false
set_option linter.unusedVariables false
namespace Go.Proofs.YtehbnckdllbmgaaGreatDoor
open Go.ChangeShapes Go.WideShapes Go.ChangeAt Go.RowKit Go.Deep

theorem star_errS : "*" ++ "errors.errorString" = "*errors.errorString" := by decide
theorem row_errS (u : TypeId) (h : Tryz.prog.typeName? 3 u = some "*errors.errorString") : u = 184 :=
  typeName_ptr_named (nm := "errors.errorString") (by rw [star_errS]; kernel_rfl) (by kernel_rfl) (by decide) u (by rw [star_errS]; exact h)
def layK : List (String × DataW Unit) := Rows.certifyBackRow.laid
theorem varsC_of {W : World} (hsh : W.ShapedOpen Tryz.prog) (h : laidMetH Tryz.prog layK W) : VarsC W := by
  rw [MakeChecks.laidMetH_plain _ _ _ (by kernel_rfl)] at h
  refine ⟨?_, ?_, ?_, ?_⟩
  · exact cell_of_shapedOpen_int (P := Tryz.prog) (g := 0) (t := 3) (zero := #[.int .i64 0]) hsh (of_decide_eq_true (by kernel_rfl)) (by kernel_rfl) rfl (by kernel_rfl) (by kernel_rfl) Tryz.underlying3
  · have h2 := h.filter (fun x => x.1 == "internal/strconv.uint64pow10")
    have e : layK.filter (fun x => x.1 == "internal/strconv.uint64pow10") = [("internal/strconv.uint64pow10", Lib.tabData .u64 Lib.pow10Tab)] := by rfl
    rw [e] at h2
    exact Lib.tabIs_of_head (g := 3) (t := 180) (e := 134) (n := 20) (by kernel_rfl) (by kernel_rfl) Tryz.underlying180 Tryz.underlying134 (by kernel_rfl) (by kernel_rfl) h2
  · have h2 := h.filter (fun x => x.1 == "strconv.ErrSyntax")
    have e : layK.filter (fun x => x.1 == "strconv.ErrSyntax") = [("strconv.ErrSyntax", .iface "*errors.errorString" (.ptr (.agg [.lit (.string [105, 110, 118, 97, 108, 105, 100, 32, 115, 121, 110, 116, 97, 120])])))] := by rfl
    rw [e] at h2
    obtain ⟨a, s, hv, _⟩ := laid_sentinel (g := 1) (ti := 85) (tp := 184) (te := 186) (ts := 9) h2 (by kernel_rfl) (by kernel_rfl) Tryz.underlying85 row_errS Tryz.underlying184 Tryz.underlying186 rfl rfl Tryz.underlying9 (by kernel_rfl) (by kernel_rfl)
    exact ⟨_, by simpa using World.var?_cell (g := 1) (by kernel_rfl) hv 0, .inr ⟨_, _, rfl⟩⟩
  · have h2 := h.filter (fun x => x.1 == "strconv.ErrRange")
    have e : layK.filter (fun x => x.1 == "strconv.ErrRange") = [("strconv.ErrRange", .iface "*errors.errorString" (.ptr (.agg [.lit (.string [118, 97, 108, 117, 101, 32, 111, 117, 116, 32, 111, 102, 32, 114, 97, 110, 103, 101])])))] := by rfl
    rw [e] at h2
    obtain ⟨a, s, hv, _⟩ := laid_sentinel (g := 2) (ti := 85) (tp := 184) (te := 186) (ts := 9) h2 (by kernel_rfl) (by kernel_rfl) Tryz.underlying85 row_errS Tryz.underlying184 Tryz.underlying186 rfl rfl Tryz.underlying9 (by kernel_rfl) (by kernel_rfl)
    exact ⟨_, by simpa using World.var?_cell (g := 2) (by kernel_rfl) hv 0, .inr ⟨_, _, rfl⟩⟩

theorem nat_u8 {n : Int} (h : (Lit.int .u8 n).wf = true) : ∃ m : Nat, n = m ∧ m < 256 := by
  simp [Lit.wf, IntKind.min, IntKind.max, IntKind.signed, IntKind.bits] at h
  exact ⟨n.toNat, by omega, by omega⟩
theorem in64_of {n : Int} (h : (Lit.int .i64 n).wf = true) : in64 n := by
  simp [Lit.wf, IntKind.min, IntKind.max, IntKind.signed, IntKind.bits] at h
  unfold in64; omega
section
variable {H : Type} {enc : TypeId × Value → H} {W : World}
theorem leaves_ints : leavesOf Tryz.prog 3 24 = some [24] := by kernel_rfl
theorem leaves_cut : leavesOf Tryz.prog 3 54 = some [24, 3] := by kernel_rfl
theorem rowsN_arg {a : Option Addr} {n c : Nat} {d : DataW H} {p : List MemPlace} (h : DataW.Trod enc Tryz.prog W 0 (fun _ => true) true 22 (.slice a n c) d p) :
    ∃ rs, SS W (.slice a n c) rs ∧ (∀ r ∈ rs, ∀ x ∈ r, in64 x) ∧ (Value.slice a n c = .slice none 0 0 ∨ ∃ b m k, Value.slice a n c = .slice (some b) m k) := by
  obtain ⟨fuel, hf⟩ := h
  have hsh : Value.slice a n c = .slice none 0 0 ∨ ∃ b m k, Value.slice a n c = .slice (some b) m k := by
    rcases open_slice Tryz.underlying22 hf with ⟨h0, _⟩ | ⟨b, len, cap, m, q, D, Pl, hcs, _⟩
    · simp [Value.cells] at h0; obtain ⟨rfl, rfl, rfl⟩ := h0; exact .inl rfl
    · simp [Value.cells] at hcs; obtain ⟨rfl, rfl, rfl⟩ := hcs; exact .inr ⟨_, _, _, rfl⟩
  obtain ⟨v', m, C, hcs, ⟨a, cap, rfl, h1, h2, h3⟩, hC⟩ := open_rows Tryz.underlying22 leaves_ints (by kernel_rfl) (by decide) hf
  simp [Value.cells] at hcs
  obtain ⟨rfl, rfl, rfl⟩ := hcs
  have hx : ∀ i, ∃ r, i < n → SI W (C i 0) r ∧ ∀ x ∈ r, in64 x := fun i => by
    by_cases hi : i < n
    · obtain ⟨q, y, t⟩ := hC i hi 0 _ rfl
      obtain ⟨r, hr, hw⟩ := ints_trod t
      exact ⟨r, fun _ => ⟨hr, fun x hx => in64_of (hw x hx)⟩⟩
    · exact ⟨[], fun h => absurd h hi⟩
  obtain ⟨R, hR⟩ := Classical.axiomOfChoice hx
  have hl : ((List.range n).map R).length = n := by simp
  refine ⟨(List.range n).map R, ⟨fun i => C i 0, ⟨_, _, by rw [hl], by rw [hl]; exact h1, h2, fun i hi => ?_⟩, fun i hi => ?_⟩, fun r hr x hx => ?_, hsh⟩
  · rw [hl] at hi
    obtain ⟨b, off, ha, hc⟩ := h3 i hi
    refine ⟨b, off, ha, ?_⟩
    have := hc 0 (by decide)
    simpa using this
  · rw [hl] at hi
    have : ri ((List.range n).map R) i = R i := by simp [ri, hi]
    rw [this]
    exact (hR i hi).1
  · obtain ⟨i, hi, rfl⟩ := List.mem_map.1 hr
    exact (hR i (List.mem_range.1 hi)).2 x hx
theorem cuts_arg {a : Option Addr} {n c : Nat} {d : DataW H} {p : List MemPlace} (h : DataW.Trod enc Tryz.prog W 0 (fun _ => true) true 26 (.slice a n c) d p) :
    ∃ L, SC W (.slice a n c) L ∧ ∀ c ∈ L, in64C c := by
  obtain ⟨fuel, hf⟩ := h
  obtain ⟨v', m, C, hcs, ⟨a, cap, rfl, h1, h2, h3⟩, hC⟩ := open_rows Tryz.underlying26 leaves_cut (by kernel_rfl) (by decide) hf
  simp [Value.cells] at hcs
  obtain ⟨rfl, rfl, rfl⟩ := hcs
  have hx : ∀ i, ∃ r : Cut, i < n → SI W (C i 0) r.1 ∧ C i 1 = .int .i64 r.2 ∧ in64C r := fun i => by
    by_cases hi : i < n
    · obtain ⟨q, y, t⟩ := hC i hi 0 _ rfl
      obtain ⟨r, hr, hw⟩ := ints_trod t
      obtain ⟨q1, y1, t1⟩ := hC i hi 1 _ rfl
      obtain ⟨k, ek, hk⟩ := int_trod Tryz.underlying3 t1
      exact ⟨(r, k), fun _ => ⟨hr, ek, in64_of hk, fun x hx => in64_of (hw x hx)⟩⟩
    · exact ⟨([], 0), fun h => absurd h hi⟩
  obtain ⟨R, hR⟩ := Classical.axiomOfChoice hx
  have hl : ((List.range n).map R).length = n := by simp
  refine ⟨(List.range n).map R, ⟨_, _, by rw [hl], by rw [hl]; exact h1, h2, fun i hi => ?_⟩, fun r hr => ?_⟩
  · rw [hl] at hi
    obtain ⟨b, off, ha, hc⟩ := h3 i hi
    have e : ci ((List.range n).map R) i = R i := by rw [ci_lt (by rw [hl]; exact hi)]; simp
    refine ⟨b, off, C i 0, ha, ?_⟩
    rw [e]
    obtain ⟨r1, r2, _⟩ := hR i hi
    exact ⟨by simpa using hc 0 (by decide), by rw [← r2]; exact hc 1 (by decide), r1⟩
  · obtain ⟨i, hi, rfl⟩ := List.mem_map.1 hr
    exact (hR i (List.mem_range.1 hi)).2.2
set_option maxRecDepth 100000 in
theorem arr3_arg {r : Reach} {b0 : Nat} {v : Value} {d : DataW H} {p : List MemPlace} (hv : Value.okWide Tryz.prog W r b0 41 v) (h : DataW.Trod enc Tryz.prog W 0 (fun _ => true) true 41 v d p) : ∃ x y z : Int, v = .agg #[.int .i64 x, .int .i64 y, .int .i64 z] ∧ in64 x ∧ in64 y ∧ in64 z := by
  simp only [Value.okWide, Tryz.underlying41] at hv
  obtain ⟨cs, rfl, hsz, _⟩ := hv
  obtain ⟨fuel, hf⟩ := h
  obtain ⟨xs, m, _, _, hl, hx, hg⟩ := DataW.trod_array Tryz.underlying41 hf
  rw [show Tryz.prog.cellsOf 41 = 3 by kernel_rfl] at hsz
  obtain ⟨csl⟩ := cs
  match csl, hsz with
  | [a0, a1, a2], _ =>
    have g0 := hg 0 (by omega)
    have g1 := hg 1 (by omega)
    have g2 := hg 2 (by omega)
    rw [show Tryz.prog.cellsOf 3 = 1 by kernel_rfl] at g0 g1 g2
    rw [List.getElem?_eq_getElem (by omega)] at g0 g1 g2
    obtain ⟨x, e0, _, w0⟩ := DataW.trod_int Tryz.underlying3 (show DataW.trod enc Tryz.prog W 0 (fun _ => true) true m 3 [a0] = some _ from g0)
    obtain ⟨y, e1, _, w1⟩ := DataW.trod_int Tryz.underlying3 (show DataW.trod enc Tryz.prog W 0 (fun _ => true) true m 3 [a1] = some _ from g1)
    obtain ⟨z, e2, _, w2⟩ := DataW.trod_int Tryz.underlying3 (show DataW.trod enc Tryz.prog W 0 (fun _ => true) true m 3 [a2] = some _ from g2)
    simp at e0 e1 e2
    subst e0 e1 e2
    exact ⟨x, y, z, rfl, in64_of w0, in64_of w1, in64_of w2⟩
end
end Go.Proofs.YtehbnckdllbmgaaGreatDoor
