/- The frame of calendar's rows: what the listed variables hold; a plan that came in. -/
import Derived.Test.YtbjnpiaooehmjaaDoorCalP
import Derived.Test.YtbjnpiaooehmjaaDoorRowL
namespace Go.Proofs.YtbjnpiaooehmjaaDoor
open Go.ChangeShapes Go.WideShapes Go.ChangeAt Go.RowKit Go.Deep

theorem star_errS : "*" ++ "errors.errorString" = "*errors.errorString" := by decide
theorem row_errS (u : TypeId) (h : Tryd.prog.typeName? 3 u = some "*errors.errorString") : u = 131 :=
  typeName_ptr_named (nm := "errors.errorString") (by rw [star_errS]; kernel_rfl) (by kernel_rfl) (by decide) u (by rw [star_errS]; exact h)
def layK : List (String × DataW Unit) := Rows.calendarNewsRow.laid
theorem varsC_of {W : World} (hsh : W.ShapedOpen Tryd.prog) (h : laidMetH Tryd.prog layK W) : VarsC W := by
  rw [MakeChecks.laidMetH_plain _ _ _ (by kernel_rfl)] at h
  refine ⟨?_, ?_, ?_, ?_⟩
  · exact cell_of_shapedOpen_int (P := Tryd.prog) (g := 0) (t := 3) (zero := #[.int .i64 0]) hsh (of_decide_eq_true (by kernel_rfl)) (by kernel_rfl) rfl (by kernel_rfl) (by kernel_rfl) Tryd.underlying3
  · have h2 := h.filter (fun x => x.1 == "internal/strconv.uint64pow10")
    have e : layK.filter (fun x => x.1 == "internal/strconv.uint64pow10") = [("internal/strconv.uint64pow10", Lib.tabData .u64 Lib.pow10Tab)] := by rfl
    rw [e] at h2
    exact Lib.tabIs_of_head (g := 5) (t := 135) (e := 103) (n := 20) (by kernel_rfl) (by kernel_rfl) Tryd.underlying135 Tryd.underlying103 (by kernel_rfl) (by kernel_rfl) h2
  · have h2 := h.filter (fun x => x.1 == "strconv.ErrSyntax")
    have e : layK.filter (fun x => x.1 == "strconv.ErrSyntax") = [("strconv.ErrSyntax", .iface "*errors.errorString" (.ptr (.agg [.lit (.string [105, 110, 118, 97, 108, 105, 100, 32, 115, 121, 110, 116, 97, 120])])))] := by rfl
    rw [e] at h2
    obtain ⟨a, s, hv, _⟩ := laid_sentinel (g := 1) (ti := 63) (tp := 131) (te := 133) (ts := 9) h2 (by kernel_rfl) (by kernel_rfl) Tryd.underlying63 row_errS Tryd.underlying131 Tryd.underlying133 rfl rfl Tryd.underlying9 (by kernel_rfl) (by kernel_rfl)
    exact ⟨_, by simpa using World.var?_cell (g := 1) (by kernel_rfl) hv 0, .inr ⟨_, _, rfl⟩⟩
  · have h2 := h.filter (fun x => x.1 == "strconv.ErrRange")
    have e : layK.filter (fun x => x.1 == "strconv.ErrRange") = [("strconv.ErrRange", .iface "*errors.errorString" (.ptr (.agg [.lit (.string [118, 97, 108, 117, 101, 32, 111, 117, 116, 32, 111, 102, 32, 114, 97, 110, 103, 101])])))] := by rfl
    rw [e] at h2
    obtain ⟨a, s, hv, _⟩ := laid_sentinel (g := 2) (ti := 63) (tp := 131) (te := 133) (ts := 9) h2 (by kernel_rfl) (by kernel_rfl) Tryd.underlying63 row_errS Tryd.underlying131 Tryd.underlying133 rfl rfl Tryd.underlying9 (by kernel_rfl) (by kernel_rfl)
    exact ⟨_, by simpa using World.var?_cell (g := 2) (by kernel_rfl) hv 0, .inr ⟨_, _, rfl⟩⟩

section
variable {H : Type} {enc : TypeId × Value → H} {W : World}
theorem leaves_plan9 : leavesOf Tryd.prog 3 25 = some [22, 23] := by kernel_rfl
theorem leaves_span : leavesOf Tryd.prog 3 42 = some [3, 3] := by kernel_rfl
theorem spans_trod {fuel : Nat} {v : Value} {x : DataW H × List MemPlace} (h : DataW.trod enc Tryd.prog W 0 (fun _ => true) true fuel 22 [v] = some x) : ∃ l : List Sp, SP W v l := by
  obtain ⟨v', m, C, hcs, ⟨a, cap, rfl, h1, h2, h3⟩, hC⟩ := open_rows Tryd.underlying22 leaves_span (by kernel_rfl) (by decide) h
  simp at hcs
  subst hcs
  have hn : ∀ i, i < m → ∀ j, j < 2 → ∃ k, C i j = .int .i64 k := fun i hi j hj => by
    have ht : ([3, 3] : List TypeId)[j]? = some 3 := by
      have hc : j = 0 ∨ j = 1 := by omega
      rcases hc with rfl | rfl <;> rfl
    obtain ⟨q, y, hq⟩ := hC i hi j _ ht
    obtain ⟨k, e, _⟩ := int_trod Tryd.underlying3 hq
    exact ⟨k, e⟩
  let X : Nat → Sp := fun i => ⟨match C i 0 with | .int .i64 k => k | _ => 0, match C i 1 with | .int .i64 k => k | _ => 0⟩
  have hl : ((List.range m).map X).length = m := by simp
  have hk : ∀ i, i < m → pi2 ((List.range m).map X) i = X i := fun i hi => by rw [pi2_lt (by rw [hl]; exact hi)]; simp
  refine ⟨(List.range m).map X, a, cap, by rw [hl], by rw [hl]; exact h1, h2, fun i hi => ?_⟩
  rw [hl] at hi
  obtain ⟨b, off, ha, hc⟩ := h3 i hi
  obtain ⟨k0, e0⟩ := hn i hi 0 (by omega)
  obtain ⟨k1, e1⟩ := hn i hi 1 (by omega)
  refine ⟨b, off, ha, ?_⟩
  rw [hk i hi]
  have c0 := hc 0 (by decide)
  have c1 := hc 1 (by decide)
  have x0 : Value.int .i64 (X i).a = C i 0 := by show Value.int .i64 (match C i 0 with | .int .i64 k => k | _ => 0) = _; rw [e0]
  have x1 : Value.int .i64 (X i).b = C i 1 := by show Value.int .i64 (match C i 1 with | .int .i64 k => k | _ => 0) = _; rw [e1]
  exact ⟨by rw [x0]; exact c0, by rw [x1]; exact c1⟩
set_option maxRecDepth 100000 in
theorem plan9_arg {r : Reach} {b0 : Nat} {v : Value} {d : DataW H} {p : List MemPlace} (hv : Value.okWide Tryd.prog W r b0 25 v) (h : DataW.Trod enc Tryd.prog W 0 (fun _ => true) true 25 v d p) : ∃ sh cl, CalR W v sh cl := by
  obtain ⟨cs, rfl, hsz, hx⟩ := open_leaves Tryd.underlying25 leaves_plan9 (by kernel_rfl) hv h
  obtain ⟨u0, m0, y0, c0, t0⟩ := hx 0 _ rfl
  obtain ⟨u1, m1, y1, c1, t1⟩ := hx 1 _ rfl
  obtain ⟨sh, hs⟩ := spans_trod t0
  obtain ⟨cl, hl, _⟩ := ints_trod t1
  obtain ⟨csl⟩ := cs
  match csl, hsz with
  | [a0, a1], _ =>
    simp at c0 c1
    subst c0 c1
    exact ⟨sh, cl, _, _, rfl, hs, hl⟩
end
end Go.Proofs.YtbjnpiaooehmjaaDoor
