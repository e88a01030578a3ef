/- The frame of trace's rows: what the listed variables hold; a list of links that came in. -/
import Derived.Test.YtjbegegjpepkjaaDoorQTraNobody
import Derived.Test.YtjbegegjpepkjaaDoorIdR
import Derived.Test.YtjbegegjpepkjaaDoorOpenS
import Derived.LaidSub
import Derived.Lib.LaidTab
namespace Go.Proofs.YtjbegegjpepkjaaDoor
open Go.ChangeShapes Go.WideShapes Go.ChangeAt Go.RowKit Go.Deep

def layK : List (String × DataW Unit) := Rows.traceAddsRow.laid
theorem vars_of {W : World} (hsh : W.ShapedOpen Tryd.prog) (h : laidMetH Tryd.prog layK W) : Vars W := by
  rw [MakeChecks.laidMetH_plain _ _ _ (by kernel_rfl)] at h
  refine ⟨mlen_of hsh, ?_, ?_⟩
  · have h2 := h.filter (fun x => x.1 == "internal/strconv.uint64pow10")
    have e : layK.filter (fun x => x.1 == "internal/strconv.uint64pow10") = [("internal/strconv.uint64pow10", Lib.tabData .u64 Lib.pow10Tab)] := by rfl
    rw [e] at h2
    exact Lib.tabIs_of_head (g := 1) (t := 104) (e := 27) (n := 20) (by kernel_rfl) (by kernel_rfl) Tryd.underlying104 Tryd.underlying27 (by kernel_rfl) (by kernel_rfl) h2
  · have h2 := h.filter (fun x => x.1 == "math/bits.deBruijn64tab")
    have e : layK.filter (fun x => x.1 == "math/bits.deBruijn64tab") = [("math/bits.deBruijn64tab", Lib.tabData .u8 [0, 1, 56, 2, 57, 49, 28, 3, 61, 58, 42, 50, 38, 29, 17, 4, 62, 47, 59, 36, 45, 43, 51, 22, 53, 39, 33, 30, 24, 18, 12, 5, 63, 55, 48, 27, 60, 41, 37, 16, 46, 35, 44, 21, 52, 32, 23, 11, 54, 26, 40, 15, 34, 20, 31, 10, 25, 14, 19, 9, 13, 8, 7, 6])] := by rfl
    rw [e] at h2
    have h3 := Lib.tabIs_of_head (g := 3) (t := 113) (e := 5) (n := 64) (by kernel_rfl) (by kernel_rfl) Tryd.underlying113 Tryd.underlying5 (by kernel_rfl) (by kernel_rfl) h2
    exact h3.cell (g := 3) (by kernel_rfl) 15 (by decide)

section
variable {H : Type} {enc : TypeId × Value → H} {W : World}
theorem leaves_link : leavesOf Tryd.prog 3 29 = some [9, 9, 9, 3, 27] := by kernel_rfl
theorem links_arg {a : Option Addr} {n c : Nat} {d : DataW H} {p : List MemPlace} (h : DataW.Trod enc Tryd.prog W 0 (fun _ => true) true 22 (.slice a n c) d p) : ∃ l, ArgK W (.slice a n c) l := by
  obtain ⟨fuel, hf⟩ := h
  have hnil : (.slice a n c : Value) = .slice none 0 0 ∨ ∃ ad n' c', (.slice a n c : Value) = .slice (some ad) n' c' := by
    rcases open_slice Tryd.underlying22 hf with ⟨h0, _⟩ | ⟨b, len, cap, m, q, D, Pl, hcs, _⟩
    · left; simpa [Value.cells] using h0
    · right; exact ⟨b, len, cap, by simpa [Value.cells] using hcs⟩
  obtain ⟨v', m, C, hcs, hsr, hC⟩ := open_rows Tryd.underlying22 leaves_link (by kernel_rfl) (by decide) hf
  have ev : v' = .slice a n c := by simp [Value.cells] at hcs; exact hcs.symm
  subst ev
  obtain ⟨a', cap', e, h1, h2, h3⟩ := hsr
  have hs : ∀ i, i < m → ∀ j, j < 3 → ∃ s, C i j = .string s ∧ s.size ≤ maxLen := fun i hi j hj => by
    have ht : ([9, 9, 9, 3, 27] : List TypeId)[j]? = some 9 := by
      have hc : j = 0 ∨ j = 1 ∨ j = 2 := by omega
      rcases hc with rfl | rfl | rfl <;> rfl
    obtain ⟨q, y, hq⟩ := hC i hi j _ ht
    exact str_trod Tryd.underlying9 hq
  have hn : ∀ i, i < m → ∃ k, C i 3 = .int .i64 k := fun i hi => by
    obtain ⟨q, y, hq⟩ := hC i hi 3 _ rfl
    obtain ⟨k, e, _⟩ := int_trod Tryd.underlying3 hq
    exact ⟨k, e⟩
  have hu : ∀ i, i < m → ∃ k : Nat, C i 4 = .int .u64 k ∧ k < 18446744073709551616 := fun i hi => by
    obtain ⟨q, y, hq⟩ := hC i hi 4 _ rfl
    obtain ⟨k, e, hw⟩ := int_trod Tryd.underlying27 hq
    simp [Lit.wf, IntKind.min, IntKind.max, IntKind.signed, IntKind.bits] at hw
    exact ⟨k.toNat, by rw [e]; congr 1; omega, by omega⟩
  let X : Nat → Lnk := fun i => ⟨match C i 0 with | .string s => s.data.toList | _ => [], match C i 1 with | .string s => s.data.toList | _ => [], match C i 2 with | .string s => s.data.toList | _ => [], match C i 3 with | .int .i64 k => k | _ => 0, match C i 4 with | .int .u64 k => k.toNat | _ => 0⟩
  have hX : ∀ i, i < m → C i 0 = .string (bs (X i).item) ∧ C i 1 = .string (bs (X i).frm) ∧ C i 2 = .string (bs (X i).heat) ∧ C i 3 = .int .i64 (X i).tm ∧ C i 4 = .int .u64 (X i).hash ∧ (X i).item.length ≤ maxLen ∧ (X i).frm.length ≤ maxLen ∧ (X i).heat.length ≤ maxLen ∧ (X i).hash < 18446744073709551616 := by
    intro i hi
    obtain ⟨s0, e0, z0⟩ := hs i hi 0 (by omega)
    obtain ⟨s1, e1, z1⟩ := hs i hi 1 (by omega)
    obtain ⟨s2, e2, z2⟩ := hs i hi 2 (by omega)
    obtain ⟨k3, e3⟩ := hn i hi
    obtain ⟨k4, e4, z4⟩ := hu i hi
    simp only [X, e0, e1, e2, e3, e4, bs_of, size_data, Int.toNat_natCast]
    exact ⟨trivial, trivial, trivial, trivial, trivial, z0, z1, z2, z4⟩
  have hl : ((List.range m).map X).length = m := by simp
  have hk : ∀ i, i < m → ki ((List.range m).map X) i = X i := fun i hi => by rw [ki_lt (by rw [hl]; exact hi)]; simp
  refine ⟨(List.range m).map X, ⟨a', cap', by rw [hl]; exact e, by rw [hl]; exact h1, h2, fun i hi => ?_⟩, hnil, fun x hx => ?_⟩
  · rw [hl] at hi
    obtain ⟨b, off, ha, hc⟩ := h3 i hi
    obtain ⟨x0, x1, x2, x3, x4, _⟩ := hX i hi
    refine ⟨b, off, ha, ?_⟩
    rw [hk i hi]
    exact ⟨by rw [← x0]; exact hc 0 (by decide), by rw [← x1]; exact hc 1 (by decide), by rw [← x2]; exact hc 2 (by decide), by rw [← x3]; exact hc 3 (by decide), by rw [← x4]; exact hc 4 (by decide)⟩
  · obtain ⟨i, hi, rfl⟩ := List.mem_map.1 hx
    obtain ⟨_, _, _, _, _, r⟩ := hX i (List.mem_range.1 hi)
    exact r
end
end Go.Proofs.YtjbegegjpepkjaaDoor
