/- Arguments of calendar's laws, opened: two small numbers in an array; a small number. -/
import Derived.Test.YtbjnpiaooehmjaaDoorCalFr
namespace Go.Proofs.YtbjnpiaooehmjaaDoor
open Go.ChangeShapes Go.WideShapes Go.ChangeAt Go.RowKit Go.Deep

theorem nat_u16 {n : Int} (h : (Lit.int .u16 n).wf = true) : ∃ m : Nat, n = m ∧ m < 65536 := by
  simp [Lit.wf, IntKind.min, IntKind.max, IntKind.signed, IntKind.bits] at h
  exact ⟨n.toNat, by omega, by omega⟩
theorem nat_u8 {n : Int} (h : (Lit.int .u8 n).wf = true) : ∃ m : Nat, n = m ∧ m < 256 := by
  simp [Lit.wf, IntKind.min, IntKind.max, IntKind.signed, IntKind.bits] at h
  exact ⟨n.toNat, by omega, by omega⟩
section
variable {H : Type} {enc : TypeId × Value → H} {W : World}
set_option maxRecDepth 100000 in
theorem arr2_arg {t e : TypeId} {k : IntKind} {r : Reach} {b0 : Nat} {v : Value} {d : DataW H} {p : List MemPlace} (ht : Tryd.prog.underlying t = some (.array 2 e)) (he : Tryd.prog.underlying e = some (.int k)) (hce : Tryd.prog.cellsOf e = 1) (hct : Tryd.prog.cellsOf t = 2)
    (hv : Value.okWide Tryd.prog W r b0 t v) (h : DataW.Trod enc Tryd.prog W 0 (fun _ => true) true t v d p) : ∃ x y : Int, v = .agg #[.int k x, .int k y] ∧ (Lit.int k x).wf = true ∧ (Lit.int k y).wf = true := by
  simp only [Value.okWide, ht] at hv
  obtain ⟨cs, rfl, hsz, _⟩ := hv
  obtain ⟨fuel, hf⟩ := h
  obtain ⟨xs, m, _, _, hl, hx, hg⟩ := DataW.trod_array ht hf
  rw [hct] at hsz
  obtain ⟨csl⟩ := cs
  match csl, hsz with
  | [a0, a1], _ =>
    have g0 := hg 0 (by omega)
    have g1 := hg 1 (by omega)
    rw [hce] at g0 g1
    rw [List.getElem?_eq_getElem (by omega)] at g0 g1
    obtain ⟨x, e0, _, w0⟩ := DataW.trod_int he (show DataW.trod enc Tryd.prog W 0 (fun _ => true) true m e [a0] = some _ from g0)
    obtain ⟨y, e1, _, w1⟩ := DataW.trod_int he (show DataW.trod enc Tryd.prog W 0 (fun _ => true) true m e [a1] = some _ from g1)
    simp at e0 e1
    subst e0 e1
    exact ⟨x, y, rfl, w0, w1⟩
set_option maxRecDepth 100000 in
theorem u8x2_arg {r : Reach} {b0 : Nat} {v : Value} {d : DataW H} {p : List MemPlace} (hv : Value.okWide Tryd.prog W r b0 35 v) (h : DataW.Trod enc Tryd.prog W 0 (fun _ => true) true 35 v d p) : ∃ x y : Nat, v = .agg #[.int .u8 (x : Int), .int .u8 (y : Int)] ∧ x < 256 ∧ y < 256 := by
  obtain ⟨x, y, rfl, hx, hy⟩ := arr2_arg Tryd.underlying35 Tryd.underlying5 (by kernel_rfl) (by kernel_rfl) hv h
  obtain ⟨x, rfl, h1⟩ := nat_u8 hx
  obtain ⟨y, rfl, h2⟩ := nat_u8 hy
  exact ⟨x, y, rfl, h1, h2⟩
end
end Go.Proofs.YtbjnpiaooehmjaaDoor
