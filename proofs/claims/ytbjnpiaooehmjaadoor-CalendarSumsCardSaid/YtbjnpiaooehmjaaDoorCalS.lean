/- What the program's Parse asks of the library: digits alone, the first space, the number. -/
import Derived.Test.YtbjnpiaooehmjaaDoorCalQ
import Derived.Shelf.Strings.SlTrimAscii
namespace Go.Proofs.YtbjnpiaooehmjaaDoor
open Go.RowKit

def digsL : List UInt8 := [48, 49, 50, 51, 52, 53, 54, 55, 56, 57]
theorem digs_contains (c : UInt8) : digsL.contains c = digC c := by
  have key : ∀ n : Fin 256, digsL.contains (UInt8.ofNat n.val) = digC (UInt8.ofNat n.val) := by decide +kernel
  have := key ⟨c.toNat, c.toNat_lt⟩
  rwa [UInt8.ofNat_toNat] at this
theorem drop_all (p : UInt8 → Bool) : ∀ (l : List UInt8), l.dropWhile p = [] ↔ l.all p = true := by
  intro l
  induction l with
  | nil => simp
  | cons x r ih =>
    rw [List.dropWhile_cons, List.all_cons]
    cases hx : p x
    · simp
    · simp [ih]
theorem drop_mem (p : UInt8 → Bool) : ∀ (l : List UInt8) x, x ∈ l.dropWhile p → x ∈ l := by
  intro l x hx
  exact (List.dropWhile_sublist p).subset hx
theorem drop_head (p : UInt8 → Bool) : ∀ (l : List UInt8) x xs, l.dropWhile p = x :: xs → p x = false := by
  intro l
  induction l with
  | nil => intro x xs h; cases h
  | cons y r ih =>
    intro x xs h
    rw [List.dropWhile_cons] at h
    cases hy : p y
    · rw [hy, if_neg (by simp)] at h
      have := (List.cons.inj h).1
      rw [← this]; exact hy
    · rw [hy, if_pos rfl] at h; exact ih x xs h
theorem trim_digs (l : List UInt8) : Lib.trimS l digsL = [] ↔ l.all digC = true := by
  have e : (fun c => digsL.contains c) = digC := funext digs_contains
  unfold Lib.trimS Lib.trimLeftS Lib.trimRightS
  rw [e, drop_all]
  constructor
  · intro h
    rw [List.all_eq_true] at h
    have h2 : (l.reverse.dropWhile digC) = [] := by
      cases hd : l.reverse.dropWhile digC with
      | nil => rfl
      | cons x xs =>
        exfalso
        have h3 := h x (by rw [hd]; simp)
        rw [drop_head digC _ x xs hd] at h3; cases h3
    rw [drop_all, List.all_reverse] at h2
    exact h2
  · intro h
    rw [List.all_eq_true] at h ⊢
    intro c hc
    rw [List.mem_reverse] at hc
    exact h c (by have := drop_mem _ _ _ hc; simpa using this)
theorem trim_any (s : ByteArray) (w : World) (hs : s.size ≤ 1000000) : Calls Tryd.prog 27 #[.string s, .string digT] w (Ret w (.string ⟨(Lib.trimS s.data.toList digsL).toArray⟩)) := by
  exact Any.strings_Trim_laid Tryd.lays160 (by kernel_rfl) s digT w (by omega) (by decide) (ascii_of_all (by decide))
end Go.Proofs.YtbjnpiaooehmjaaDoor
