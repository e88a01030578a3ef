/- The first space of a time's text. -/
import Derived.Test.YtbjnpiaooehmjaaDoorCalU
namespace Go.Proofs.YtbjnpiaooehmjaaDoor

theorem first_space {ds R : List UInt8} {x : UInt8} (hx : x ≠ 32) (h : ds.all digC = true) {i : Nat} (g1 : (x :: (ds ++ 32 :: R))[i]? = some 32) (g2 : ∀ j, j < i → (x :: (ds ++ 32 :: R))[j]? ≠ some 32) : i = ds.length + 1 := by
  have hat : (x :: (ds ++ 32 :: R))[ds.length + 1]? = some 32 := by
    rw [List.getElem?_cons_succ, List.getElem?_append_right (Nat.le_refl _), Nat.sub_self]; rfl
  have hle : i ≤ ds.length + 1 := by
    by_cases e : i ≤ ds.length + 1
    · exact e
    · exact absurd hat (g2 _ (by omega))
  by_cases e : i = ds.length + 1
  · exact e
  · exfalso
    cases i with
    | zero => rw [List.getElem?_cons_zero] at g1; exact hx (Option.some.inj g1)
    | succ j =>
      have hj : j < ds.length := by omega
      rw [List.getElem?_cons_succ, List.getElem?_append_left hj] at g1
      have hm := List.mem_of_getElem? g1
      rw [List.all_eq_true] at h
      have := h _ hm
      revert this; decide
/-- where a text that is a time is cut -/
theorem parse_cut {l : List UInt8} {t i : Nat} (h : parseP l = some t) (g1 : l[i]? = some 32) (g2 : ∀ j, j < i → l[j]? ≠ some 32) :
    l.take i = 119 :: Lib.decDigits (t / 168) ∧ l.drop (i + 1) = [100, digU (t % 168 / 24 + 1), 32, digU (t % 24 / 10), digU (t % 24 % 10), 104] := by
  have e := date_parse h
  unfold dateL at e
  subst e
  have hi := first_space (by decide) (dec_all _) g1 g2
  subst hi
  constructor
  · rw [List.take_succ_cons, List.take_append_of_le_length (Nat.le_refl _), List.take_length]
  · rw [List.drop_succ_cons, List.drop_append, List.drop_eq_nil_of_le (Nat.le_succ _), Nat.add_sub_cancel_left]; rfl
theorem parse_space {l : List UInt8} {t : Nat} (h : parseP l = some t) : ∃ i : Nat, l[i]? = some 32 := by
  have e := date_parse h
  unfold dateL at e
  subst e
  refine ⟨(Lib.decDigits (t / 168)).length + 1, ?_⟩
  rw [List.getElem?_cons_succ, List.getElem?_append_right (Nat.le_refl _), Nat.sub_self]; rfl
end Go.Proofs.YtbjnpiaooehmjaaDoor
