/- Contracts: slices.Clone of rows, the comparison of Covers. -/
import Derived.Test.YtehbnckdllbmgaaGreatDoorCerC
set_option linter.unusedSimpArgs false
set_option linter.unusedVariables false
namespace Go.Proofs.YtehbnckdllbmgaaGreatDoor
open Go.RowKit

theorem clone_rows (v : Value) (rs : List (List Int)) (w : World) (h : SS w v rs) (hn : v = .slice none 0 0 ∨ ∃ a n c, v = .slice (some a) n c) (hl : rs.length ≤ 100000) :
    Calls Tryz.prog 38 #[v] w fun e w' => ∃ v', e = .returned v' ∧ OwnR w w' w.heap.size v' rs ∧ Below w.heap.size w w' ∧ (v' = .slice none 0 0 ∨ ∃ g n c, v' = .slice (some ⟨g, 0, none⟩) n c ∧ g < w'.heap.size) := by
  have qn : ∀ (w : World) (a : Option Addr) (n c n' c' : Nat), (binOp .eql 22 (.slice a n c) (.slice none n' c')).run Tryz.prog w = .ok (.bool a.isNone) w := fun w a n c n' c' => Lib.run_eql_slice_nil w _ _ a n c n' c' Tryz.underlying22
  rcases hn with rfl | ⟨a, n, c, rfl⟩
  · have hx : rs = [] := by
      obtain ⟨_, ⟨a', c', he, _⟩, _⟩ := h; simp at he; exact List.eq_nil_of_length_eq_zero he.2.1.symm
    subst hx
    clear h
    go_enter Tryz.func38, Tryz.ntmps38
    go_wp2_with fail
    go_ret
    exact ⟨_, rfl, OwnR_nil _ _ _, Below.refl _ _, .inl rfl⟩
  · obtain ⟨vs, s1, s2⟩ := h
    have S1 := Lib.hid s1; have S2 := Lib.hid s2
    clear s1 s2
    go_enter Tryz.func38, Tryz.ntmps38
    go_wp2_with (at_builtin; refine wpList_app_rows (W0 := w) rfl _ _ rfl w.heap.size _ _ [] rs rfl rfl (OwnR_empty _ _ _ (Nat.le_refl _)) (S1.out.keep ((Below.refl _ _).alloc (Nat.le_refl _) _)) (fun i hi => .inl (S2.out i hi)) (by simp; omega) (by simp) ?_)
    intro v' w' ho hg hat
    have hb : Below w.heap.size w w' := ((Below.refl _ _).alloc (Nat.le_refl _) _).grown hg (by simp) (by simp [Value.ownBlock])
    have HO := Lib.hid ho; have HB := Lib.hid hb
    have hform : ∃ g n c, v' = .slice (some ⟨g, 0, none⟩) n c ∧ g < w'.heap.size := by
      obtain ⟨us, o1, _⟩ := ho
      rcases o1.2 with ⟨rfl, _⟩ | ⟨g, cap, cur, rfl, _, hgb, _⟩
      · simp [Value.ownBlock] at hat
      · exact ⟨g, _, cap, rfl, lt_of_block hgb⟩
    have HFm := Lib.hid hform
    clear hg hat ho hb hform
    go_wp2_with fail
    go_ret
    exact ⟨_, rfl, by simpa using HO.out, HB.out, .inr HFm.out⟩

theorem covers1_any (v u : Value) (a b : List Int) (w : World) (h : SI w v a) (g : SI w u b) :
    Calls Tryz.prog 40 #[v, u] w fun e w' => e = .returned (.int .i64 (cmpL a b)) ∧ ∃ m, w' = w.drewN m := by
  have H := Lib.hid h; have G := Lib.hid g
  obtain ⟨p, cp, rfl, _⟩ := h.sl
  obtain ⟨q, cq, rfl, _⟩ := g.sl
  clear h g
  go_enter Tryz.func40, Tryz.ntmps40
  go_wp2_with fail
  refine (compare_ints _ _ _ _ _ H.out G.out).mono ?_
  rintro e w1 ⟨rfl, m1, rfl⟩
  go_wp2_with fail
  go_ret
  exact ⟨rfl, _, rfl⟩
theorem enter_covers1 : ∀ args w, (callFunc 40 args).run Tryz.prog w = .ok (.enter 40 args) w := enters_of Tryz.func40 (by kernel_rfl) rfl
end Go.Proofs.YtehbnckdllbmgaaGreatDoor
