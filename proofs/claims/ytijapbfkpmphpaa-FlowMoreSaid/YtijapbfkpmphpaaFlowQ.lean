/- Contracts: Best of flow and of the reference. -/
import Derived.Test.YtijapbfkpmphpaaFlowP
import Derived.Laws.EntriesVeiled
namespace Go.Proofs.Ytijapbfkpmphpaa
open Go.RowKit

/-- the state at the start of a search -/
def st0 (steps : Int) : St := { left := (max (min steps 100000) 0).toNat, order := [], span := 0, found := false }
/-- the end of the search, none if the steps are used up -/
def bestS (p : List (List Int)) (steps : Int) : Option St := expl p p.length (st0 steps) []
def bestE (p : List (List Int)) (steps : Int) : Int := if checkE p ≠ 0 then checkE p else if (bestS p steps).isNone then 29 else 0
def bestL (p : List (List Int)) (steps : Int) : List Int := if checkE p ≠ 0 then [] else match bestS p steps with | none => [] | some st => st.order
def bestN (p : List (List Int)) (steps : Int) : Int := if checkE p ≠ 0 then 0 else match bestS p steps with | none => 0 | some st => st.span
/-- It returns a slice of integers, a number and an error. -/
def RetB (w : World) (xs : List Int) (n er : Int) (e : Ending) (w' : World) : Prop := ∃ v, e = .returned (.tuple #[v, .int .i64 n, .int .i64 er]) ∧ SI w' v xs ∧ Below w.heap.size w w'
theorem retB {w w' : World} {xs xs' : List Int} {n n' er er' : Int} {e : Ending} {v : Value} (he : e = .returned (.tuple #[v, .int .i64 n', .int .i64 er'])) (h : er' = er) (hn : n' = n) (hs : SI w' v xs') (hx : xs' = xs) (hb : Below w.heap.size w w') : RetB w xs n er e w' := by
  subst h hn hx; exact ⟨v, he, hs, hb⟩

theorem rightB_nil (n : Nat) : rightB n [] = true := by simp [rightB]
theorem best_bad {p : List (List Int)} {s : Int} (h : checkE p ≠ 0) : bestE p s = checkE p ∧ bestL p s = [] ∧ bestN p s = 0 := by simp [bestE, bestL, bestN, h]
theorem best_none {p : List (List Int)} {s : Int} (h : checkE p = 0) (h2 : bestS p s = none) : bestE p s = 29 ∧ bestL p s = [] ∧ bestN p s = 0 := by simp [bestE, bestL, bestN, h, h2]
theorem best_some {p : List (List Int)} {s : Int} {st : St} (h : checkE p = 0) (h2 : bestS p s = some st) : bestE p s = 0 ∧ bestL p s = st.order ∧ bestN p s = st.span := by simp [bestE, bestL, bestN, h, h2]
theorem left_max (s : Int) : ((st0 s).left : Int) = max (min s 100000) 0 := by simp only [st0]; omega
theorem left_le (s : Int) : (st0 s).left ≤ 100000 := by simp only [st0]; omega

set_option maxHeartbeats 1000000 in
theorem rBest_any (v : Value) (p : List (List Int)) (s : Int) (w : World) (h : SS w v p) :
    Calls Try.prog 25 #[v, .int .i64 s] w (RetB w (bestL p s) (bestN p s) (bestE p s)) := by
  have H := Lib.hid h
  obtain ⟨vs, ⟨a, cap, rfl, h1, h2, h3⟩, h4⟩ := h
  clear h3 h4
  go_enter Try.func25, Try.ntmps25
  go_wp2_with fail
  refine (shop_any _ p w H.out).mono ?_
  rintro e w1 ⟨rfl, m1, rfl⟩
  by_cases c0 : checkE p = 0
  rotate_left
  · have hE := Lib.hid (best_bad (s := s) c0)
    have hb : (checkE p != 0) = true := by simpa using c0
    clear c0
    go_wp2_with fail
    go_ret3
    exact retB rfl hE.out.1.symm hE.out.2.2.symm (SI_nil _) hE.out.2.1.symm (below_drewN' (Below.refl _ _) _)
  have hb : (checkE p != 0) = false := by simpa using c0
  have C0 := Lib.hid c0
  have HG := Lib.hid (checkE_zero c0)
  clear c0
  have HREP : Hid (∀ L : Int, L = ((st0 s).left : Int) → RepX ((w.drewN m1).alloc (.cells #[.slice a p.length cap, .int .i64 L, .slice none 0 0, .int .i64 0, .bool false] 59)) w.heap.size w.heap.size (.slice a p.length cap) (st0 s)) := by
    intro L hL
    subst hL
    exact ⟨.slice none 0 0, heap_alloc_new (w.drewN m1) _, OwnI_nil _ _⟩
  cases hx : bestS p s with
  | none =>
    have hE := Lib.hid (best_none C0.out hx)
    have HX := Lib.hid hx
    clear hx
    go_wp2_with fail
    all_goals
      refine (explore_any w w.heap.size (.slice a p.length cap) p H.out (Nat.le_refl _) HG.out p.length (st0 s) [] (.slice none 0 0) _ (by simp) (rightB_nil _) (by exact (below_drewN' (Below.refl _ _) _).alloc (Nat.le_refl _) _) (by exact HREP.out _ (by rw [left_max]; omega)) (OwnI_nil _ _) (left_le s)).mono ?_
      rintro e w2 ⟨hg2, hm2⟩
      have hm2 : match bestS p s with
        | some st' => e = .returned (.bool true) ∧ RepX w2 w.heap.size w.heap.size (.slice a p.length cap) st'
        | none => e = .returned (.bool false) := hm2
      rw [HX.out] at hm2
      obtain rfl := hm2
      have HB2 := Lib.hid (below_of_grownBy (w0 := w) (by exact (below_drewN' (Below.refl _ _) _).alloc (Nat.le_refl _) _) hg2 (Nat.le_refl _))
      clear hg2
      go_wp2_with fail
      go_ret3
      exact retB rfl hE.out.1.symm hE.out.2.2.symm (SI_nil _) hE.out.2.1.symm HB2.out
  | some st =>
    have hE := Lib.hid (best_some C0.out hx)
    have HX := Lib.hid hx
    clear hx
    go_wp2_with fail
    all_goals
      refine (explore_any w w.heap.size (.slice a p.length cap) p H.out (Nat.le_refl _) HG.out p.length (st0 s) [] (.slice none 0 0) _ (by simp) (rightB_nil _) (by exact (below_drewN' (Below.refl _ _) _).alloc (Nat.le_refl _) _) (by exact HREP.out _ (by rw [left_max]; omega)) (OwnI_nil _ _) (left_le s)).mono ?_
      rintro e w2 ⟨hg2, hm2⟩
      have hm2 : match bestS p s with
        | some st' => e = .returned (.bool true) ∧ RepX w2 w.heap.size w.heap.size (.slice a p.length cap) st'
        | none => e = .returned (.bool false) := hm2
      rw [HX.out] at hm2
      obtain ⟨rfl, hrep⟩ := hm2
      have HB2 := Lib.hid (below_of_grownBy (w0 := w) (by exact (below_drewN' (Below.refl _ _) _).alloc (Nat.le_refl _) _) hg2 (Nat.le_refl _))
      clear hg2
      obtain ⟨ov, c2, ho⟩ := hrep.c2
      have c3 := hrep.c3
      have HO := Lib.hid ho
      clear ho hrep
      go_wp2_with fail
      go_quiet (fail)
      go_wp2_with fail
      go_ret3
      exact retB rfl hE.out.1.symm hE.out.2.2.symm (HO.out.si.drewN _) hE.out.2.1.symm (below_drewN' HB2.out _)

theorem push6 {α : Type} (h : Array α) (a b c d e f : α) : ((((((h.push a).push b).push c).push d).push e).push f)[h.size]? = some a ∧ ((((((h.push a).push b).push c).push d).push e).push f)[h.size + 1]? = some b ∧
    ((((((h.push a).push b).push c).push d).push e).push f)[h.size + 2]? = some c ∧ ((((((h.push a).push b).push c).push d).push e).push f)[h.size + 3]? = some d ∧
    ((((((h.push a).push b).push c).push d).push e).push f)[h.size + 4]? = some e ∧ ((((((h.push a).push b).push c).push d).push e).push f)[h.size + 5]? = some f := by
  refine ⟨?_, ?_, ?_, ?_, ?_, ?_⟩
  all_goals simp only [Array.getElem?_push, Array.size_push]
  all_goals repeat (first | rw [if_pos trivial] | rw [if_neg (by omega)])
theorem repC_made (w : World) (pv : Value) (m : Nat) (st : St) (L : Int) (h1 : st.order = []) (h2 : st.span = 0) (h3 : st.found = false) :
    RepC (((((((w.alloc (.cells #[pv] 22)).alloc (.cells #[.slice none 0 0] 23)).alloc (.cells #[.int .i64 0] 3)).drewN m).alloc (.cells #[.int .i64 L] 3)).alloc (.cells #[.bool false] 4)).alloc (.cells #[srchF w.heap.size] 55)) w.heap.size pv st L (.slice none 0 0) := by
  have e : (((((((w.alloc (.cells #[pv] 22)).alloc (.cells #[.slice none 0 0] 23)).alloc (.cells #[.int .i64 0] 3)).drewN m).alloc (.cells #[.int .i64 L] 3)).alloc (.cells #[.bool false] 4)).alloc (.cells #[srchF w.heap.size] 55)).heap =
    ((((((w.heap.push (.cells #[pv] 22)).push (.cells #[.slice none 0 0] 23)).push (.cells #[.int .i64 0] 3)).push (.cells #[.int .i64 L] 3)).push (.cells #[.bool false] 4)).push (.cells #[srchF w.heap.size] 55)) := rfl
  have q := push6 w.heap (.cells #[pv] 22) (.cells #[.slice none 0 0] 23) (.cells #[.int .i64 0] 3) (.cells #[.int .i64 L] 3) (.cells #[.bool false] 4) (.cells #[srchF w.heap.size] 55)
  rw [← e] at q
  exact ⟨q.1, q.2.1, by rw [h2]; exact q.2.2.1, q.2.2.2.1, by rw [h3]; exact q.2.2.2.2.1, q.2.2.2.2.2, by rw [h1]; exact OwnI_nil _ _⟩

set_option maxHeartbeats 1000000 in
theorem Best_any (v : Value) (p : List (List Int)) (s : Int) (w : World) (h : SS w v p) :
    Calls Try.prog 24 #[v, .int .i64 s] w (RetB w (bestL p s) (bestN p s) (bestE p s)) := by
  have H := Lib.hid h
  obtain ⟨vs, ⟨a, cap, rfl, h1, h2, h3⟩, h4⟩ := h
  clear h3 h4
  have hmf : ∀ (fn : Fn) (first cap : Array Value) (w : World), (Instr.makeFunc fn first cap).run Try.prog w = .ok (.func fn first cap) w := fun _ _ _ _ => rfl
  go_enter Try.func24, Try.ntmps24
  go_wp2_with fail
  refine (check_any _ p _ (H.out.keep (by exact (((Below.refl _ _).alloc (Nat.le_refl _) _).alloc (by simp) _).alloc (by simp; omega) _))).mono ?_
  rintro e w1 ⟨rfl, m1, rfl⟩
  by_cases c0 : checkE p = 0
  rotate_left
  · have hE := Lib.hid (best_bad (s := s) c0)
    have hb : (checkE p != 0) = true := by simpa using c0
    clear c0
    go_wp2_with fail
    refine bodyPost_ret (v := .tuple #[.slice none 0 0, .int .i64 0, .int .i64 (checkE p)]) (by simp [results, Try.results24, go_sem]) rfl ?_
    exact retB rfl hE.out.1.symm hE.out.2.2.symm (SI_nil _) hE.out.2.1.symm (((below_drewN' ((((Below.refl _ _).alloc (Nat.le_refl _) _).alloc (by simp) _).alloc (by simp; omega) _) _).setCell (by simp only; omega) _).setCell (by simp only; omega) _)
  have hb : (checkE p != 0) = false := by simpa using c0
  have C0 := Lib.hid c0
  have HG := Lib.hid (checkE_zero c0)
  clear c0
  have HREP : Hid (∀ L : Int, L = ((st0 s).left : Int) → RepC (((((((w.alloc (.cells #[.slice a p.length cap] 22)).alloc (.cells #[.slice none 0 0] 23)).alloc (.cells #[.int .i64 0] 3)).drewN m1).alloc (.cells #[.int .i64 L] 3)).alloc (.cells #[.bool false] 4)).alloc (.cells #[srchF w.heap.size] 55)) w.heap.size (.slice a p.length cap) (st0 s) (st0 s).left (.slice none 0 0)) := by
    intro L hL
    rw [← hL]
    exact repC_made w _ m1 (st0 s) L rfl rfl rfl
  have HBB : Hid (∀ L : Int, Below w.heap.size w (((((((w.alloc (.cells #[.slice a p.length cap] 22)).alloc (.cells #[.slice none 0 0] 23)).alloc (.cells #[.int .i64 0] 3)).drewN m1).alloc (.cells #[.int .i64 L] 3)).alloc (.cells #[.bool false] 4)).alloc (.cells #[srchF w.heap.size] 55))) := by
    intro L
    exact (((below_drewN' ((((Below.refl _ _).alloc (Nat.le_refl _) _).alloc (by simp) _).alloc (by simp; omega) _) _).alloc (by simp; omega) _).alloc (by simp; omega) _).alloc (by simp; omega) _
  cases hx : bestS p s with
  | none =>
    have hE := Lib.hid (best_none C0.out hx)
    have HX := Lib.hid hx
    clear hx
    go_wp2_with fail
    all_goals
      refine (search_any w w.heap.size (.slice a p.length cap) p H.out (Nat.le_refl _) HG.out p.length (st0 s) [] (.slice none 0 0) (.slice none 0 0) _ (by simp) (rightB_nil _) (by exact HBB.out _) (by exact HREP.out _ (by rw [left_max]; omega)) (OwnI_nil _ _) (left_le s)).mono ?_
      rintro e w2 ⟨hg2, hm2⟩
      have hm2 : match bestS p s with
        | some st' => e = .returned (.bool true) ∧ ∃ ov, RepC w2 w.heap.size (.slice a p.length cap) st' st'.left ov
        | none => e = .returned (.bool false) ∧ ∃ stz lz ov, RepC w2 w.heap.size (.slice a p.length cap) stz lz ov := hm2
      rw [HX.out] at hm2
      obtain ⟨rfl, stz, lz, ovz, hrz⟩ := hm2
      have HB2 := Lib.hid (Chg.below (w0 := w) (HBB.out _) hg2 (Nat.le_refl _))
      clear hg2
      obtain ⟨ao, no, co, eo⟩ : ∃ ao no co, ovz = .slice ao no co := by obtain ⟨x, y, h, _⟩ := hrz.own.si; exact ⟨_, _, _, h⟩
      subst eo
      have c1 := hrz.c1
      have c2 := hrz.c2
      have f1 := hrz.f1
      have f2 := hrz.f2
      clear hrz
      go_wp2_with fail
      refine bodyPost_ret (v := .tuple #[.slice none 0 0, .int .i64 0, .int .i64 29]) (by simp [results, Try.results24, go_sem, c1, c2]) rfl ?_
      have HCG : Chg w2 ((w2.setCell ⟨w.heap.size + 1, 0, none⟩ (.slice none 0 0)).setCell ⟨w.heap.size + 1 + 1, 0, none⟩ (.int .i64 0)) w.heap.size := (Chg.set _ _ _ (by omega) (by omega)).trans (Chg.set _ _ _ (by omega) (by omega))
      exact retB rfl hE.out.1.symm hE.out.2.2.symm (SI_nil _) hE.out.2.1.symm (Chg.below HB2.out HCG (Nat.le_refl _))
  | some st =>
    have hE := Lib.hid (best_some C0.out hx)
    have HX := Lib.hid hx
    clear hx
    go_wp2_with fail
    all_goals
      refine (search_any w w.heap.size (.slice a p.length cap) p H.out (Nat.le_refl _) HG.out p.length (st0 s) [] (.slice none 0 0) (.slice none 0 0) _ (by simp) (rightB_nil _) (by exact HBB.out _) (by exact HREP.out _ (by rw [left_max]; omega)) (OwnI_nil _ _) (left_le s)).mono ?_
      rintro e w2 ⟨hg2, hm2⟩
      have hm2 : match bestS p s with
        | some st' => e = .returned (.bool true) ∧ ∃ ov, RepC w2 w.heap.size (.slice a p.length cap) st' st'.left ov
        | none => e = .returned (.bool false) ∧ ∃ stz lz ov, RepC w2 w.heap.size (.slice a p.length cap) stz lz ov := hm2
      rw [HX.out] at hm2
      obtain ⟨rfl, ov, hrep⟩ := hm2
      have HB2 := Lib.hid (Chg.below (w0 := w) (HBB.out _) hg2 (Nat.le_refl _))
      clear hg2
      obtain ⟨ao, no, co, eo⟩ : ∃ ao no co, ov = .slice ao no co := by obtain ⟨x, y, h, _⟩ := hrep.own.si; exact ⟨_, _, _, h⟩
      subst eo
      have c1 := hrep.c1
      have c2 := hrep.c2
      have f1 := hrep.f1
      have f2 := hrep.f2
      have HREPW := Lib.hid hrep
      clear hrep
      go_wp2_with fail
      go_region
      go_wp2_with fail
      refine bodyPost_ret (v := .tuple #[.slice ao no co, .int .i64 st.span, .int .i64 0]) (by simp [results, Try.results24, go_sem, c1, c2]) rfl ?_
      have HCG : Chg w2 ((w2.setCell ⟨w.heap.size + 1, 0, none⟩ (.slice ao no co)).setCell ⟨w.heap.size + 1 + 1, 0, none⟩ (.int .i64 st.span)) w.heap.size := (Chg.set _ _ _ (by omega) (by omega)).trans (Chg.set _ _ _ (by omega) (by omega))
      exact retB rfl hE.out.1.symm hE.out.2.2.symm (show SI _ _ _ from (HREPW.out.own.chg HCG).si) hE.out.2.1.symm ((Chg.below HB2.out HCG (Nat.le_refl _)).drew)
end Go.Proofs.Ytijapbfkpmphpaa
