/- Contracts of calendar's laws: right, made. -/
import Derived.Test.YtbjnpiaooehmjaaDoorCalN
namespace Go.Proofs.YtbjnpiaooehmjaaDoor
open Go.RowKit

theorem newE_len {sh : List Sp} {cl : List Int} (h : newE sh cl = 0) : sh.length ≤ 21 ∧ cl.length ≤ 400 := ⟨(newE_ok h).2.1, (newE_ok h).2.2.1⟩
theorem cell_two (w : World) (v0 v1 : Value) (t : TypeId) : (w.alloc (.cells #[v0, v1] t)).cell? ⟨w.heap.size, 0, none⟩ = some v0 ∧ (w.alloc (.cells #[v0, v1] t)).cell? ⟨w.heap.size, 1, none⟩ = some v1 := by
  constructor
  · rw [cell_of_row (w.alloc (.cells #[v0, v1] t)) w.heap.size 0 #[v0, v1] t (0, 0) (MapKept.heap_alloc w _).1]; rfl
  · rw [cell_of_row (w.alloc (.cells #[v0, v1] t)) w.heap.size 1 #[v0, v1] t (0, 0) (MapKept.heap_alloc w _).1]; rfl
/-- a plan that was boxed: what holds in each later world -/
structure Box (w : World) (v0 v1 : Value) (W : World) : Prop where
  q0 : W.cell? ⟨w.heap.size, 0, none⟩ = some v0
  q1 : W.cell? ⟨w.heap.size, 1, none⟩ = some v1
  qs : w.heap.size < W.heap.size
  hb : Below w.heap.size w W
theorem Box.start (w : World) (v0 v1 : Value) (t : TypeId) : Box w v0 v1 (w.alloc (.cells #[v0, v1] t)) := ⟨(cell_two w v0 v1 t).1, (cell_two w v0 v1 t).2, by simp, (Below.refl _ _).alloc (Nat.le_refl _) _⟩
theorem Box.keep {w W W' : World} {v0 v1 : Value} (h : Box w v0 v1 W) (hb : Below W.heap.size W W') : Box w v0 v1 W' := ⟨cell_keep hb h.q0, cell_keep hb h.q1, Nat.lt_of_lt_of_le h.qs hb.size, ext_trans h.hb hb⟩
theorem Box.alloc {w W : World} {v0 v1 : Value} (h : Box w v0 v1 W) (o : Obj) : Box w v0 v1 (W.alloc o) := h.keep ((Below.refl _ _).alloc (Nat.le_refl _) _)
set_option maxHeartbeats 1000000 in
theorem right_any (v : Value) (sh : List Sp) (cl : List Int) (w : World) (h : CalR w v sh cl) : Calls Tryd.prog 8 #[v] w (Ret w (.bool (decide (newE sh cl = 0)))) := by
  obtain ⟨sv, cv, rfl, hsp, hsi⟩ := h
  have HN : Hid (∀ W, Below w.heap.size w W → Calls Tryd.prog 7 #[sv, cv] W fun e W' => ∃ a n c a2 n2 c2, e = .returned (.tuple #[.agg #[.slice a n c, .slice a2 n2 c2], .int .i64 (newE sh cl)]) ∧ Below W.heap.size W W') := fun W hW => (rNew_any sv cv sh cl W (hsp.keep hW) (hsi.keep hW)).mono fun e W' ⟨_, _, _, _, _, _, he, _, hb⟩ => ⟨_, _, _, _, _, _, he, hb⟩
  have HL := Lib.hid (newE_len (sh := sh) (cl := cl))
  obtain ⟨a, cap, rfl, h1, h2, _⟩ := hsp
  obtain ⟨a2, cap2, rfl, g1, g2, _⟩ := hsi
  have HB0 := Lib.hid (Box.start w (.slice a sh.length cap) (.slice a2 cl.length cap2) 25)
  have hm1 : sh.length ≤ 9223372036854775807 := by unfold maxLen at h2; omega
  have hm2 : cl.length ≤ 9223372036854775807 := by unfold maxLen at g2; omega
  by_cases hE : newE sh cl = 0
  · have e1 : decide ((sh.length : Int) ≤ 30) = true := by rw [decide_eq_true_eq]; have := (HL.out hE).1; omega
    have e2 : decide ((cl.length : Int) ≤ 410) = true := by rw [decide_eq_true_eq]; have := (HL.out hE).2; omega
    rw [hE] at HN
    rw [show decide (newE sh cl = 0) = true by rw [decide_eq_true_eq]; exact hE]
    clear hE HL
    go_enter Tryd.func8, Tryd.ntmps8
    go_wp2_with fail
    refine (HN.out _ HB0.out.hb).mono ?_
    rintro e w1 ⟨xa, xn, xc, ya, yn, yc, rfl, hb⟩
    have hx := HB0.out.keep hb
    have HB := Lib.hid hx.hb
    have q0 := hx.q0
    have q1 := hx.q1
    have qs := hx.qs
    clear hb hx
    go_wp2_with fail
    go_ret
    exact ⟨rfl, by first | exact HB.out | exact (HB.out.alloc HB.out.size _)⟩
  · rw [show decide (newE sh cl = 0) = false by rw [decide_eq_false_iff_not]; exact hE]
    have e0 : (newE sh cl == 0) = false := by rw [beq_eq_false_iff_ne]; exact hE
    generalize newE sh cl = er at *
    clear hE HL
    by_cases c1 : sh.length ≤ 30
    · have e1 : decide ((sh.length : Int) ≤ 30) = true := by rw [decide_eq_true_eq]; omega
      by_cases c2 : cl.length ≤ 410
      · have e2 : decide ((cl.length : Int) ≤ 410) = true := by rw [decide_eq_true_eq]; omega
        go_enter Tryd.func8, Tryd.ntmps8
        go_wp2_with fail
        refine (HN.out _ HB0.out.hb).mono ?_
        rintro e w1 ⟨xa, xn, xc, ya, yn, yc, rfl, hb⟩
        have hx := HB0.out.keep hb
        have HB := Lib.hid hx.hb
        have q0 := hx.q0
        have q1 := hx.q1
        have qs := hx.qs
        clear hb hx
        go_wp2_with fail
        go_ret
        exact ⟨rfl, by first | exact HB.out | exact (HB.out.alloc HB.out.size _)⟩
      · have e2 : decide ((cl.length : Int) ≤ 410) = false := by rw [decide_eq_false_iff_not]; omega
        go_enter Tryd.func8, Tryd.ntmps8
        go_wp2_with fail
        refine (HN.out _ HB0.out.hb).mono ?_
        rintro e w1 ⟨xa, xn, xc, ya, yn, yc, rfl, hb⟩
        have hx := HB0.out.keep hb
        have HB := Lib.hid hx.hb
        have q0 := hx.q0
        have q1 := hx.q1
        have qs := hx.qs
        clear hb hx
        go_wp2_with fail
        go_ret
        exact ⟨rfl, by first | exact HB.out | exact (HB.out.alloc HB.out.size _)⟩
    · have e1 : decide ((sh.length : Int) ≤ 30) = false := by rw [decide_eq_false_iff_not]; omega
      go_enter Tryd.func8, Tryd.ntmps8
      go_wp2_with fail
      refine (HN.out _ HB0.out.hb).mono ?_
      rintro e w1 ⟨xa, xn, xc, ya, yn, yc, rfl, hb⟩
      have hx := HB0.out.keep hb
      have HB := Lib.hid hx.hb
      have q0 := hx.q0
      have q1 := hx.q1
      have qs := hx.qs
      clear hb hx
      go_wp2_with fail
      go_ret
      exact ⟨rfl, by first | exact HB.out | exact (HB.out.alloc HB.out.size _)⟩

/-! two cells of a block that holds two empty slices are stored to: numbers stay -/
def nilS : Value := .slice none 0 0
theorem SP.via {w w' : World} {v : Value} {l : List Sp} (h : SP w v l) (hk : ∀ p k n, w.cell? p = some (.int k n) → w'.cell? p = some (.int k n)) : SP w' v l := by
  obtain ⟨a, cap, rfl, h1, h2, h3⟩ := h
  exact ⟨a, cap, rfl, h1, h2, fun i hi => by obtain ⟨b, off, ha, hc⟩ := h3 i hi; exact ⟨b, off, ha, ⟨hk _ _ _ hc.c0, hk _ _ _ hc.c1⟩⟩⟩
theorem SI.via {w w' : World} {v : Value} {l : List Int} (h : SI w v l) (hk : ∀ p k n, w.cell? p = some (.int k n) → w'.cell? p = some (.int k n)) : SI w' v l := by
  obtain ⟨a, cap, rfl, h1, h2, h3⟩ := h
  exact ⟨a, cap, rfl, h1, h2, fun i hi => by obtain ⟨b, off, ha, hc⟩ := h3 i hi; exact ⟨b, off, ha, hk _ _ _ hc⟩⟩
theorem int_set {w : World} {q : Addr} {x : Value} (hq : w.cell? q = some nilS) : ∀ p k n, w.cell? p = some (.int k n) → (w.setCell q x).cell? p = some (.int k n) := by
  intro p k n hp
  rw [World.cell?_setCell_other _ _ _ _ ?_]
  · exact hp
  · rintro rfl
    rw [hp] at hq
    exact absurd (Option.some.inj hq) (by unfold nilS; simp)
theorem nil_set {w : World} {g : Nat} {x : Value} (h1 : w.cell? ⟨g, 1, none⟩ = some nilS) : (w.setCell ⟨g, 0, none⟩ x).cell? ⟨g, 1, none⟩ = some nilS := by
  rw [World.cell?_setCell_other _ _ _ _ (by simp)]; exact h1
theorem int_two {w : World} {g : Nat} {x y : Value} (h0 : w.cell? ⟨g, 0, none⟩ = some nilS) (h1 : w.cell? ⟨g, 1, none⟩ = some nilS) : ∀ p k n, w.cell? p = some (.int k n) → ((w.setCell ⟨g, 0, none⟩ x).setCell ⟨g, 1, none⟩ y).cell? p = some (.int k n) :=
  fun p k n hp => int_set (nil_set h1) p k n (int_set h0 p k n hp)
theorem CalR.two {w : World} {v : Value} {sh : List Sp} {cl : List Int} {g : Nat} {x y : Value} (h : CalR w v sh cl) (h0 : w.cell? ⟨g, 0, none⟩ = some nilS) (h1 : w.cell? ⟨g, 1, none⟩ = some nilS) : CalR ((w.setCell ⟨g, 0, none⟩ x).setCell ⟨g, 1, none⟩ y) v sh cl := by
  obtain ⟨sv, cv, rfl, h3, h4⟩ := h
  exact ⟨sv, cv, rfl, h3.via (int_two h0 h1), h4.via (int_two h0 h1)⟩
theorem CalP.two {w : World} {v : Value} {sh : List Sp} {cl : List Int} {g : Nat} {x y : Value} (h : CalP w v sh cl) (hl : 1 ≤ sh.length) (h0 : w.cell? ⟨g, 0, none⟩ = some nilS) (h1 : w.cell? ⟨g, 1, none⟩ = some nilS) : CalP ((w.setCell ⟨g, 0, none⟩ x).setCell ⟨g, 1, none⟩ y) v sh cl := by
  obtain ⟨B, sv, cv, rfl, c0, c1, h3, h4⟩ := h
  have hB : B ≠ g := by
    rintro rfl
    rw [c0] at h0
    obtain ⟨a, cap, e, _⟩ := h3
    rw [e] at h0
    have := Option.some.inj h0
    unfold nilS at this
    simp at this
    have h2 := this.2.1
    subst h2
    simp at hl
  refine ⟨B, sv, cv, rfl, ?_, ?_, h3.via (int_two h0 h1), h4.via (int_two h0 h1)⟩
  · rw [World.cell?_setCell_other _ _ _ _ (by simp [hB]), World.cell?_setCell_other _ _ _ _ (by simp [hB])]; exact c0
  · rw [World.cell?_setCell_other _ _ _ _ (by simp [hB]), World.cell?_setCell_other _ _ _ _ (by simp [hB])]; exact c1

/-- what made hands back of a right plan -/
def PostM (w : World) (sh : List Sp) (cl : List Int) (e : Ending) (w' : World) : Prop :=
  ∃ B a n c a2 n2 c2, e = .returned (.tuple #[.pointer (some ⟨B, 0, none⟩), .agg #[.slice a n c, .slice a2 n2 c2], .bool true]) ∧ CalP w' (.pointer (some ⟨B, 0, none⟩)) sh cl ∧ CalR w' (.agg #[.slice a n c, .slice a2 n2 c2]) sh cl ∧ Below w.heap.size w w'
set_option maxHeartbeats 1000000 in
theorem made_yes (v : Value) (sh : List Sp) (cl : List Int) (w : World) (h : CalR w v sh cl) (hE : newE sh cl = 0) : Calls Tryd.prog 9 #[v] w (PostM w sh cl) := by
  obtain ⟨sv, cv, rfl, hsp, hsi⟩ := h
  have HN : Hid (∀ W, Below w.heap.size w W → Calls Tryd.prog 7 #[sv, cv] W fun e W' => ∃ a n c a2 n2 c2, e = .returned (.tuple #[.agg #[.slice a n c, .slice a2 n2 c2], .int .i64 0]) ∧ CalR W' (.agg #[.slice a n c, .slice a2 n2 c2]) sh cl ∧ Below W.heap.size W W') := fun W hW => (rNew_any sv cv sh cl W (hsp.keep hW) (hsi.keep hW)).mono fun e W' ⟨_, _, _, _, _, _, he, h2, hb⟩ => ⟨_, _, _, _, _, _, by rw [he, hE], ⟨_, _, rfl, (h2 hE).1, (h2 hE).2⟩, hb⟩
  have HP : Hid (∀ W, Below w.heap.size w W → Calls Tryd.prog 6 #[sv, cv] W fun e W' => ∃ B, e = .returned (.tuple #[.pointer (some ⟨B, 0, none⟩), .int .i64 0]) ∧ CalP W' (.pointer (some ⟨B, 0, none⟩)) sh cl ∧ Below W.heap.size W W') := fun W hW => (New_any sv cv sh cl W (hsp.keep hW) (hsi.keep hW)).mono fun e W' ⟨v, he, h2, _, hb⟩ => by
    obtain ⟨B, sv', cv', rfl, r⟩ := h2 hE
    exact ⟨B, by rw [he, hE], ⟨B, sv', cv', rfl, r⟩, hb⟩
  have HL := Lib.hid (newE_len hE)
  obtain ⟨a, cap, rfl, h1, h2, _⟩ := hsp
  obtain ⟨a2, cap2, rfl, g1, g2, _⟩ := hsi
  have HB0 := Lib.hid (Box.start w (.slice a sh.length cap) (.slice a2 cl.length cap2) 25)
  have e1 : decide ((30 : Int) < sh.length) = false := by rw [decide_eq_false_iff_not]; have := HL.out.1; omega
  have e2 : decide ((410 : Int) < cl.length) = false := by rw [decide_eq_false_iff_not]; have := HL.out.2; omega
  go_enter Tryd.func9, Tryd.ntmps9
  go_wp2_with fail
  have HB1 := Lib.hid (HB0.out.alloc (.cells #[.slice none 0 0, .slice none 0 0] 31))
  have hz : ∀ o : Obj, (w.alloc o).heap.size = w.heap.size + 1 := fun o => by simp
  have HR0 : Hid (Box (w.alloc (.cells #[.slice a sh.length cap, .slice a2 cl.length cap2] 25)) nilS nilS ((w.alloc (.cells #[.slice a sh.length cap, .slice a2 cl.length cap2] 25)).alloc (.cells #[.slice none 0 0, .slice none 0 0] 31))) := Lib.hid (Box.start _ nilS nilS 31)
  have hf0 : ((w.alloc (.cells #[.slice a sh.length cap, .slice a2 cl.length cap2] 25)).alloc (.cells #[.slice none 0 0, .slice none 0 0] 31)).frozen? ⟨w.heap.size + 1, 0, none⟩ = false := by rw [← hz]; exact World.frozen?_alloc_new _ _ _ _
  have hf1 : ((w.alloc (.cells #[.slice a sh.length cap, .slice a2 cl.length cap2] 25)).alloc (.cells #[.slice none 0 0, .slice none 0 0] 31)).frozen? ⟨w.heap.size + 1, 1, none⟩ = false := by rw [← hz]; exact World.frozen?_alloc_new _ _ _ _
  refine (HN.out _ HB1.out.hb).mono ?_
  rintro e w1 ⟨xa, xn, xc, ya, yn, yc, rfl, hR, hb⟩
  have hx := HB1.out.keep hb
  have HX1 := Lib.hid hx
  have q0 := hx.q0
  have q1 := hx.q1
  have qs := hx.qs
  have HR1 := Lib.hid hR
  have HY1 := Lib.hid (HR0.out.keep hb)
  have hl2 : w.heap.size + 1 < ((w.alloc (.cells #[.slice a sh.length cap, .slice a2 cl.length cap2] 25)).alloc (.cells #[.slice none 0 0, .slice none 0 0] 31)).heap.size := by simp
  have HF1 : Hid (w1.frozen? ⟨w.heap.size + 1, 0, none⟩ = false ∧ w1.frozen? ⟨w.heap.size + 1, 1, none⟩ = false) := Lib.hid ⟨(hb.frozen (p := ⟨w.heap.size + 1, 0, none⟩) hl2).trans hf0, (hb.frozen (p := ⟨w.heap.size + 1, 1, none⟩) hl2).trans hf1⟩
  clear hb hx hR hf0 hf1
  go_wp2_with fail
  have HD := Lib.hid (Box.start w1 (.slice xa xn xc) (.slice ya yn yc) 31)
  have HX2 := Lib.hid (HX1.out.keep HD.out.hb)
  refine (HP.out _ HX2.out.hb).mono ?_
  rintro e w2 ⟨B, rfl, hC, hb⟩
  have HX3 := Lib.hid (HX2.out.keep hb)
  have HD3 := Lib.hid (HD.out.keep hb)
  have HY3 := Lib.hid ((HY1.out.keep HD.out.hb).keep hb)
  have HCP := Lib.hid hC
  have HCR := Lib.hid ((HR1.out.keep HD.out.hb).keep hb)
  have hq1 : w.heap.size + 1 < w1.heap.size := by have := HY1.out.qs; rw [hz] at this; exact this
  have hf0 : w2.frozen? ⟨w.heap.size + 1, 0, none⟩ = false := (hb.frozen (p := ⟨w.heap.size + 1, 0, none⟩) (Nat.lt_of_lt_of_le hq1 HD.out.hb.size)).trans ((HD.out.hb.frozen (p := ⟨w.heap.size + 1, 0, none⟩) hq1).trans HF1.out.1)
  have hf1 : w2.frozen? ⟨w.heap.size + 1, 1, none⟩ = false := (hb.frozen (p := ⟨w.heap.size + 1, 1, none⟩) (Nat.lt_of_lt_of_le hq1 HD.out.hb.size)).trans ((HD.out.hb.frozen (p := ⟨w.heap.size + 1, 1, none⟩) hq1).trans HF1.out.2)
  have d0 := HD3.out.q0
  have d1 := HD3.out.q1
  have n0 : w2.cell? ⟨w.heap.size + 1, 0, none⟩ = some (.slice none 0 0) := by have := HY3.out.q0; rw [hz] at this; exact this
  have n1 : w2.cell? ⟨w.heap.size + 1, 1, none⟩ = some (.slice none 0 0) := by have := HY3.out.q1; rw [hz] at this; exact this
  have HB2 := Lib.hid HX3.out.hb
  have HG := Lib.hid (good_of hE).n1
  clear hb hC q0 q1 qs hl2 hq1 hz
  go_wp2_with fail
  go_region
  go_wp2_with fail
  refine bodyPost_ret (v := .tuple #[.pointer (some ⟨B, 0, none⟩), .agg #[.slice xa xn xc, .slice ya yn yc], .bool true]) (by simp [results, Tryd.results9, go_sem, (two_set w2 (w.heap.size + 1) (.slice xa xn xc) (.slice ya yn yc) _ _ n0 n1).1, (two_set w2 (w.heap.size + 1) (.slice xa xn xc) (.slice ya yn yc) _ _ n0 n1).2]) rfl ⟨_, _, _, _, _, _, _, rfl, (HCP.out.two HG.out n0 n1).keep (below_drewN' (Below.refl _ _) 1), (HCR.out.two n0 n1).keep (below_drewN' (Below.refl _ _) 1), ?_⟩
  exact below_drewN' ((HB2.out.setCell (Nat.le_add_right _ 1) _).setCell (Nat.le_add_right _ 1) _) 1
end Go.Proofs.YtbjnpiaooehmjaaDoor
