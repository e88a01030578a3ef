/- Contract of the reference: New. -/
import Derived.Test.YtbjnpiaooehmjaaDoorCalH
namespace Go.Proofs.YtbjnpiaooehmjaaDoor
open Go.RowKit

def PostR (w : World) (sh : List Sp) (cl : List Int) (e : Ending) (w' : World) : Prop :=
  ∃ a n c a2 n2 c2, e = .returned (.tuple #[.agg #[.slice a n c, .slice a2 n2 c2], .int .i64 (newE sh cl)]) ∧ (newE sh cl = 0 → SP w' (.slice a n c) sh ∧ SI w' (.slice a2 n2 c2) cl) ∧ Below w.heap.size w w'
theorem owns_set {w : World} {B : Nat} {e : TypeId} {size : Nat} {v : Value} {n : Nat} {xs : List Value} (h : w.ownsRow B e size v n xs) {b o : Nat} {x : Value} (hb : b < B) : (w.setCell ⟨b, o, none⟩ x).ownsRow B e size v n xs := by
  refine ⟨h.1, ?_⟩
  rcases h.2 with hn | ⟨g, cap, cur, hv, hb1, hg, r⟩
  · exact .inl hn
  · exact .inr ⟨g, cap, cur, hv, hb1, by rw [Below.heap_setCell _ _ _ _ (by show g ≠ b; omega)]; exact hg, r⟩
theorem two_set (w : World) (g : Nat) (v0 v1 x0 x1 : Value) (h0 : w.cell? ⟨g, 0, none⟩ = some x0) (h1 : w.cell? ⟨g, 1, none⟩ = some x1) :
    (((w.setCell ⟨g, 0, none⟩ v0).setCell ⟨g, 1, none⟩ v1).cell? ⟨g, 0, none⟩ = some v0) ∧ (((w.setCell ⟨g, 0, none⟩ v0).setCell ⟨g, 1, none⟩ v1).cell? ⟨g, 1, none⟩ = some v1) := by
  constructor
  · rw [World.cell?_setCell_other _ _ _ _ (by simp)]; exact World.cell?_setCell_same _ _ _ h0
  · exact World.cell?_setCell_same _ _ _ (by rw [World.cell?_setCell_other _ _ _ _ (by simp)]; exact h1)
theorem two_setN (w : World) (n g : Nat) (v0 v1 x0 x1 : Value) (h0 : w.cell? ⟨g, 0, none⟩ = some x0) (h1 : w.cell? ⟨g, 1, none⟩ = some x1) :
    ((((w.drewN n).setCell ⟨g, 0, none⟩ v0).setCell ⟨g, 1, none⟩ v1).cell? ⟨g, 0, none⟩ = some v0) ∧ ((((w.drewN n).setCell ⟨g, 0, none⟩ v0).setCell ⟨g, 1, none⟩ v1).cell? ⟨g, 1, none⟩ = some v1) := by
  have e0 : (w.drewN n).cell? ⟨g, 0, none⟩ = some x0 := h0
  have e1 : (w.drewN n).cell? ⟨g, 1, none⟩ = some x1 := h1
  constructor
  · rw [World.cell?_setCell_other _ _ _ _ (by simp)]; exact World.cell?_setCell_same _ _ _ e0
  · exact World.cell?_setCell_same _ _ _ (by rw [World.cell?_setCell_other _ _ _ _ (by simp)]; exact e1)
theorem postR_err {w w' : World} {sh : List Sp} {cl : List Int} {e : Ending} {er : Int} {a a2 : Option Addr} {n c n2 c2 : Nat} (he : e = .returned (.tuple #[.agg #[.slice a n c, .slice a2 n2 c2], .int .i64 er])) (h : newE sh cl = er) (h0 : er ≠ 0) (hb : Below w.heap.size w w') : PostR w sh cl e w' := by
  subst h
  exact ⟨_, _, _, _, _, _, he, fun h => absurd h h0, hb⟩

set_option maxHeartbeats 8000000 in
set_option maxRecDepth 100000 in
theorem rNew_any (sv cv : Value) (sh : List Sp) (cl : List Int) (w : World) (h1 : SP w sv sh) (h2 : SI w cv cl) : Calls Tryd.prog 7 #[sv, cv] w (PostR w sh cl) := by
  have HB0 : Hid (Below w.heap.size w (w.alloc (.cells #[.slice none 0 0, .slice none 0 0] 31))) := Lib.hid ((Below.refl _ _).alloc (Nat.le_refl _) _)
  by_cases l0 : sh.length = 0
  · have hE : Hid (newE sh cl = 3) := Lib.hid (by unfold newE; rw [if_pos l0])
    obtain ⟨a1, cap1, rfl, _⟩ := h1
    obtain ⟨a2, cap2, rfl, _⟩ := h2
    rw [l0]
    go_enter Tryd.func7, Tryd.ntmps7
    go_wp2_with fail
    exact bodyPost_ret (v := .tuple #[.agg #[.slice none 0 0, .slice none 0 0], .int .i64 3]) (by simp [results, Tryd.results7, go_sem]) rfl (postR_err rfl (hE.out) (by decide) HB0.out)
  by_cases lg : 21 < sh.length
  · have hE : Hid (newE sh cl = 4) := Lib.hid (by unfold newE; rw [if_neg l0, if_pos (.inl lg)])
    have hm := h1.len
    obtain ⟨a1, cap1, rfl, _⟩ := h1
    obtain ⟨a2, cap2, rfl, _⟩ := h2
    unfold maxLen at hm
    go_enter Tryd.func7, Tryd.ntmps7
    go_wp2_with fail
    exact bodyPost_ret (v := .tuple #[.agg #[.slice none 0 0, .slice none 0 0], .int .i64 4]) (by simp [results, Tryd.results7, go_sem]) rfl (postR_err rfl (hE.out) (by decide) HB0.out)
  by_cases lc : 400 < cl.length
  · have hE : Hid (newE sh cl = 4) := Lib.hid (by unfold newE; rw [if_neg l0, if_pos (.inr lc)])
    have hm := h2.len
    obtain ⟨a1, cap1, rfl, _⟩ := h1
    obtain ⟨a2, cap2, rfl, _⟩ := h2
    unfold maxLen at hm
    go_enter Tryd.func7, Tryd.ntmps7
    go_wp2_with fail
    exact bodyPost_ret (v := .tuple #[.agg #[.slice none 0 0, .slice none 0 0], .int .i64 4]) (by simp [results, Tryd.results7, go_sem]) rfl (postR_err rfl (hE.out) (by decide) HB0.out)
  have HE := Lib.hid (newE_sh (sh := sh) (cl := cl) l0 (by omega))
  have HS := Lib.hid h1
  have HD := Lib.hid h2
  obtain ⟨b, off, cap, rfl, n1, n2, hb, hcell⟩ := h1.form (by omega)
  obtain ⟨a2, cap2, rfl, n3, n4, hcell2⟩ := h2
  have HCELL := Lib.hid hcell
  have HCELL2 := Lib.hid hcell2
  have k0 : (w.alloc (.cells #[.slice none 0 0, .slice none 0 0] 31)).cell? ⟨w.heap.size, 0, none⟩ = some (.slice none 0 0) := by rw [cell_of_row _ w.heap.size 0 _ _ _ (MapKept.heap_alloc w _).1]; rfl
  have k1 : (w.alloc (.cells #[.slice none 0 0, .slice none 0 0] 31)).cell? ⟨w.heap.size, 1, none⟩ = some (.slice none 0 0) := by rw [cell_of_row _ w.heap.size 1 _ _ _ (MapKept.heap_alloc w _).1]; rfl
  have z0 : ∀ j, (w.alloc (.cells #[.slice none 0 0, .slice none 0 0] 31)).frozen? ⟨w.heap.size, j, none⟩ = false := fun j => World.frozen?_alloc_new _ _ _ _
  have Z0 := Lib.hid z0
  clear hcell hcell2 h1 z0
  unfold maxLen at n2 n4
  go_enter Tryd.func7, Tryd.ntmps7
  go_wp2_with fail
  obtain ⟨W, hW⟩ : ∃ W, w.alloc (.cells #[.slice none 0 0, .slice none 0 0] 31) = W := ⟨_, rfl⟩
  have hWs : w.heap.size < W.heap.size := by rw [← hW]; simp
  rw [hW] at HB0 k0 k1 Z0 ⊢
  go_loopw [6] (fun i wr => ∃ k : Nat, k ≤ sh.length ∧ i = .int .i64 k ∧ Hid (Below W.heap.size W wr) ∧ Hid (shE (prevB sh k) (sh.drop k) = shE (prevB sh 0) (sh.drop 0))) (fun i _ => sh.length - (intOf i).toNat)
  case atStart => exact ⟨0, Nat.zero_le _, rfl, Lib.hid (Below.refl _ _), Lib.hid rfl⟩
  case round =>
    obtain ⟨k, hk, rfl, hbw0, hj⟩ := hrel
    have hbw := Lib.hid (HB0.out.trans (hbw0.out.mono HB0.out.size))
    have q0 := cell_keep hbw0.out k0
    have q1 := cell_keep hbw0.out k1
    have hqs : w.heap.size < _ := World.block_lt_of_cell? _ _ q0
    have hz0 := (hbw0.out.frozen (p := ⟨w.heap.size, 0, none⟩) hWs).trans (Z0.out 0)
    have hz1 := (hbw0.out.frozen (p := ⟨w.heap.size, 1, none⟩) hWs).trans (Z0.out 1)
    by_cases hlt : k < sh.length
    · have hc := (HCELL.out k hlt).keep hbw.out
      have c0 := hc.c0
      have c1 := hc.c1
      have hbs : b < _ := World.block_lt_of_cell? _ _ c0
      have E1 := Lib.hid (shE_bad (sh := sh) hlt)
      have E2 := Lib.hid (shE_ord (sh := sh) hlt)
      have E3 := Lib.hid (shE_go (sh := sh) hlt)
      have HCP : Hid (k ≠ 0 → SpAt _ b (off + (k - 1) * 2) (pi2 sh (k - 1))) := Lib.hid fun hk0 => (HCELL.out (k - 1) (by omega)).keep hbw.out
      clear hc
      generalize (pi2 sh k).a = x at c0 E1 E2 E3
      generalize (pi2 sh k).b = y at c1 E1 E2 E3
      have HER : Hid (∀ er, shE (prevB sh k) (sh.drop k) = er → er ≠ 0 → newE sh cl = er) := Lib.hid fun er h h0 => by
        rw [HE.out, ← hj.out, h, if_pos h0]
      by_cases hx : x < 0
      · have dx : decide (x < 0) = true := by rw [decide_eq_true_eq]; exact hx
        go_wp2_with fail
        go_quiet (fail)
        go_wp2_with fail
        exact bodyPost_ret (v := .tuple #[.agg #[.slice none 0 0, .slice none 0 0], .int .i64 9]) (by simp [results, Tryd.results7, go_sem, (two_setN wr _ w.heap.size _ _ _ _ q0 q1).1, (two_setN wr _ w.heap.size _ _ _ _ q0 q1).2]) rfl (postR_err rfl (HER.out _ (E1.out (.inl hx)) (by decide)) (by decide) (((below_drewN' hbw.out _).setCell (Nat.le_refl _) _).setCell (Nat.le_refl _) _))
      have dx : decide (x < 0) = false := by rw [decide_eq_false_iff_not]; exact hx
      by_cases hy : y ≤ x
      · have dy : decide (y ≤ x) = true := by rw [decide_eq_true_eq]; exact hy
        go_wp2_with fail
        go_quiet (fail)
        go_wp2_with fail
        exact bodyPost_ret (v := .tuple #[.agg #[.slice none 0 0, .slice none 0 0], .int .i64 9]) (by simp [results, Tryd.results7, go_sem, (two_setN wr _ w.heap.size _ _ _ _ q0 q1).1, (two_setN wr _ w.heap.size _ _ _ _ q0 q1).2]) rfl (postR_err rfl (HER.out _ (E1.out (.inr (.inl hy))) (by decide)) (by decide) (((below_drewN' hbw.out _).setCell (Nat.le_refl _) _).setCell (Nat.le_refl _) _))
      have dy : decide (y ≤ x) = false := by rw [decide_eq_false_iff_not]; exact hy
      by_cases hzz : 168 < y
      · have dz : decide (168 < y) = true := by rw [decide_eq_true_eq]; exact hzz
        go_wp2_with fail
        go_quiet (fail)
        go_wp2_with fail
        exact bodyPost_ret (v := .tuple #[.agg #[.slice none 0 0, .slice none 0 0], .int .i64 9]) (by simp [results, Tryd.results7, go_sem, (two_setN wr _ w.heap.size _ _ _ _ q0 q1).1, (two_setN wr _ w.heap.size _ _ _ _ q0 q1).2]) rfl (postR_err rfl (HER.out _ (E1.out (.inr (.inr hzz))) (by decide)) (by decide) (((below_drewN' hbw.out _).setCell (Nat.le_refl _) _).setCell (Nat.le_refl _) _))
      have dz : decide (168 < y) = false := by rw [decide_eq_false_iff_not]; exact hzz
      by_cases hk0 : k = 0
      · subst hk0
        have HG := Lib.hid (E3.out (by omega) (fun h => absurd rfl h))
        clear E1 E2 E3 HCP
        rw [Nat.zero_mul, Nat.add_zero] at c0 c1
        go_wp2_with fail
        go_quiet (fail)
        go_wp2_with fail
        try go_quiet (fail)
        try go_wp2_with fail
        go_roundw
        case rel => exact ⟨1, by omega, by go_num, Lib.hid (below_drewN' hbw0.out _), Lib.hid HG.out⟩
        case measure => simp [intOf]; omega
      · obtain ⟨m, rfl⟩ : ∃ m, k = m + 1 := ⟨k - 1, by omega⟩
        have hcp := HCP.out (by omega)
        rw [Nat.add_sub_cancel] at hcp E2 E3
        have d1 := hcp.c1
        have ddk : decide ((0 : Int) < ((m + 1 : Nat) : Int)) = true := by rw [decide_eq_true_eq]; omega
        clear hcp HCP
        generalize (pi2 sh m).b = z at d1 E2 E3
        by_cases ho : x < z
        · have dw : decide (x < z) = true := by rw [decide_eq_true_eq]; exact ho
          go_wp2_with fail
          go_quiet (fail)
          go_wp2_with fail
          try go_quiet (fail)
          try go_wp2_with fail
          exact bodyPost_ret (v := .tuple #[.agg #[.slice none 0 0, .slice none 0 0], .int .i64 11]) (by simp [results, Tryd.results7, go_sem, (two_setN wr _ w.heap.size _ _ _ _ q0 q1).1, (two_setN wr _ w.heap.size _ _ _ _ q0 q1).2]) rfl (postR_err rfl (HER.out _ (E2.out (by omega) (by omega) ho) (by decide)) (by decide) (((below_drewN' hbw.out _).setCell (Nat.le_refl _) _).setCell (Nat.le_refl _) _))
        · have dw : decide (x < z) = false := by rw [decide_eq_false_iff_not]; exact ho
          have HG := Lib.hid (E3.out (by omega) (fun _ => ho))
          clear E1 E2 E3
          go_wp2_with fail
          go_quiet (fail)
          go_wp2_with fail
          try go_quiet (fail)
          try go_wp2_with fail
          go_roundw
          case rel => exact ⟨m + 2, by omega, by go_num, Lib.hid (below_drewN' hbw0.out _), Lib.hid (HG.out.trans hj.out)⟩
          case measure => simp [intOf]; omega
    · have hke : k = sh.length := by omega
      subst hke
      have HZ : Hid (newE sh cl = clE (prevD cl 0) (cl.drop 0)) := Lib.hid (by
        rw [HE.out, ← hj.out, shE_end]; rfl)
      clear HE hj hlt
      go_wp2_with fail
      go_loopw [7] (fun i w2 => ∃ k : Nat, k ≤ cl.length ∧ i = .int .i64 k ∧ Hid (Below wr.heap.size wr w2) ∧ Hid (clE (prevD cl k) (cl.drop k) = clE (prevD cl 0) (cl.drop 0))) (fun i _ => cl.length - (intOf i).toNat)
      case atStart => exact ⟨0, Nat.zero_le _, rfl, Lib.hid (Below.refl _ _), Lib.hid rfl⟩
      case round =>
        obtain ⟨k, hk2, rfl, hb2, hj⟩ := hrel
        have hbw2 := Lib.hid (hbw.out.trans (hb2.out.mono hbw.out.size))
        have hz2 := (hb2.out.frozen (p := ⟨w.heap.size, 0, none⟩) hqs).trans hz0
        have hz3 := (hb2.out.frozen (p := ⟨w.heap.size, 1, none⟩) hqs).trans hz1
        have q2 := cell_keep hb2.out q0
        have q3 := cell_keep hb2.out q1
        have hqs2 : w.heap.size < _ := World.block_lt_of_cell? _ _ q2
        by_cases hlt : k < cl.length
        · obtain ⟨b2, off2, rfl, hc⟩ := HCELL2.out k hlt
          have c0 := cell_keep hbw2.out hc
          have hbs : b2 < _ := World.block_lt_of_cell? _ _ c0
          have E1 := Lib.hid (clE_bad (l := cl) hlt)
          have E2 := Lib.hid (clE_ord (l := cl) hlt)
          have E3 := Lib.hid (clE_go (l := cl) hlt)
          have HCP : Hid (k ≠ 0 → wr.cell? ⟨b2, off2 + (k - 1), none⟩ = some (.int .i64 (gi cl (k - 1)))) := Lib.hid fun hk0 => by
            obtain ⟨b3, off3, e3, hc3⟩ := HCELL2.out (k - 1) (by omega)
            have e3 := Option.some.inj e3
            simp only [Addr.mk.injEq] at e3
            obtain ⟨rfl, rfl, _⟩ := e3
            exact cell_keep hbw2.out hc3
          clear hc
          generalize gi cl k = x at c0 E1 E2 E3
          have HER : Hid (∀ er, clE (prevD cl k) (cl.drop k) = er → newE sh cl = er) := Lib.hid fun er h => by
            rw [HZ.out, ← hj.out, h]
          by_cases hx : x < 0
          · have dx : decide (x < 0) = true := by rw [decide_eq_true_eq]; exact hx
            go_wp2_with fail
            exact bodyPost_ret (v := .tuple #[.agg #[.slice none 0 0, .slice none 0 0], .int .i64 9]) (by simp [results, Tryd.results7, go_sem, (two_set wr w.heap.size _ _ _ _ q2 q3).1, (two_set wr w.heap.size _ _ _ _ q2 q3).2]) rfl (postR_err rfl (HER.out _ (E1.out (.inl hx))) (by decide) ((hbw2.out.setCell (Nat.le_refl _) _).setCell (Nat.le_refl _) _))
          have dx : decide (x < 0) = false := by rw [decide_eq_false_iff_not]; exact hx
          by_cases hy : 43690 < x
          · have dy : decide (43690 < x) = true := by rw [decide_eq_true_eq]; exact hy
            go_wp2_with fail
            exact bodyPost_ret (v := .tuple #[.agg #[.slice none 0 0, .slice none 0 0], .int .i64 9]) (by simp [results, Tryd.results7, go_sem, (two_set wr w.heap.size _ _ _ _ q2 q3).1, (two_set wr w.heap.size _ _ _ _ q2 q3).2]) rfl (postR_err rfl (HER.out _ (E1.out (.inr hy))) (by decide) ((hbw2.out.setCell (Nat.le_refl _) _).setCell (Nat.le_refl _) _))
          have dy : decide (43690 < x) = false := by rw [decide_eq_false_iff_not]; exact hy
          by_cases hk0 : k = 0
          · subst hk0
            have HG := Lib.hid (E3.out (by omega) (fun h => absurd rfl h))
            clear E1 E2 E3 HCP
            rw [Nat.add_zero] at c0
            go_wp2_with fail
            try go_quiet (fail)
            try go_wp2_with fail
            go_roundw
            case rel => exact ⟨1, by omega, by go_num, Lib.hid (by first | exact hb2.out | exact below_drewN' hb2.out _), Lib.hid HG.out⟩
            case measure => simp [intOf]; omega
          · obtain ⟨m, rfl⟩ : ∃ m, k = m + 1 := ⟨k - 1, by omega⟩
            have d1 := HCP.out (by omega)
            rw [Nat.add_sub_cancel] at d1 E2 E3
            have ddk : decide ((0 : Int) < ((m + 1 : Nat) : Int)) = true := by rw [decide_eq_true_eq]; omega
            clear HCP
            generalize gi cl m = z at d1 E2 E3
            by_cases ho : x ≤ z
            · have dw : decide (x ≤ z) = true := by rw [decide_eq_true_eq]; exact ho
              go_wp2_with fail
              go_quiet (fail)
              go_wp2_with fail
              exact bodyPost_ret (v := .tuple #[.agg #[.slice none 0 0, .slice none 0 0], .int .i64 11]) (by simp [results, Tryd.results7, go_sem, (two_setN wr _ w.heap.size _ _ _ _ q2 q3).1, (two_setN wr _ w.heap.size _ _ _ _ q2 q3).2]) rfl (postR_err rfl (HER.out _ (E2.out (by omega) (by omega) ho)) (by decide) (((below_drewN' hbw2.out _).setCell (Nat.le_refl _) _).setCell (Nat.le_refl _) _))
            · have dw : decide (x ≤ z) = false := by rw [decide_eq_false_iff_not]; exact ho
              have HG := Lib.hid (E3.out (by omega) (fun _ => ho))
              clear E1 E2 E3
              go_wp2_with fail
              try go_quiet (fail)
              try go_wp2_with fail
              go_roundw
              case rel => exact ⟨m + 2, by omega, by go_num, Lib.hid (by first | exact hb2.out | exact below_drewN' hb2.out _), Lib.hid (HG.out.trans hj.out)⟩
              case measure => simp [intOf]; omega
        · have hke : k = cl.length := by omega
          subst hke
          have HZ2 : Hid (newE sh cl = 0) := Lib.hid (by rw [HZ.out, ← hj.out, clE_end])
          clear hj hlt hk2 HZ
          have HQ := Lib.hid (show _ ∧ _ from ⟨q2, q3⟩)
          have HF := Lib.hid (show _ ∧ _ from ⟨hz2, hz3⟩)
          have HSW := Lib.hid (HS.out.keep hbw2.out)
          have HDW := Lib.hid (HD.out.keep hbw2.out)
          clear hz0 hz1 hz2 hz3 q0 q1
          go_wp2_with (first
            | (at_builtin; refine wpList_app_sps rfl (.tmp 106) (.tmp 107) rfl wr.heap.size _ [] sh rfl (OwnSp_empty _ _ (Nat.le_refl _)) ⟨b, off, none⟩ _ _ rfl (HSW.out.keep ((Below.refl _ _).alloc (Nat.le_refl _) _)) (by simp; omega) (by simp) ?_))
          intro v3 w3 ho3 hg3 _
          have hb3 : Below wr.heap.size wr w3 := ((Below.refl _ _).alloc (Nat.le_refl _) _).grown hg3 (by simp) (by simp [Value.ownBlock])
          have HB3 := Lib.hid hb3
          have HO3 : Hid (OwnSp w3 wr.heap.size v3 sh) := Lib.hid (by simpa using ho3)
          obtain ⟨a3, c3, e3, _⟩ := HO3.out.sp
          subst e3
          clear hg3 ho3 hb3
          go_wp2_with (first
            | (at_builtin; refine wpList_app_int rfl (.tmp 109) (.tmp 110) rfl w3.heap.size _ _ [] cl rfl rfl (OwnI_empty _ _ (Nat.le_refl _)) ((HDW.out.keep HB3.out).alloc _) (by simp; omega) (by simp) ?_))
          intro v4 w4 ho4 hg4 _
          have hb4 : Below w3.heap.size w3 w4 := ((Below.refl _ _).alloc (Nat.le_refl _) _).grown hg4 (by simp) (by simp [Value.ownBlock])
          have HB4 := Lib.hid (ext_trans HB3.out hb4)
          have HO4 : Hid (OwnI w4 w3.heap.size v4 cl) := Lib.hid (by simpa using ho4)
          have HO5 : Hid (OwnSp w4 wr.heap.size _ sh) := Lib.hid (owns_below HO3.out hb4)
          have hqs3 : w.heap.size < w3.heap.size := Nat.lt_of_lt_of_le hqs2 HB3.out.size
          obtain ⟨a4, c4, e4, _⟩ := HO4.out.si
          subst e4
          clear hg4 ho4 hb4 q2 q3
          have q0 := cell_keep HB4.out HQ.out.1
          have q1 := cell_keep HB4.out HQ.out.2
          have hz0 := (HB4.out.frozen (p := ⟨w.heap.size, 0, none⟩) hqs2).trans HF.out.1
          have hz1 := (HB4.out.frozen (p := ⟨w.heap.size, 1, none⟩) hqs2).trans HF.out.2
          go_wp2_with fail
          refine bodyPost_ret (v := .tuple #[.agg #[.slice a3 sh.length c3, .slice a4 cl.length c4], .int .i64 0]) (by simp [results, Tryd.results7, go_sem, (two_set w4 w.heap.size _ _ _ _ q0 q1).1, (two_set w4 w.heap.size _ _ _ _ q0 q1).2]) rfl ⟨_, _, _, _, _, _, by rw [HZ2.out], fun _ => ⟨?_, ?_⟩, ?_⟩
          · exact OwnSp.sp (owns_set (owns_set HO5.out hqs2) hqs2)
          · exact OwnI.si (owns_set (owns_set HO4.out hqs3) hqs3)
          · exact (((hbw2.out.trans (HB4.out.mono hbw2.out.size)).setCell (Nat.le_refl _) _).setCell (Nat.le_refl _) _)
end Go.Proofs.YtbjnpiaooehmjaaDoor
