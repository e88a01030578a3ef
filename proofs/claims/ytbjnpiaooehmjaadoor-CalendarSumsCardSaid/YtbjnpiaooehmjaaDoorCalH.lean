/- Contract: New (the walk). -/
import Derived.Test.YtbjnpiaooehmjaaDoorCalG
namespace Go.Proofs.YtbjnpiaooehmjaaDoor
open Go.RowKit

def PostN (w : World) (sh : List Sp) (cl : List Int) (e : Ending) (w' : World) : Prop :=
  ∃ v, e = .returned (.tuple #[v, .int .i64 (newE sh cl)]) ∧ (newE sh cl = 0 → CalP w' v sh cl) ∧ (newE sh cl ≠ 0 → v = .pointer none) ∧ Below w.heap.size w w'
theorem postN_err {w w' : World} {sh : List Sp} {cl : List Int} {e : Ending} {er : Int} (he : e = .returned (.tuple #[.pointer none, .int .i64 er])) (h : newE sh cl = er) (h0 : er ≠ 0) (hb : Below w.heap.size w w') : PostN w sh cl e w' := by
  subst h
  exact ⟨_, he, fun h => absurd h h0, fun _ => rfl, hb⟩

set_option maxHeartbeats 4000000 in
set_option maxRecDepth 100000 in
theorem New_any (sv cv : Value) (sh : List Sp) (cl : List Int) (w : World) (h1 : SP w sv sh) (h2 : SI w cv cl) : Calls Tryd.prog 6 #[sv, cv] w (PostN w sh cl) := by
  by_cases l0 : sh.length = 0
  · have hE : Hid (newE sh cl = 3) := Lib.hid (by unfold newE; rw [if_pos l0])
    obtain ⟨a1, cap1, rfl, _⟩ := h1
    obtain ⟨a2, cap2, rfl, _⟩ := h2
    rw [l0]
    go_enter Tryd.func6, Tryd.ntmps6
    go_wp2_with fail
    go_ret2
    exact postN_err rfl hE.out (by decide) (Below.refl _ _)
  by_cases lg : 21 < sh.length
  · have hE : Hid (newE sh cl = 4) := Lib.hid (by unfold newE; rw [if_neg l0, if_pos (.inl lg)])
    have hm := h1.len
    obtain ⟨a1, cap1, rfl, _⟩ := h1
    obtain ⟨a2, cap2, rfl, _⟩ := h2
    unfold maxLen at hm
    go_enter Tryd.func6, Tryd.ntmps6
    go_wp2_with fail
    go_ret2
    exact postN_err rfl hE.out (by decide) (Below.refl _ _)
  by_cases lc : 400 < cl.length
  · have hE : Hid (newE sh cl = 4) := Lib.hid (by unfold newE; rw [if_neg l0, if_pos (.inr lc)])
    have hm := h2.len
    obtain ⟨a1, cap1, rfl, _⟩ := h1
    obtain ⟨a2, cap2, rfl, _⟩ := h2
    unfold maxLen at hm
    go_enter Tryd.func6, Tryd.ntmps6
    go_wp2_with fail
    go_ret2
    exact postN_err rfl hE.out (by decide) (Below.refl _ _)
  have HE := Lib.hid (newE_sh (sh := sh) (cl := cl) l0 (by omega))
  have HS := Lib.hid h1
  have HD := Lib.hid h2
  obtain ⟨b, off, cap, rfl, n1, n2, hb, hcell⟩ := h1.form (by omega)
  obtain ⟨a2, cap2, rfl, n3, n4, hcell2⟩ := h2
  have HCELL := Lib.hid hcell
  have HCELL2 := Lib.hid hcell2
  clear hcell hcell2 h1
  unfold maxLen at n2 n4
  go_enter Tryd.func6, Tryd.ntmps6
  go_wp2_with fail
  go_loopw [23] (fun i wr => ∃ k : Nat, k ≤ sh.length ∧ i = .int .i64 k ∧ Hid (Below w.heap.size w wr) ∧ Hid (shE (prevB sh k) (sh.drop k) = shE (prevB sh 0) (sh.drop 0))) (fun i _ => sh.length - (intOf i).toNat)
  case atStart => exact ⟨0, Nat.zero_le _, rfl, Lib.hid (Below.refl _ _), Lib.hid rfl⟩
  case round =>
    obtain ⟨k, hk, rfl, hbw, hj⟩ := hrel
    by_cases hlt : k < sh.length
    · have hc := (HCELL.out k hlt).keep hbw.out
      have c0 := hc.c0
      have c1 := hc.c1
      have hbs : b < _ := World.block_lt_of_cell? _ _ c0
      have E1 := Lib.hid (shE_bad (sh := sh) hlt)
      have E2 := Lib.hid (shE_ord (sh := sh) hlt)
      have E3 := Lib.hid (shE_go (sh := sh) hlt)
      have HCP : Hid (k ≠ 0 → SpAt _ b (off + (k - 1) * 2) (pi2 sh (k - 1))) := Lib.hid fun hk0 => (HCELL.out (k - 1) (by omega)).keep hbw.out
      clear hc
      generalize (pi2 sh k).a = x at c0 E1 E2 E3
      generalize (pi2 sh k).b = y at c1 E1 E2 E3
      have HER : Hid (∀ er, shE (prevB sh k) (sh.drop k) = er → er ≠ 0 → newE sh cl = er) := Lib.hid fun er h h0 => by
        rw [HE.out, ← hj.out, h, if_pos h0]
      by_cases hx : x < 0
      · have dx : decide (x < 0) = true := by rw [decide_eq_true_eq]; exact hx
        go_wp2_with fail
        go_ret2
        exact postN_err rfl (HER.out _ (E1.out (.inl hx)) (by decide)) (by decide) (below_alloc hbw.out _)
      have dx : decide (x < 0) = false := by rw [decide_eq_false_iff_not]; exact hx
      by_cases hy : y ≤ x
      · have dy : decide (y ≤ x) = true := by rw [decide_eq_true_eq]; exact hy
        go_wp2_with fail
        go_ret2
        exact postN_err rfl (HER.out _ (E1.out (.inr (.inl hy))) (by decide)) (by decide) (below_alloc hbw.out _)
      have dy : decide (y ≤ x) = false := by rw [decide_eq_false_iff_not]; exact hy
      by_cases hz : 168 < y
      · have dz : decide (168 < y) = true := by rw [decide_eq_true_eq]; exact hz
        go_wp2_with fail
        go_ret2
        exact postN_err rfl (HER.out _ (E1.out (.inr (.inr hz))) (by decide)) (by decide) (below_alloc hbw.out _)
      have dz : decide (168 < y) = false := by rw [decide_eq_false_iff_not]; exact hz
      by_cases hk0 : k = 0
      · subst hk0
        have HG := Lib.hid (E3.out (by omega) (fun h => absurd rfl h))
        clear E1 E2 E3 HCP
        rw [Nat.zero_mul, Nat.add_zero] at c0 c1
        go_wp2_with fail
        go_quiet (fail)
        go_wp2_with fail
        go_roundw
        case rel => exact ⟨1, by omega, by go_num, Lib.hid (below_drewN' (below_alloc hbw.out _) _), Lib.hid HG.out⟩
        case measure => simp [intOf]; omega
      · obtain ⟨m, rfl⟩ : ∃ m, k = m + 1 := ⟨k - 1, by omega⟩
        have hcp := HCP.out (by omega)
        rw [Nat.add_sub_cancel] at hcp E2 E3
        have d1 := hcp.c1
        have ddk : decide ((0 : Int) < ((m + 1 : Nat) : Int)) = true := by rw [decide_eq_true_eq]; omega
        clear hcp HCP
        generalize (pi2 sh m).b = z at d1 E2 E3
        by_cases ho : x < z
        · have dw : decide (x < z) = true := by rw [decide_eq_true_eq]; exact ho
          go_wp2_with fail
          go_quiet (fail)
          go_wp2_with fail
          go_ret2
          exact postN_err rfl (HER.out _ (E2.out (by omega) (by omega) ho) (by decide)) (by decide) (below_drewN' (below_alloc hbw.out _) _)
        · have dw : decide (x < z) = false := by rw [decide_eq_false_iff_not]; exact ho
          have HG := Lib.hid (E3.out (by omega) (fun _ => ho))
          clear E1 E2 E3
          go_wp2_with fail
          go_quiet (fail)
          go_wp2_with fail
          go_roundw
          case rel => exact ⟨m + 2, by omega, by go_num, Lib.hid (below_drewN' (below_alloc hbw.out _) _), Lib.hid (HG.out.trans hj.out)⟩
          case measure => simp [intOf]; omega
    · have hke : k = sh.length := by omega
      subst hke
      have HZ : Hid (newE sh cl = clE (prevD cl 0) (cl.drop 0)) := Lib.hid (by
        rw [HE.out, ← hj.out, shE_end]; rfl)
      clear HE hj hlt
      go_wp2_with fail
      go_loop [59] (fun i => ∃ k : Nat, k ≤ cl.length ∧ i = .int .i64 k ∧ Hid (clE (prevD cl k) (cl.drop k) = clE (prevD cl 0) (cl.drop 0))) (fun i => cl.length - (intOf i).toNat)
      case atStart => exact ⟨0, Nat.zero_le _, rfl, Lib.hid rfl⟩
      case round =>
        obtain ⟨k, hk2, rfl, hj⟩ := hrel
        by_cases hlt : k < cl.length
        · obtain ⟨b2, off2, rfl, hc⟩ := HCELL2.out k hlt
          have c0 := cell_keep hbw.out hc
          have E1 := Lib.hid (clE_bad (l := cl) hlt)
          have E2 := Lib.hid (clE_ord (l := cl) hlt)
          have E3 := Lib.hid (clE_go (l := cl) hlt)
          have HCP : Hid (k ≠ 0 → wr.cell? ⟨b2, off2 + (k - 1), none⟩ = some (.int .i64 (gi cl (k - 1)))) := Lib.hid fun hk0 => by
            obtain ⟨b3, off3, e3, hc3⟩ := HCELL2.out (k - 1) (by omega)
            have e3 := Option.some.inj e3
            simp only [Addr.mk.injEq] at e3
            obtain ⟨rfl, rfl, _⟩ := e3
            exact cell_keep hbw.out hc3
          clear hc
          generalize gi cl k = x at c0 E1 E2 E3
          have HER : Hid (∀ er, clE (prevD cl k) (cl.drop k) = er → newE sh cl = er) := Lib.hid fun er h => by
            rw [HZ.out, ← hj.out, h]
          by_cases hx : x < 0
          · have dx : decide (x < 0) = true := by rw [decide_eq_true_eq]; exact hx
            go_wp2_with fail
            go_ret2
            exact postN_err rfl (HER.out _ (E1.out (.inl hx))) (by decide) hbw.out
          have dx : decide (x < 0) = false := by rw [decide_eq_false_iff_not]; exact hx
          by_cases hy : 43690 < x
          · have dy : decide (43690 < x) = true := by rw [decide_eq_true_eq]; exact hy
            go_wp2_with fail
            go_ret2
            exact postN_err rfl (HER.out _ (E1.out (.inr hy))) (by decide) hbw.out
          have dy : decide (43690 < x) = false := by rw [decide_eq_false_iff_not]; exact hy
          by_cases hk0 : k = 0
          · subst hk0
            have HG := Lib.hid (E3.out (by omega) (fun h => absurd rfl h))
            clear E1 E2 E3 HCP
            rw [Nat.add_zero] at c0
            go_wp2_with fail
            go_round
            case rel => exact ⟨1, by omega, by go_num, Lib.hid HG.out⟩
            case measure => simp [intOf]; omega
          · obtain ⟨m, rfl⟩ : ∃ m, k = m + 1 := ⟨k - 1, by omega⟩
            have d1 := HCP.out (by omega)
            rw [Nat.add_sub_cancel] at d1 E2 E3
            have ddk : decide ((0 : Int) < ((m + 1 : Nat) : Int)) = true := by rw [decide_eq_true_eq]; omega
            clear HCP
            generalize gi cl m = z at d1 E2 E3
            by_cases ho : x ≤ z
            · have dw : decide (x ≤ z) = true := by rw [decide_eq_true_eq]; exact ho
              go_wp2_with fail
              go_ret2
              exact postN_err rfl (HER.out _ (E2.out (by omega) (by omega) ho)) (by decide) hbw.out
            · have dw : decide (x ≤ z) = false := by rw [decide_eq_false_iff_not]; exact ho
              have HG := Lib.hid (E3.out (by omega) (fun _ => ho))
              clear E1 E2 E3
              go_wp2_with fail
              go_round
              case rel => exact ⟨m + 2, by omega, by go_num, Lib.hid (HG.out.trans hj.out)⟩
              case measure => simp [intOf]; omega
        · have hke : k = cl.length := by omega
          subst hke
          have HZ2 : Hid (newE sh cl = 0) := Lib.hid (by rw [HZ.out, ← hj.out, clE_end])
          have HC1 := Lib.hid (cloneSp_any ⟨b, off, none⟩ sh.length cap sh wr (HS.out.keep hbw.out) (by omega))
          have HC2 : ∀ w3, Below wr.heap.size wr w3 → Hid (Calls Tryd.prog 17 #[.slice a2 cl.length cap2] w3 (RetOwn w3 cl)) := fun w3 h3 => by
            cases a2 with
            | none =>
              have hcl : cl = [] := by
                rcases Nat.eq_zero_or_pos cl.length with e | e
                · exact List.eq_nil_of_length_eq_zero e
                · obtain ⟨_, _, e2, _⟩ := HCELL2.out 0 e; cases e2
              subst hcl
              exact Lib.hid ((Tryd.slices_Clone_int_nil _ _ w3).mono fun e w4 ⟨g1, g2⟩ => ⟨_, g1, OwnI_nil _ _, by rw [g2]; exact Below.refl _ _⟩)
            | some a => exact Lib.hid (clone_int _ cl w3 (HD.out.keep (hbw.out.trans (h3.mono hbw.out.size))) (.inr ⟨_, _, _, rfl⟩) (by omega))
          clear hj hlt hk2 HZ
          go_wp2_with fail
          refine HC1.out.mono ?_
          rintro e w3 ⟨v3, rfl, ho3, hb3⟩
          have HB3 := Lib.hid hb3
          have HO3 := Lib.hid ho3.sp
          clear hb3 ho3
          obtain ⟨a3, c3, e3, _⟩ := HO3.out
          subst e3
          go_wp2_with fail
          refine (HC2 w3 HB3.out).out.mono ?_
          rintro e w4 ⟨v4, rfl, ho4, hb4⟩
          have HB4 := Lib.hid hb4
          have HO4 := Lib.hid ho4.si
          clear hb4 ho4
          obtain ⟨a4, c4, e4, _⟩ := HO4.out
          subst e4
          go_wp2_with fail
          go_ret2
          refine ⟨.pointer (some ⟨w4.heap.size, 0, none⟩), by rw [HZ2.out]; rfl, fun _ => ?_, fun h => absurd HZ2.out h, below_alloc (hbw.out.trans ((ext_trans HB3.out HB4.out).mono hbw.out.size)) _⟩
          refine ⟨w4.heap.size, _, _, rfl, ?_, ?_, (HO3.out.keep HB4.out).keep (below_alloc (Below.refl _ _) _), HO4.out.keep (below_alloc (Below.refl _ _) _)⟩
          · rw [cell_of_row (w4.alloc _) w4.heap.size 0 _ _ _ (MapKept.heap_alloc w4 _).1]; rfl
          · rw [cell_of_row (w4.alloc _) w4.heap.size 1 _ _ _ (MapKept.heap_alloc w4 _).1]; rfl
end Go.Proofs.YtbjnpiaooehmjaaDoor
