/- The law FlowOptimal. -/
import Derived.Test.YtijapbfkpmphpaaLawD
import Derived.Deep.RegionHeld3
namespace Go.Proofs.Ytijapbfkpmphpaa
open Go.RowKit

theorem bestE_bad {p : List (List Int)} {s : Int} (h : checkE p ≠ 0) : bestE p s = checkE p := (best_bad h).1
theorem finishE_eq {p : List (List Int)} {l : List Int} (hw : Whole p l) : finishE p l = checkE p := by
  by_cases hc : checkE p = 0
  · rw [finishE_whole hc hw, hc]
  · exact (finishE_err hc).1

set_option maxHeartbeats 1000000 in
theorem optimal_law (v u : Value) (p : List (List Int)) (l : List Int) (w : World) (h : SS w v p) (g : SI w u l) : Calls Try.prog 8 #[v, u] w (Law w) := by
  have H := Lib.hid h
  have G := Lib.hid g
  obtain ⟨vs, ⟨a, cap, rfl, h1, h2, h3⟩, h4⟩ := h
  clear h3 h4
  obtain ⟨a', cap', rfl, g1, g2, g3⟩ := g
  have G3 := Lib.hid g3
  clear g3
  have hm9 : l.length ≤ 9223372036854775807 := by unfold maxLen at g2; omega
  go_enter Try.func8, Try.ntmps8
  go_wp2_with fail
  refine (light_any _ p 6 _ H.out).mono ?_
  rintro e w1 ⟨rfl, m1, rfl⟩
  cases hl : lightB p 6
  · go_wp2_with fail
    refine (awake_any _).mono ?_
    rintro e w2 ⟨rfl, hb⟩
    go_wp2_with fail
    go_ret
    exact law_of rfl (below_drewN' (Below.refl _ _) _) hb
  have h6 := Lib.hid (light_len hl)
  clear hl
  go_wp2_with fail
  refine (permutation_any _ l p.length _ (G.out.drewN _)).mono ?_
  rintro e w2 ⟨rfl, hb⟩
  have HB2 := Lib.hid (ext_trans (below_drewN' (Below.refl w.heap.size w) m1) hb)
  clear hb
  cases hp : permB l p.length
  · go_wp2_with fail
    refine (awake_any _).mono ?_
    rintro e w2 ⟨rfl, hb⟩
    go_wp2_with fail
    go_ret
    exact law_of rfl HB2.out hb
  have HW := Lib.hid (perm_whole hp)
  clear hp
  go_wp2_with fail
  refine (Best_any _ p 100000 _ (H.out.keep HB2.out)).mono ?_
  rintro e w3 ⟨r3, rfl, hs, hb⟩
  have HB3 := Lib.hid (ext_trans HB2.out hb)
  have HS3 := Lib.hid hs
  clear hb hs
  go_wp2_with fail
  refine (Makespan_any _ _ p l _ (H.out.keep HB3.out) (G.out.keep HB3.out)).mono ?_
  rintro e w4 ⟨rfl, hb⟩
  have HB4 := Lib.hid (ext_trans HB3.out hb)
  have HS4 := Lib.hid (HS3.out.keep hb)
  clear hb HS3
  by_cases hc : checkE p = 0
  rotate_left
  · have e1 : (bestE p 100000 != 0) = true := by rw [bestE_bad hc]; simpa using hc
    have e2 : (bestE p 100000 == finishE p l) = true := by rw [bestE_bad hc, finishE_eq HW.out, beq_iff_eq]
    clear hc
    go_wp2_with fail
    refine (awake_any _).mono ?_
    rintro e w7 ⟨rfl, hb⟩
    go_wp2_with fail
    go_ret
    exact law_of rfl HB4.out hb
  have hb := best_spec (checkE_zero hc) (by have := h6.out; omega)
  obtain ⟨st, hst, hw, hsp, hbest⟩ := hb
  have hbs := best_some hc hst
  have f1 : bestE p 100000 = 0 := hbs.1
  have f2 : finishE p l = 0 := finishE_whole hc HW.out
  have f3 : finishE p (bestL p 100000) = 0 := by rw [hbs.2.1]; exact finishE_whole hc hw
  have f4 : spanV p (bestL p 100000) = bestN p 100000 := by rw [hbs.2.1, hbs.2.2, spanV_whole hc hw, hsp]
  have f5 : ¬ spanV p l < bestN p 100000 := by
    rw [hbs.2.2, spanV_whole hc HW.out]; have := hbest l HW.out; omega
  have f6 : spanV p l = bestN p 100000 → bestL p 100000 = l ∨ LexLt (bestL p 100000) l := by
    intro he
    rw [hbs.2.2, spanV_whole hc HW.out] at he
    rw [hbs.2.1]
    rcases hbest l HW.out with h | h
    · omega
    · exact h.2
  have f7 : (bestL p 100000).length = l.length := by rw [hbs.2.1, hw.2, HW.out.2]
  obtain ⟨ab, cb, rfl⟩ := SI_form HS4.out
  have F6 := Lib.hid f6
  have F7 := Lib.hid f7
  clear hc hst hw hsp hbest hbs f6
  rw [f7] at HS4 ⊢
  clear f7
  rw [f1, f2]
  generalize hbl : bestL p 100000 = bl at *
  generalize hm : spanV p l = m at *
  generalize hn : bestN p 100000 = n at *
  clear hbl hm hn f1 f2
  go_wp2_with fail
  refine (Makespan_any _ _ p bl _ (H.out.keep HB4.out) HS4.out).mono ?_
  rintro e w5 ⟨rfl, hb⟩
  have HB5 := Lib.hid (ext_trans HB4.out hb)
  have HS5 := Lib.hid (HS4.out.keep hb)
  clear hb HS4
  rw [f3, f4]
  clear f3 f4
  have e3 : (n != n) = false := by simp
  have e4 : decide (m < n) = false := by rw [decide_eq_false_iff_not]; omega
  have e5 : ((l.length : Int) != (l.length : Int)) = false := by simp
  have hcb : l.length ≤ cb := by obtain ⟨_, _, e, hh, _⟩ := HS5.out; simp at e; obtain ⟨_, e, rfl⟩ := e; omega
  go_wp2_with fail
  go_loopw [12] (fun i wr => ∃ s : Nat, s ≤ l.length ∧ i = .int .i64 s ∧ Hid (Below w5.heap.size w5 wr) ∧ Hid (∀ j, j < s → gi l j = gi bl j)) (fun i _ => l.length - (intOf i).toNat)
  case atStart => exact ⟨0, Nat.zero_le _, rfl, Below.refl _ _, fun j hj => by omega⟩
  case round =>
    obtain ⟨s, hs, rfl, hbw, hj⟩ := hrel
    have HBW := Lib.hid (ext_trans HB5.out hbw.out)
    by_cases hlt : s < l.length
    · by_cases hmn : m = n
      · have e6 : (m == n) = true := by rw [beq_iff_eq]; exact hmn
        obtain ⟨b1, o1, ha1, k1⟩ := G3.out s hlt
        have k1 := cell_keep HBW.out k1
        obtain ⟨_, _, e, _, _, hcells⟩ := HS5.out.keep hbw.out
        simp at e
        obtain ⟨rfl, hx, rfl⟩ := e
        clear hx
        obtain ⟨b2, o2, ha2, k2⟩ := hcells s (by have := F7.out; omega)
        subst ha1 ha2
        clear hcells
        have F := F6.out hmn
        clear hmn
        by_cases hd : gi l s = gi bl s
        · have e7 : (gi l s != gi bl s) = false := by rw [hd]; simp
          have HJ := Lib.hid (upto hj.out hd)
          clear hd
          go_wp2_with fail
          go_quiet (fail)
          go_wp2_with fail
          go_roundw
          case rel => exact ⟨s + 1, by omega, by go_num, below_drewN' hbw.out _, HJ⟩
          case measure => simp [intOf]; omega
        · have e7 : (gi l s != gi bl s) = true := by simpa using hd
          have e8 : decide (gi bl s < gi l s) = true := by
            rw [decide_eq_true_eq]
            rcases F with F | ⟨i, i1, i2, i3, i4⟩
            · rw [F] at hd; exact absurd rfl hd
            · have : i = s := by
                rcases Nat.lt_trichotomy i s with h | h | h
                · have := hj.out i h; omega
                · exact h
                · exact absurd (i3 s h).symm hd
              subst this; exact i4
          clear hd F
          go_wp2_with fail
          go_quiet (fail)
          go_wp2_with fail
          go_region_held3 (fun w' => w'.cell? ⟨b1, o1 + s, none⟩ = some (.int .i64 (gi l s)) ∧ w'.cell? ⟨b2, o2 + s, none⟩ = some (.int .i64 (gi bl s)))
            (first | exact ⟨k1, k2⟩ | exact ⟨cell_keep hbx k1, cell_keep hbx k2⟩)
            (first | (go_at_call 13; refine (awake_any _).mono ?_; rintro e wy ⟨rfl, hbx⟩))
          go_wp2_with fail
          go_ret
          exact law_of rfl (below_drewN' HBW.out _) hbx
      · have e6 : (m == n) = false := by rw [beq_eq_false_iff_ne]; exact hmn
        go_wp2_with fail
        refine (awake_any _).mono ?_
        rintro e w7 ⟨rfl, hb⟩
        go_wp2_with fail
        go_ret
        exact law_of rfl HBW.out hb
    · go_wp2_with fail
      refine (awake_any _).mono ?_
      rintro e w7 ⟨rfl, hb⟩
      go_wp2_with fail
      go_ret
      exact law_of rfl HBW.out hb
end Go.Proofs.Ytijapbfkpmphpaa
