/- Contract of the reference: Between. -/
import Derived.Test.YtbjnpiaooehmjaaGreatDoorCalL
namespace Go.Proofs.YtbjnpiaooehmjaaGreatDoor
open Go.RowKit

def zeros7 : Array Value := #[.int .i64 0, .int .i64 0, .int .i64 0, .int .i64 0, .int .i64 0, .int .i64 0, .int .i64 0]
theorem zeros7_at (j : Nat) (h : j < 7) : zeros7[j]? = some (.int .i64 0) := by
  have : j = 0 ∨ j = 1 ∨ j = 2 ∨ j = 3 ∨ j = 4 ∨ j = 5 ∨ j = 6 := by omega
  rcases this with rfl | rfl | rfl | rfl | rfl | rfl | rfl <;> rfl
/-- the array of the days' hours so far -/
def Arr (w : World) (g : Nat) (sh : List Sp) (d : Nat) : Prop :=
  (∀ j, j < 7 → w.frozen? ⟨g, j, none⟩ = false) ∧ (∀ j, j < d → w.cell? ⟨g, j, none⟩ = some (.int .i64 (weekN sh j))) ∧ (∀ j, d ≤ j → j < 7 → w.cell? ⟨g, j, none⟩ = some (.int .i64 0))
theorem Arr.start (w : World) (sh : List Sp) : Arr (w.alloc (.cells zeros7 63)) w.heap.size sh 0 :=
  ⟨fun j _ => World.frozen?_alloc_new _ _ _ _, fun j h => by omega, fun j _ hj => by rw [World.cell?_alloc_new]; exact zeros7_at j hj⟩
theorem Arr.step {w : World} {g d : Nat} {sh : List Sp} (h : Arr w g sh d) (hd : d < 7) : Arr (w.setCell ⟨g, d, none⟩ (.int .i64 (weekN sh d))) g sh (d + 1) := by
  obtain ⟨h1, h2, h3⟩ := h
  refine ⟨fun j hj => by rw [World.frozen?_setCell]; exact h1 j hj, fun j hj => ?_, fun j g1 g2 => ?_⟩
  · by_cases e : j = d
    · subst e; exact World.cell?_setCell_same _ _ _ (h3 j (Nat.le_refl _) hd)
    · rw [World.cell?_setCell_other _ _ _ _ (by simp <;> omega)]; exact h2 j (by omega)
  · rw [World.cell?_setCell_other _ _ _ _ (by simp <;> omega)]; exact h3 j (by omega) g2
theorem Arr.keep {w w' : World} {g d : Nat} {sh : List Sp} (h : Arr w g sh d) (hg : g < w.heap.size) (hb : Below w.heap.size w w') : Arr w' g sh d := by
  obtain ⟨h1, h2, h3⟩ := h
  exact ⟨fun j hj => by rw [hb.frozen (p := ⟨g, j, none⟩) hg]; exact h1 j hj, fun j hj => cell_keep hb (h2 j hj), fun j g1 g2 => cell_keep hb (h3 j g1 g2)⟩
structure BS (w : World) (s0 s1 : Value) (sh : List Sp) (d : Nat) (wr : World) : Prop where
  bw : Below w.heap.size w wr
  sz : w.heap.size + 1 < wr.heap.size
  c0 : wr.cell? ⟨w.heap.size, 0, none⟩ = some s0
  c1 : wr.cell? ⟨w.heap.size, 1, none⟩ = some s1
  ar : Arr wr (w.heap.size + 1) sh d
theorem BS.keep {w : World} {s0 s1 : Value} {sh : List Sp} {d : Nat} {wr wr' : World} (h : BS w s0 s1 sh d wr) (hb : Below wr.heap.size wr wr') : BS w s0 s1 sh d wr' :=
  ⟨h.bw.trans (hb.mono h.bw.size), Nat.lt_of_lt_of_le h.sz hb.size, cell_keep hb h.c0, cell_keep hb h.c1, h.ar.keep h.sz hb⟩
theorem BS.start (w : World) (s0 s1 : Value) (sh : List Sp) : BS w s0 s1 sh 0 ((w.alloc (.cells #[s0, s1] 29)).alloc (.cells zeros7 63)) := by
  refine ⟨((Below.refl _ _).alloc (Nat.le_refl _) _).alloc (by simp) _, by simp, ?_, ?_, ?_⟩
  · refine cell_alloc' ?_ _
    rw [cell_of_row _ w.heap.size 0 _ _ _ (MapKept.heap_alloc w _).1]; rfl
  · refine cell_alloc' ?_ _
    rw [cell_of_row _ w.heap.size 1 _ _ _ (MapKept.heap_alloc w _).1]; rfl
  · have := Arr.start (w.alloc (.cells #[s0, s1] 29)) sh
    rwa [World.size_alloc] at this
theorem BS.step {w : World} {s0 s1 : Value} {sh : List Sp} {d : Nat} {wr : World} (h : BS w s0 s1 sh d wr) (hd : d < 7) : BS w s0 s1 sh (d + 1) (wr.setCell ⟨w.heap.size + 1, d, none⟩ (.int .i64 (weekN sh d))) :=
  ⟨h.bw.setCell (by show w.heap.size ≤ w.heap.size + 1; omega) _, by rw [World.size_setCell]; exact h.sz, by rw [World.cell?_setCell_other _ _ _ _ (by simp)]; exact h.c0, by rw [World.cell?_setCell_other _ _ _ _ (by simp)]; exact h.c1, h.ar.step hd⟩

theorem sum_step2 {sh : List Sp} {cl : List Int} {f u d : Nat} (hd : f / 24 ≤ d) (hu : 24 * d < u) : befN sh cl (posN f u (d + 1)) = befN sh cl (posN f u d) + hoursN sh cl d (f - 24 * d) (min (u - 24 * d) 24) := by
  by_cases h : f ≤ u
  · exact sum_step h hd hu
  · rw [hoursN_none (by omega)]
    unfold posN
    rw [show max f (min (24 * (d + 1)) u) = f by omega, show max f (min (24 * d) u) = f by omega]; omega
theorem weekN_le {sh : List Sp} {d : Nat} : weekN sh d ≤ 24 := by unfold weekN; have := hoursN_le (sh := sh) (cl := []) (d := d) (f := 0) (u := 24); omega

set_option maxHeartbeats 4000000 in
set_option maxRecDepth 100000 in
theorem rBetween_any (v : Value) (sh : List Sp) (cl : List Int) (f0 u0 : Int) (w : World) (hc : CalR w v sh cl) (hm : f0 ≤ 9223372036854775807) :
    Calls Tryz.prog 19 #[v, .int .i64 f0, .int .i64 u0] w (Ret w (.int .i64 (btw sh cl f0 u0))) := by
  have HC := Lib.hid hc
  obtain ⟨sv, cv, rfl, hsp, hsi⟩ := hc
  have HSP := Lib.hid hsp
  obtain ⟨a, cap, rfl, _⟩ := hsp
  obtain ⟨a2, cap2, rfl, _⟩ := hsi
  obtain ⟨f, hf⟩ : ∃ f : Nat, max f0 0 = f := ⟨(max f0 0).toNat, by omega⟩
  obtain ⟨u, hu⟩ : ∃ u : Int, min u0 1048577 = u := ⟨_, rfl⟩
  have hu1 : u ≤ 1048577 := by omega
  have hf1 : f ≤ 9223372036854775807 := by omega
  generalize hr : btw sh cl f0 u0 = r
  have HR : Hid (r = (befN sh cl (max f u.toNat) : Int) - befN sh cl f) := Lib.hid (by
    rw [← hr]
    unfold btw
    rw [hf, hu]
    by_cases h : u ≤ f
    · rw [if_pos h, show max f u.toNat = f by omega]; omega
    · rw [if_neg h, Int.toNat_natCast, show max f u.toNat = u.toNat by omega])
  clear hr
  have HW7 : ∀ (d : Nat) w2, d < 7 → Below w.heap.size w w2 → Hid (Calls Tryz.prog 38 #[.agg #[.slice a sh.length cap, .slice none 0 0], .int .i64 d, .int .i64 0, .int .i64 24] w2 (Ret w2 (.int .i64 (weekN sh d)))) := fun d w2 hd hb =>
    Lib.hid (rhours_any _ sh [] d 0 24 w2 ⟨_, _, rfl, HSP.out.keep hb, SI_nil _⟩ (by omega) (by omega) (by omega))
  have hbs0 := BS.start w (.slice a sh.length cap) (.slice a2 cl.length cap2) sh
  unfold zeros7 at hbs0
  have HBS0 := Lib.hid hbs0
  clear hbs0
  go_enter Tryz.func19, Tryz.ntmps19
  go_wp2_with fail
  go_loopw [8] (fun d wr => ∃ dd : Nat, dd ≤ 7 ∧ d = .int .i64 dd ∧ Hid (BS w (.slice a sh.length cap) (.slice a2 cl.length cap2) sh dd wr)) (fun d _ => 7 - (intOf d).toNat)
  case atStart => exact ⟨0, by omega, rfl, HBS0⟩
  case round =>
    obtain ⟨d, hd, rfl, hb⟩ := hrel
    have c0 := hb.out.c0
    have hsz := hb.out.sz
    by_cases hlt : d < 7
    · have HX := HW7 d _ hlt hb.out.bw
      have hwl := weekN_le (sh := sh) (d := d)
      go_wp2_with fail
      refine HX.out.mono ?_
      rintro e w2 ⟨rfl, hb2⟩
      have HB2 := Lib.hid (hb.out.keep hb2)
      have hfz := HB2.out.ar.1 d hlt
      have hz := HB2.out.ar.2.2 d (Nat.le_refl _) hlt
      have hsz2 := HB2.out.sz
      have HST := Lib.hid (HB2.out.step hlt)
      clear hb2 c0
      go_wp2_with fail
      go_roundw
      case rel => exact ⟨d + 1, by omega, by go_num, HST⟩
      case measure => simp [intOf]; omega
    · obtain rfl : d = 7 := by omega
      clear HW7
      have HBS := Lib.hid hb.out
      rw [show ((7 : Nat) : Int) = 7 from rfl]
      go_wp2_with fail
      go_loopw [9, 10] (fun n d wr2 => ∃ (dd nn : Nat), f / 24 ≤ dd ∧ (dd ≤ 43691 ∨ dd = f / 24) ∧ d = .int .i64 dd ∧ n = .int .i64 nn ∧ nn ≤ 1048600 ∧ Hid ((nn : Int) = (befN sh cl (posN f u.toNat dd) : Int) - befN sh cl f) ∧ Hid (BS w (.slice a sh.length cap) (.slice a2 cl.length cap2) sh 7 wr2)) (fun _ d _ => 43692 - (intOf d).toNat)
      case atStart =>
        exact ⟨f / 24, 0, Nat.le_refl _, .inr rfl, by go_num, rfl, by omega, Lib.hid (by unfold posN; rw [show max f (min (24 * (f / 24)) u.toNat) = f by omega]; omega), HBS⟩
      case round =>
        obtain ⟨d, n, h1, h2, rfl, rfl, hn2, hn, hb⟩ := hrel
        have c0 := hb.out.c0
        have c1 := hb.out.c1
        have hsz := hb.out.sz
        have hend : ¬ (d ≤ 43690 ∧ 24 * (d : Int) < u) → Hid (r = (n : Int)) := fun h => Lib.hid (by
          rw [HR.out, hn.out]
          unfold posN
          rw [show max f (min (24 * d) u.toNat) = max f u.toNat by omega])
        by_cases hd1 : d ≤ 43690
        · have dd1 : decide ((d : Int) ≤ 43690) = true := by rw [decide_eq_true_eq]; omega
          by_cases hd2 : 24 * (d : Int) < u
          · have dd2 : decide (24 * (d : Int) < u) = true := by rw [decide_eq_true_eq]; exact hd2
            clear hend
            obtain ⟨U, rfl⟩ : ∃ U : Nat, u = U := ⟨u.toNat, by omega⟩
            rw [Int.toNat_natCast] at hn HR
            have HST := Lib.hid (sum_step2 (sh := sh) (cl := cl) (f := f) (u := U) h1 (by omega))
            have hpos := cnt_step (wk sh cl) (show f ≤ posN f U (d + 1) by unfold posN; omega)
            have hpos2 : posN f U (d + 1) - f ≤ 1048577 := by unfold posN; omega
            have eF : max ((f : Int) - 24 * d) 0 = ((f - 24 * d : Nat) : Int) := by omega
            have eL : min ((U : Int) - 24 * d) 24 = ((min (U - 24 * d) 24 : Nat) : Int) := by omega
            have hle := hoursN_le (sh := sh) (cl := cl) (d := d) (f := f - 24 * d) (u := min (U - 24 * d) 24)
            have HHR : Hid (∀ w2, Below w.heap.size w w2 → Calls Tryz.prog 38 #[.agg #[.slice a sh.length cap, .slice a2 cl.length cap2], .int .i64 d, .int .i64 ((f - 24 * d : Nat) : Int), .int .i64 ((min (U - 24 * d) 24 : Nat) : Int)] w2 (Ret w2 (.int .i64 (hoursN sh cl d (f - 24 * d) (min (U - 24 * d) 24))))) := Lib.hid fun w2 hb2 =>
              rhours_any _ sh cl d _ _ w2 (HC.out.keep hb2) hd1 (by omega) (by omega)
            have HDY : Hid (∀ w2, Below w.heap.size w w2 → Calls Tryz.prog 34 #[.agg #[.slice a sh.length cap, .slice a2 cl.length cap2], .int .i64 d] w2 (Ret w2 (.bool (clD cl d)))) := Lib.hid fun w2 hb2 => by rw [← day_clD]; exact rday_any _ sh cl _ w2 (HC.out.keep hb2)
            have HNB : Hid ((n : Int) + hoursN sh cl d (f - 24 * d) (min (U - 24 * d) 24) = (befN sh cl (posN f U (d + 1)) : Int) - befN sh cl f) := Lib.hid (by rw [HST.out]; have := hn.out; omega)
            have hN2 : n + hoursN sh cl d (f - 24 * d) (min (U - 24 * d) 24) ≤ 1048600 := by have := HNB.out; unfold befN at this; omega
            have HDAY : Hid (f - 24 * d = 0 → min (U - 24 * d) 24 = 24 → hoursN sh cl d (f - 24 * d) (min (U - 24 * d) 24) = if clD cl d then 0 else weekN sh (d % 7)) := Lib.hid fun g1 g2 => by
              rw [g1, g2]
              cases hx : clD cl d with
              | true => unfold hoursN; rw [hx]; rfl
              | false => rw [weekN_day hx]; rfl
            clear HST hpos hpos2
            generalize hk : hoursN sh cl d (f - 24 * d) (min (U - 24 * d) 24) = k at hle HHR HNB hN2 HDAY
            clear hk
            generalize hF : f - 24 * d = F at *
            generalize hL : min (U - 24 * d) 24 = L at *
            have hL2 : L ≤ 24 := by omega
            by_cases hcase : 0 < F ∨ L < 24
            · clear HDAY HDY HR
              by_cases hF1 : 0 < F
              · have b1 : decide ((0 : Int) < (F : Int)) = true := by rw [decide_eq_true_eq]; omega
                go_wp2_with fail
                refine (HHR.out _ hb.out.bw).mono ?_
                rintro e w2 ⟨rfl, hb2⟩
                have HB2 := Lib.hid (hb.out.keep hb2)
                clear hb2
                go_wp2_with fail
                go_roundw
                case rel => exact ⟨d + 1, n + k, by omega, .inl (by omega), by go_num, by go_num, hN2, Lib.hid (by rw [Int.toNat_natCast]; have := HNB.out; omega), HB2⟩
                case measure => simp [intOf]; omega
              · have b1 : decide ((0 : Int) < (F : Int)) = false := by rw [decide_eq_false_iff_not]; omega
                have b2 : decide ((L : Int) < 24) = true := by rw [decide_eq_true_eq]; omega
                go_wp2_with fail
                refine (HHR.out _ hb.out.bw).mono ?_
                rintro e w2 ⟨rfl, hb2⟩
                have HB2 := Lib.hid (hb.out.keep hb2)
                clear hb2
                go_wp2_with fail
                go_roundw
                case rel => exact ⟨d + 1, n + k, by omega, .inl (by omega), by go_num, by go_num, hN2, Lib.hid (by rw [Int.toNat_natCast]; have := HNB.out; omega), HB2⟩
                case measure => simp [intOf]; omega
            · have hF0 : F = 0 := by omega
              have hL0 : L = 24 := by omega
              subst hF0 hL0
              have HK := Lib.hid (HDAY.out rfl rfl)
              clear HDAY HHR HR hle
              obtain ⟨q, hq⟩ : ∃ q, d % 7 = q := ⟨_, rfl⟩
              have hq7 : q < 7 := by omega
              have hq2 : (d : Int) % 7 = (q : Int) := by omega
              have hwk := hb.out.ar.2.1 q hq7
              have hwl := weekN_le (sh := sh) (d := q)
              rw [hq] at HK
              rw [show ((0 : Nat) : Int) = 0 from rfl] at eF
              rw [show ((24 : Nat) : Int) = 24 from rfl] at eL
              clear hq
              cases hx : clD cl d with
              | true =>
                rw [hx] at HDY HK
                have HK0 : k = 0 := HK.out
                subst HK0
                clear HK hx hwk
                go_wp2_with fail
                refine (HDY.out _ hb.out.bw).mono ?_
                rintro e w2 ⟨rfl, hb2⟩
                have HB2 := Lib.hid (hb.out.keep hb2)
                clear hb2
                go_wp2_with fail
                go_roundw
                case rel => exact ⟨d + 1, n, by omega, .inl (by omega), by go_num, by go_num, by omega, Lib.hid (by rw [Int.toNat_natCast]; have := HNB.out; omega), HB2⟩
                case measure => simp [intOf]; omega
              | false =>
                rw [hx] at HDY HK
                have HK0 : k = weekN sh q := HK.out
                subst HK0
                clear HK hx
                generalize weekN sh q = k at *
                go_wp2_with fail
                refine (HDY.out _ hb.out.bw).mono ?_
                rintro e w2 ⟨rfl, hb2⟩
                have HB2 := Lib.hid (hb.out.keep hb2)
                have hwk2 := cell_keep hb2 hwk
                have hsz2 := HB2.out.sz
                clear hb2 hwk
                go_wp2_with fail
                go_roundw
                case rel => exact ⟨d + 1, n + k, by omega, .inl (by omega), by go_num, by go_num, hN2, Lib.hid (by rw [Int.toNat_natCast]; have := HNB.out; omega), HB2⟩
                case measure => simp [intOf]; omega
          · have dd2 : decide (24 * (d : Int) < u) = false := by rw [decide_eq_false_iff_not]; exact hd2
            have HV := hend (by omega)
            clear hend HR
            go_wp2_with fail
            go_ret
            exact ⟨ret_int HV.out.symm, hb.out.bw⟩
        · have dd1 : decide ((d : Int) ≤ 43690) = false := by rw [decide_eq_false_iff_not]; omega
          have HV := hend (by omega)
          clear hend HR
          go_wp2_with fail
          go_ret
          exact ⟨ret_int HV.out.symm, hb.out.bw⟩
end Go.Proofs.YtbjnpiaooehmjaaGreatDoor
