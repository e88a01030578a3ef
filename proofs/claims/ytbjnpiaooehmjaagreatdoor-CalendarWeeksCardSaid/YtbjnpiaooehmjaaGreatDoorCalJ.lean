/- Contracts of the reference: Works, hours. -/
import Derived.Test.YtbjnpiaooehmjaaGreatDoorCalI
namespace Go.Proofs.YtbjnpiaooehmjaaGreatDoor
open Go.RowKit

theorem day_clD (cl : List Int) (d : Nat) : (cl.any fun x => x == (d : Int)) = clD cl d := by
  unfold clD
  congr 1
theorem hour_fW (sh : List Sp) (t : Nat) : sh.any (inS ((t : Int) % 168)) = fW sh t := by
  unfold fW hW
  rw [show (t : Int) % 168 = ((t % 168 : Nat) : Int) by omega]
  rfl
theorem rWorks_nat {sh : List Sp} {cl : List Int} {t : Int} (h : timeB t = true) : workB sh cl t = (sh.any (inS (t % 168)) && !(cl.any fun x => x == t / 24)) := by
  have ht2 : 0 ≤ t ∧ t ≤ 1048576 := by unfold timeB at h; simpa using h
  obtain ⟨s, rfl⟩ : ∃ s : Nat, t = s := ⟨t.toNat, by omega⟩
  rw [workB_nat (by omega), hour_fW, show (s : Int) / 24 = ((s / 24 : Nat) : Int) by omega, day_clD]
  rfl

set_option maxHeartbeats 1000000 in
theorem rWorks_any (v : Value) (sh : List Sp) (cl : List Int) (t : Int) (w : World) (hc : CalR w v sh cl) :
    Calls Tryz.prog 15 #[v, .int .i64 t] w (Ret w (.bool (workB sh cl t))) := by
  have HC := Lib.hid hc
  obtain ⟨sv, cv, rfl, hsp, hsi⟩ := hc
  obtain ⟨a, cap, rfl, _⟩ := hsp
  obtain ⟨a2, cap2, rfl, _⟩ := hsi
  have HB : Hid (Below w.heap.size w (w.alloc (.cells #[.slice a sh.length cap, .slice a2 cl.length cap2] 29))) := Lib.hid ((Below.refl _ _).alloc (Nat.le_refl _) _)
  have HT : ∀ w2, Hid (Calls Tryz.prog 24 #[.int .i64 t] w2 fun e w' => e = .returned (.bool (timeB t)) ∧ w' = w2) := fun w2 => Lib.hid (Time_any t w2)
  cases ht : timeB t with
  | false =>
    have hw : workB sh cl t = false := by unfold timeB at ht; unfold workB; rw [ht, Bool.false_and]
    rw [hw]
    rw [ht] at HT
    go_enter Tryz.func15, Tryz.ntmps15
    go_wp2_with fail
    refine (HT _).out.mono ?_
    rintro e w1 ⟨rfl, rfl⟩
    go_wp2_with fail
    go_ret
    exact ⟨rfl, HB.out⟩
  | true =>
    have ht2 : 0 ≤ t ∧ t ≤ 1048576 := by unfold timeB at ht; simpa using ht
    have HW := Lib.hid (rWorks_nat (sh := sh) (cl := cl) ht)
    rw [ht] at HT
    clear ht
    have HH : ∀ w2, Below w.heap.size w w2 → Hid (Calls Tryz.prog 33 #[.agg #[.slice a sh.length cap, .slice a2 cl.length cap2], .int .i64 (t % 168)] w2 (Ret w2 (.bool (sh.any (inS (t % 168)))))) := fun w2 hb => Lib.hid (rhour_any _ sh cl _ w2 (HC.out.keep hb))
    have HD : ∀ w2, Below w.heap.size w w2 → Hid (Calls Tryz.prog 34 #[.agg #[.slice a sh.length cap, .slice a2 cl.length cap2], .int .i64 (t / 24)] w2 (Ret w2 (.bool (cl.any fun x => x == t / 24)))) := fun w2 hb => Lib.hid (rday_any _ sh cl _ w2 (HC.out.keep hb))
    generalize hx : sh.any (inS (t % 168)) = x at HH HW
    generalize hy : (cl.any fun x => x == t / 24) = y at HD HW
    clear hx hy
    cases x with
    | false =>
      go_enter Tryz.func15, Tryz.ntmps15
      go_wp2_with fail
      refine (HT _).out.mono ?_
      rintro e w1 ⟨rfl, rfl⟩
      go_wp2_with fail
      refine (HH _ HB.out).out.mono ?_
      rintro e w1 ⟨rfl, hb⟩
      have HB1 := Lib.hid (HB.out.trans (hb.mono HB.out.size))
      clear hb
      go_wp2_with fail
      go_ret
      exact ⟨ret_bool (by rw [HW.out]; rfl), HB1.out⟩
    | true =>
      have c0 : (w.alloc (.cells #[.slice a sh.length cap, .slice a2 cl.length cap2] 29)).cell? ⟨w.heap.size, 0, none⟩ = some (.slice a sh.length cap) := by
        rw [cell_of_row _ w.heap.size 0 _ _ _ (MapKept.heap_alloc w _).1]; rfl
      have c1 : (w.alloc (.cells #[.slice a sh.length cap, .slice a2 cl.length cap2] 29)).cell? ⟨w.heap.size, 1, none⟩ = some (.slice a2 cl.length cap2) := by
        rw [cell_of_row _ w.heap.size 1 _ _ _ (MapKept.heap_alloc w _).1]; rfl
      go_enter Tryz.func15, Tryz.ntmps15
      go_wp2_with fail
      refine (HT _).out.mono ?_
      rintro e w1 ⟨rfl, rfl⟩
      go_wp2_with fail
      refine (HH _ HB.out).out.mono ?_
      rintro e w1 ⟨rfl, hb⟩
      have HB1 := Lib.hid (HB.out.trans (hb.mono HB.out.size))
      have d0 := cell_keep hb c0
      have d1 := cell_keep hb c1
      clear hb c0 c1
      go_wp2_with fail
      refine (HD _ HB1.out).out.mono ?_
      rintro e w2 ⟨rfl, hb⟩
      have HB2 := Lib.hid (HB1.out.trans (hb.mono HB1.out.size))
      clear hb
      go_wp2_with fail
      go_ret
      exact ⟨ret_bool (by rw [HW.out, Bool.true_and]), HB2.out⟩

set_option maxHeartbeats 1000000 in
theorem rhours_any (v : Value) (sh : List Sp) (cl : List Int) (d f u : Nat) (w : World) (hc : CalR w v sh cl) (hd : d ≤ 43690) (hf : f ≤ 2000000) (hu : u ≤ 24) :
    Calls Tryz.prog 38 #[v, .int .i64 d, .int .i64 f, .int .i64 u] w (Ret w (.int .i64 (hoursN sh cl d f u))) := by
  have HC := Lib.hid hc
  obtain ⟨sv, cv, rfl, hsp, hsi⟩ := hc
  obtain ⟨a, cap, rfl, _⟩ := hsp
  obtain ⟨a2, cap2, rfl, _⟩ := hsi
  have HB : Hid (Below w.heap.size w (w.alloc (.cells #[.slice a sh.length cap, .slice a2 cl.length cap2] 29))) := Lib.hid ((Below.refl _ _).alloc (Nat.le_refl _) _)
  have HD : ∀ w2, Below w.heap.size w w2 → Hid (Calls Tryz.prog 34 #[.agg #[.slice a sh.length cap, .slice a2 cl.length cap2], .int .i64 d] w2 (Ret w2 (.bool (clD cl d)))) := fun w2 hb => Lib.hid (by rw [← day_clD]; exact rday_any _ sh cl _ w2 (HC.out.keep hb))
  unfold hoursN
  cases hx : clD cl d with
  | true =>
    rw [if_pos rfl]
    rw [hx] at HD
    go_enter Tryz.func38, Tryz.ntmps38
    go_wp2_with fail
    refine (HD _ HB.out).out.mono ?_
    rintro e w1 ⟨rfl, hb⟩
    have HB1 := Lib.hid (HB.out.trans (hb.mono HB.out.size))
    clear hb
    go_wp2_with fail
    go_ret
    exact ⟨rfl, HB1.out⟩
  | false =>
    rw [if_neg (by simp)]
    rw [hx] at HD
    have c0 : (w.alloc (.cells #[.slice a sh.length cap, .slice a2 cl.length cap2] 29)).cell? ⟨w.heap.size, 0, none⟩ = some (.slice a sh.length cap) := by
      rw [cell_of_row _ w.heap.size 0 _ _ _ (MapKept.heap_alloc w _).1]; rfl
    have c1 : (w.alloc (.cells #[.slice a sh.length cap, .slice a2 cl.length cap2] 29)).cell? ⟨w.heap.size, 1, none⟩ = some (.slice a2 cl.length cap2) := by
      rw [cell_of_row _ w.heap.size 1 _ _ _ (MapKept.heap_alloc w _).1]; rfl
    have HH : ∀ (t : Nat) w2, Below w.heap.size w w2 → Hid (Calls Tryz.prog 33 #[.agg #[.slice a sh.length cap, .slice a2 cl.length cap2], .int .i64 ((24 * (d : Int) + t) % 168)] w2 (Ret w2 (.bool (fW sh (24 * d + t))))) := fun t w2 hb => by
      have := rhour_any _ sh cl ((24 * (d : Int) + t) % 168) w2 (HC.out.keep hb)
      rw [show (24 * (d : Int) + t) = ((24 * d + t : Nat) : Int) by omega, hour_fW] at this
      rw [show (24 * (d : Int) + t) = ((24 * d + t : Nat) : Int) by omega]
      exact Lib.hid this
    generalize hr : cnt (fun i => fW sh (24 * d + f + i)) (u - f) = r
    have HR := Lib.hid hr
    clear hr hx
    go_enter Tryz.func38, Tryz.ntmps38
    go_wp2_with fail
    refine (HD _ HB.out).out.mono ?_
    rintro e w1 ⟨rfl, hb⟩
    have HB1 := Lib.hid (HB.out.trans (hb.mono HB.out.size))
    have d0 := cell_keep hb c0
    have d1 := cell_keep hb c1
    clear hb c0 c1 HD
    go_wp2_with fail
    go_loopw [9, 10] (fun n i wr => ∃ t : Nat, f ≤ t ∧ (t ≤ u ∨ t = f) ∧ i = .int .i64 t ∧ n = .int .i64 (cnt (fun i => fW sh (24 * d + f + i)) (t - f) : Nat) ∧ Hid (Below w1.heap.size w1 wr)) (fun _ i _ => u - (intOf i).toNat)
    case atStart => exact ⟨f, Nat.le_refl _, .inr rfl, rfl, by rw [Nat.sub_self]; rfl, Lib.hid (Below.refl _ _)⟩
    case round =>
      obtain ⟨t, h1, h2, rfl, rfl, hbw⟩ := hrel
      have e0 := cell_keep hbw.out d0
      have e1 := cell_keep hbw.out d1
      have hle := cnt_le (fun i => fW sh (24 * d + f + i)) (t - f)
      have HBW := Lib.hid (HB1.out.trans (hbw.out.mono HB1.out.size))
      by_cases hlt : t < u
      · have HX := HH t _ HBW.out
        have HN : Hid (cnt (fun i => fW sh (24 * d + f + i)) (t + 1 - f) = cnt (fun i => fW sh (24 * d + f + i)) (t - f) + if fW sh (24 * d + t) then 1 else 0) := Lib.hid (by
          rw [show t + 1 - f = (t - f) + 1 by omega, cnt, show 24 * d + f + (t - f) = 24 * d + t by omega])
        generalize cnt (fun i => fW sh (24 * d + f + i)) (t - f) = n at HN hle
        have hbl2 : w.heap.size < _ := World.block_lt_of_cell? _ _ e0
        cases hx : fW sh (24 * d + t) with
        | true =>
          rw [hx] at HX
          have HN2 : Hid (cnt (fun i => fW sh (24 * d + f + i)) (t + 1 - f) = n + 1) := Lib.hid (by rw [HN.out, hx]; rfl)
          clear HN hx HH
          go_wp2_with fail
          refine HX.out.mono ?_
          rintro e w2 ⟨rfl, hb2⟩
          have HB2 := Lib.hid (ext_trans hbw.out hb2)
          clear hb2
          go_wp2_with fail
          go_roundw
          case rel => exact ⟨t + 1, by omega, .inl (by omega), by go_num, by rw [HN2.out]; go_num, HB2⟩
          case measure => simp [intOf]; omega
        | false =>
          rw [hx] at HX
          have HN2 : Hid (cnt (fun i => fW sh (24 * d + f + i)) (t + 1 - f) = n) := Lib.hid (by rw [HN.out, hx]; rfl)
          clear HN hx HH
          go_wp2_with fail
          refine HX.out.mono ?_
          rintro e w2 ⟨rfl, hb2⟩
          have HB2 := Lib.hid (ext_trans hbw.out hb2)
          clear hb2
          go_wp2_with fail
          go_roundw
          case rel => exact ⟨t + 1, by omega, .inl (by omega), by go_num, by rw [HN2.out], HB2⟩
          case measure => simp [intOf]; omega
      · have e : t - f = u - f := by omega
        have HR2 := Lib.hid HR.out
        rw [← e] at HR2
        clear HR e
        go_wp2_with fail
        go_ret
        exact ⟨ret_int (by rw [HR2.out]), HBW.out⟩
end Go.Proofs.YtbjnpiaooehmjaaGreatDoor
