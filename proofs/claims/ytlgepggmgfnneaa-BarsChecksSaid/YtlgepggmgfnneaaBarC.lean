/- Contracts: Need, Bound and the errors of an input. -/
import Derived.Test.YtlgepggmgfnneaaBarB
namespace Go.Proofs.Ytlgepggmgfnneaa
open Go.RowKit

set_option maxHeartbeats 1000000 in
theorem Need_any (v : Value) (l : List Int) (k : Int) (w : World) (h : SI w v l) :
    Calls Try.prog 18 #[v, .int .i64 k] w fun e w' => e = .returned (.int .i64 (needV l k)) ∧ ∃ m, w' = w.drewN m := by
  have H := Lib.hid h
  obtain ⟨a, cap, rfl, h1, h2, h3⟩ := h
  clear h3
  have hm : l.length ≤ 9223372036854775807 := by unfold maxLen at h2; omega
  by_cases h0 : l.length = 0
  · have hb : ((l.length : Int) == 0) = true := by rw [beq_iff_eq]; omega
    have HN : Hid (needV l k = 0) := by simp [needV, h0, Hid]
    clear h0
    go_enter Try.func18, Try.ntmps18
    go_wp2_with fail
    go_ret
    exact ⟨ret_int HN.out.symm, 0, rfl⟩
  have hb : ((l.length : Int) == 0) = false := by rw [beq_eq_false_iff_ne]; omega
  by_cases hL : 256 < l.length
  · have hL' : decide (256 < (l.length : Int)) = true := by rw [decide_eq_true_eq]; omega
    have HN : Hid (needV l k = 0) := by show _ = _; rw [needV, if_neg h0, if_pos hL]
    clear h0
    go_enter Try.func18, Try.ntmps18
    go_wp2_with fail
    go_ret
    exact ⟨ret_int HN.out.symm, 0, rfl⟩
  have hL' : decide (256 < (l.length : Int)) = false := by rw [decide_eq_false_iff_not]; omega
  have h0' : 0 < l.length := by omega
  cases ha : allB l
  · have HN : Hid (needV l k = 0) := by show _ = _; rw [needV, if_neg h0, if_neg hL, if_pos ha]
    clear h0
    go_enter Try.func18, Try.ntmps18
    go_wp2_with fail
    refine (all_any _ l _ H.out).mono ?_
    rw [ha]
    clear ha
    rintro e w1 ⟨rfl, m, rfl⟩
    go_wp2_with fail
    go_ret
    exact ⟨ret_int HN.out.symm, m, rfl⟩
  cases hs : sawnB k
  · have HN : Hid (needV l k = 0) := by show _ = _; rw [needV, if_neg h0, if_neg hL, if_neg (by rw [ha]; simp), if_pos hs]
    clear h0
    go_enter Try.func18, Try.ntmps18
    go_wp2_with fail
    refine (all_any _ l _ H.out).mono ?_
    rw [ha]
    clear ha
    rintro e w1 ⟨rfl, m, rfl⟩
    go_wp2_with fail
    refine (sawn_any k _).mono ?_
    rw [hs]
    clear hs
    rintro e w1 ⟨rfl, m1, rfl⟩
    go_wp2_with fail
    go_ret
    exact ⟨ret_int HN.out.symm, _, rfl⟩
  · have HN : Hid (needV l k = l.sum + ((l.length : Int) - 1) * k) := by show _ = _; rw [needV, if_neg h0, if_neg hL, if_neg (by rw [ha]; simp), if_neg (by rw [hs]; simp), needs]
    have HA := Lib.hid ha
    have hbs := sum_small (by omega) ha
    have hmm := mul_small (a := (l.length : Int) - 1) (by omega) (by omega) hs
    clear h0
    go_enter Try.func18, Try.ntmps18
    go_wp2_with fail
    refine (all_any _ l _ H.out).mono ?_
    rw [ha]
    clear ha
    rintro e w1 ⟨rfl, m, rfl⟩
    go_wp2_with fail
    refine (sawn_any k _).mono ?_
    rw [hs]
    clear hs
    rintro e w1 ⟨rfl, m1, rfl⟩
    go_wp2_with fail
    refine (sum_any _ l _ (H.out.drewN _) (by omega) HA.out).mono ?_
    rintro e w1 ⟨rfl, m2, rfl⟩
    go_wp2_with fail
    go_ret
    exact ⟨ret_int HN.out.symm, _, rfl⟩

/-- the reference's right -/
def rrightB (l : List Int) (k : Int) : Bool := allB l && sawnB k

set_option maxHeartbeats 1000000 in
theorem rright_any (v : Value) (l : List Int) (k : Int) (w : World) (h : SI w v l) :
    Calls Try.prog 36 #[v, .int .i64 k] w fun e w' => e = .returned (.bool (rrightB l k)) ∧ ∃ m, w' = w.drewN m := by
  obtain ⟨a, cap, rfl, h1, h2, h3⟩ := h
  have H3 := Lib.hid h3; clear h3
  have hm : l.length ≤ 9223372036854775807 := by unfold maxLen at h2; omega
  go_enter Try.func36, Try.ntmps36
  go_wp2_with fail
  go_loop [5] (fun i => ∃ n : Nat, n ≤ l.length ∧ i = .int .i64 n ∧ Hid (∀ j, j < n → sideB (gi l j) = true)) (fun i => l.length - (intOf i).toNat)
  case atStart => exact ⟨0, Nat.zero_le _, rfl, fun j hj => by omega⟩
  case round =>
    obtain ⟨n, hn, rfl, hj⟩ := hrel
    by_cases hlt : n < l.length
    · obtain ⟨b, off, ha, hc⟩ := H3.out n hlt
      rw [ha]
      generalize hx : gi l n = x at *
      have HX := Lib.hid hx
      clear hx
      by_cases hs : sideB x = true
      · have hs' := sideB_iff.1 hs
        have HS : Hid (∀ j, j < n + 1 → sideB (gi l j) = true) := upto hj.out (by rw [HX.out]; exact hs)
        clear hs
        go_wp2_with fail
        go_round
        case rel => exact ⟨n + 1, by omega, by go_num, HS⟩
        case measure => simp [intOf]; omega
      · have HR : Hid (rrightB l k = false) := by
          have : allB l = false := by
            rw [Bool.eq_false_iff]; intro h
            exact hs (sideB_iff.2 (by rw [← HX.out]; exact allB_iff.1 h _ (gi_mem hlt)))
          show _ = _
          rw [rrightB, this, Bool.false_and]
        have hs' : x < 1 ∨ 32768 < x := by
          have := mt sideB_iff.2 hs; omega
        clear hs
        by_cases h1 : x < 1
        · go_wp2_with fail
          go_ret
          exact ⟨ret_bool HR.out.symm, 0, rfl⟩
        · have h2 : 32768 < x := by omega
          clear hs'
          go_wp2_with fail
          go_ret
          exact ⟨ret_bool HR.out.symm, 0, rfl⟩
    · have HA : Hid (allB l = true) := allB_iff.2 fun x hx => by
        obtain ⟨j, hj1, rfl⟩ := mem_gi hx
        exact sideB_iff.1 (hj.out j (by omega))
      clear hj
      go_wp2_with fail
      all_goals (go_ret; refine ⟨ret_bool ?_, 0, rfl⟩; rw [rrightB, HA.out]; simp [sawnB])
      all_goals omega

theorem rneedV_eq {l : List Int} {k : Int} : needV l k = if 256 < l.length then 0 else if rrightB l k = false then 0 else if l.length = 0 then 0 else needs l k := by
  unfold needV rrightB
  by_cases h0 : l.length = 0
  · simp [h0]
  by_cases h1 : 256 < l.length
  · simp [h0, h1]
  cases h2 : allB l <;> cases h3 : sawnB k <;> simp [h0, h1]

set_option maxHeartbeats 1000000 in
theorem rNeed_any (v : Value) (l : List Int) (k : Int) (w : World) (h : SI w v l) :
    Calls Try.prog 19 #[v, .int .i64 k] w fun e w' => e = .returned (.int .i64 (needV l k)) ∧ ∃ m, w' = w.drewN m := by
  have H := Lib.hid h
  obtain ⟨a, cap, rfl, h1, h2, h3⟩ := h
  clear h3
  have hm : l.length ≤ 9223372036854775807 := by unfold maxLen at h2; omega
  have HN := Lib.hid (rneedV_eq (l := l) (k := k))
  by_cases hL : 256 < l.length
  · have hL' : decide (256 < (l.length : Int)) = true := by rw [decide_eq_true_eq]; omega
    go_enter Try.func19, Try.ntmps19
    go_wp2_with fail
    go_ret
    exact ⟨ret_int (by rw [HN.out, if_pos hL]), 0, rfl⟩
  have hL' : decide (256 < (l.length : Int)) = false := by rw [decide_eq_false_iff_not]; omega
  go_enter Try.func19, Try.ntmps19
  go_wp2_with fail
  refine (rright_any _ l k _ H.out).mono ?_
  rintro e w1 ⟨rfl, m, rfl⟩
  cases hr : rrightB l k
  · have HR := Lib.hid hr
    clear hr
    go_wp2_with fail
    go_ret
    exact ⟨ret_int (by rw [HN.out, if_neg hL, if_pos HR.out]), m, rfl⟩
  · have HR := Lib.hid hr
    have hrr : allB l = true ∧ sawnB k = true := by simpa [rrightB] using hr
    have HRR := Lib.hid hrr
    clear hr hrr
    by_cases h0 : l.length = 0
    · have hl : l = [] := List.eq_nil_of_length_eq_zero h0
      subst hl
      clear h0
      go_wp2_with fail
      refine (rneeds_nil _ k _ (H.out.drewN _)).mono ?_
      rintro e w1 ⟨rfl, m1, rfl⟩
      go_wp2_with fail
      go_ret
      exact ⟨ret_int (by rw [HN.out]; simp), _, rfl⟩
    · go_wp2_with fail
      refine (rneeds_any _ l k _ (H.out.drewN _) (by omega) (by omega) HRR.out.1 HRR.out.2).mono ?_
      rintro e w1 ⟨rfl, m1, rfl⟩
      go_wp2_with fail
      go_ret
      exact ⟨ret_int (by rw [HN.out, if_neg hL, if_neg (by rw [HR.out]; simp), if_neg h0]), _, rfl⟩

theorem right1_any (X : Nat) (s n : Int) (w : World) (hc : w.cell? ⟨X, 0, none⟩ = some (.int .i64 s)) : Calls Try.prog 49 #[.int .i64 n, .pointer (some ⟨X, 0, none⟩)] w fun e w' => e = .returned (.bool (decide (s < n))) ∧ ∃ m, w' = w.drewN m := by
  go_enter Try.func49, Try.ntmps49
  go_wp2_with fail
  go_ret
  exact ⟨rfl, 0, rfl⟩
theorem fnP_right1 (X : Nat) (s : Int) (w : World) (hc : w.cell? ⟨X, 0, none⟩ = some (.int .i64 s)) : FnP (.func (.func 49) #[] #[.pointer (some ⟨X, 0, none⟩)]) w (fun _ => True) fun n => decide (s < n) :=
  ⟨_, _, rfl, fun _ _ => rfl, fun x n _ => (right1_any X s x (w.drewN n) hc).mono fun _ _ ⟨he, m, hm⟩ => ⟨he, n + m, by rw [hm, World.drewN_drewN]⟩⟩

theorem rightE_all {l : List Int} {s k : Int} (h1 : ¬ 256 < l.length) (h2 : allB l = false) : rightE l s k = 9 := by rw [rightE, if_neg h1, if_pos h2]
theorem rightE_side {l : List Int} {s k : Int} (h1 : ¬ 256 < l.length) (h2 : allB l = true) (h3 : sideB s = false) : rightE l s k = 9 := by rw [rightE, if_neg h1, if_neg (by rw [h2]; simp), if_pos h3]
theorem rightE_sawn {l : List Int} {s k : Int} (h1 : ¬ 256 < l.length) (h2 : allB l = true) (h3 : sideB s = true) (h4 : sawnB k = false) : rightE l s k = 9 := by rw [rightE, if_neg h1, if_neg (by rw [h2]; simp), if_neg (by rw [h3]; simp), if_pos h4]
theorem rightE_fit {l : List Int} {s k : Int} (h1 : ¬ 256 < l.length) (h2 : allB l = true) (h3 : sideB s = true) (h4 : sawnB k = true) : rightE l s k = if l.any (fun n => decide (s < n)) then 18 else 0 := by
  rw [rightE, if_neg h1, if_neg (by rw [h2]; simp), if_neg (by rw [h3]; simp), if_neg (by rw [h4]; simp)]

set_option maxHeartbeats 1000000 in
theorem right_any (v : Value) (l : List Int) (s k : Int) (w : World) (h : SI w v l) :
    Calls Try.prog 30 #[v, .int .i64 s, .int .i64 k] w fun e w' => e = .returned (.int .i64 (rightE l s k)) ∧ Below w.heap.size w w' := by
  have H := Lib.hid (h.keep ((Below.refl _ _).alloc (Nat.le_refl _) (.cells #[.int .i64 s] 3)))
  obtain ⟨a, cap, rfl, h1, h2, h3⟩ := h
  clear h3
  have hm : l.length ≤ 9223372036854775807 := by unfold maxLen at h2; omega
  have HB := Lib.hid ((Below.refl w.heap.size w).alloc (Nat.le_refl _) (.cells #[.int .i64 s] 3))
  by_cases hL : 256 < l.length
  · have hL' : decide (256 < (l.length : Int)) = true := by rw [decide_eq_true_eq]; omega
    have HN : Hid (rightE l s k = 4) := by show _ = _; rw [rightE, if_pos hL]
    go_enter Try.func30, Try.ntmps30
    go_wp2_with fail
    go_ret
    exact ⟨ret_int HN.out.symm, HB.out⟩
  have hL' : decide (256 < (l.length : Int)) = false := by rw [decide_eq_false_iff_not]; omega
  have hcell : (w.alloc (.cells #[.int .i64 s] 3)).cell? ⟨w.heap.size, 0, none⟩ = some (.int .i64 s) := by simp
  have HC := Lib.hid hcell
  clear hcell
  go_enter Try.func30, Try.ntmps30
  go_wp2_with fail
  refine (all_any _ l _ H.out).mono ?_
  rintro e w1 ⟨rfl, m, rfl⟩
  cases ha : allB l
  · have HN := Lib.hid (rightE_all (s := s) (k := k) hL ha)
    clear ha
    go_wp2_with fail
    go_ret
    exact ⟨ret_int HN.out.symm, below_drewN' HB.out _⟩
  have HA := Lib.hid ha
  clear ha
  go_wp2_with fail
  refine (side_any s _).mono ?_
  rintro e w1 ⟨rfl, m1, rfl⟩
  cases hs : sideB s
  · have HN := Lib.hid (rightE_side (k := k) hL HA.out hs)
    clear hs
    go_wp2_with fail
    go_ret
    exact ⟨ret_int HN.out.symm, below_drewN' HB.out _⟩
  have HS := Lib.hid hs
  clear hs
  go_wp2_with fail
  refine (sawn_any k _).mono ?_
  rintro e w1 ⟨rfl, m2, rfl⟩
  cases hk : sawnB k
  · have HN := Lib.hid (rightE_sawn hL HA.out HS.out hk)
    clear hk
    go_wp2_with fail
    go_ret
    exact ⟨ret_int HN.out.symm, below_drewN' HB.out _⟩
  have HN := Lib.hid (rightE_fit hL HA.out HS.out hk)
  clear hk
  go_wp2_with fail
  refine (containsFunc_int _ _ _ _ l _ (H.out.drewN _) (fnP_right1 _ s _ HC.out) (fun _ _ => trivial)).mono ?_
  rintro e w1 ⟨rfl, m3, rfl⟩
  cases hx : l.any fun n => decide (s < n)
  · rw [hx] at HN
    clear hx
    go_wp2_with fail
    go_ret
    exact ⟨ret_int (by rw [HN.out]; rfl), below_drewN' HB.out _⟩
  · rw [hx] at HN
    clear hx
    go_wp2_with fail
    go_ret
    exact ⟨ret_int (by rw [HN.out]; rfl), below_drewN' HB.out _⟩

set_option maxHeartbeats 1000000 in
theorem input_any (v : Value) (l : List Int) (s k : Int) (w : World) (h : SI w v l) :
    Calls Try.prog 32 #[v, .int .i64 s, .int .i64 k] w fun e w' => e = .returned (.int .i64 (rightE l s k)) ∧ ∃ m, w' = w.drewN m := by
  have H := Lib.hid h
  obtain ⟨a, cap, rfl, h1, h2, h3⟩ := h
  have H3 := Lib.hid h3
  clear h3
  have hm : l.length ≤ 9223372036854775807 := by unfold maxLen at h2; omega
  by_cases hL : 256 < l.length
  · have hL' : decide (256 < (l.length : Int)) = true := by rw [decide_eq_true_eq]; omega
    have HN : Hid (rightE l s k = 4) := by show _ = _; rw [rightE, if_pos hL]
    go_enter Try.func32, Try.ntmps32
    go_wp2_with fail
    go_ret
    exact ⟨ret_int HN.out.symm, 0, rfl⟩
  have hL' : decide (256 < (l.length : Int)) = false := by rw [decide_eq_false_iff_not]; omega
  go_enter Try.func32, Try.ntmps32
  go_wp2_with fail
  refine (rright_any _ l k _ H.out).mono ?_
  rintro e w1 ⟨rfl, m, rfl⟩
  cases hr : rrightB l k
  · have HN : Hid (rightE l s k = 9) := by
      show _ = _
      cases ha : allB l
      · exact rightE_all hL ha
      · cases hs : sideB s
        · exact rightE_side hL ha hs
        · exact rightE_sawn hL ha hs (by rw [rrightB, ha] at hr; simpa using hr)
    clear hr
    go_wp2_with fail
    go_ret
    exact ⟨ret_int HN.out.symm, m, rfl⟩
  have hrr : allB l = true ∧ sawnB k = true := by simpa [rrightB] using hr
  have HRR := Lib.hid hrr
  clear hr hrr
  by_cases hs : sideB s = true
  rotate_left
  · have HN := Lib.hid (rightE_side (k := k) hL HRR.out.1 (by simpa using hs))
    have hs' : s < 1 ∨ 32768 < s := by have := mt sideB_iff.2 hs; omega
    clear hs
    by_cases h1 : s < 1
    · go_wp2_with fail
      go_ret
      exact ⟨ret_int HN.out.symm, m, rfl⟩
    · have h2 : 32768 < s := by omega
      clear hs'
      go_wp2_with fail
      go_ret
      exact ⟨ret_int HN.out.symm, m, rfl⟩
  have HN := Lib.hid (rightE_fit hL HRR.out.1 hs HRR.out.2)
  have hs' := sideB_iff.1 hs
  clear hs
  go_wp2_with fail
  go_loop [7] (fun i => ∃ n : Nat, n ≤ l.length ∧ i = .int .i64 n ∧ Hid (∀ j, j < n → decide (s < gi l j) = false)) (fun i => l.length - (intOf i).toNat)
  case atStart => exact ⟨0, Nat.zero_le _, rfl, fun j hj => by omega⟩
  case round =>
    obtain ⟨n, hn, rfl, hj⟩ := hrel
    by_cases hlt : n < l.length
    · obtain ⟨b, off, ha, hc⟩ := H3.out n hlt
      rw [ha]
      by_cases hsx : s < gi l n
      · have HX : Hid ((l.any fun n => decide (s < n)) = true) := List.any_eq_true.2 ⟨_, gi_mem hlt, by simpa using hsx⟩
        go_wp2_with fail
        go_ret
        exact ⟨ret_int (by rw [HN.out, HX.out]; rfl), m, rfl⟩
      · have HJ : Hid (∀ j, j < n + 1 → decide (s < gi l j) = false) := upto hj.out (by simpa using hsx)
        go_wp2_with fail
        go_round
        case rel => exact ⟨n + 1, by omega, by go_num, HJ⟩
        case measure => simp [intOf]; omega
    · have HX : Hid ((l.any fun n => decide (s < n)) = false) := by
        show _ = _
        rw [List.any_eq_false]
        intro x hx
        obtain ⟨j, hj1, rfl⟩ := mem_gi hx
        rw [hj.out j (by omega)]; simp
      clear hj
      go_wp2_with fail
      go_ret
      exact ⟨ret_int (by rw [HN.out, HX.out]; rfl), m, rfl⟩
end Go.Proofs.Ytlgepggmgfnneaa
