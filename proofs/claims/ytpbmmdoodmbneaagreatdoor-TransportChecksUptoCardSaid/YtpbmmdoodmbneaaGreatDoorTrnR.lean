/- Contracts: Same and Light of transport's reference, light of the statements. -/
import Derived.Test.YtpbmmdoodmbneaaGreatDoorTrnK
import Derived.Laws.StructEq
namespace Go.Proofs.YtpbmmdoodmbneaaGreatDoor
open Go.RowKit

theorem trp_eq (y z : Trp) : decide (y = z) = (((bs y.item).toList == (bs z.item).toList) && ((bs y.truck).toList == (bs z.truck).toList) && decide (y.start = z.start) && decide (y.fin = z.fin)) := by
  simp only [bs_toList]
  cases y; cases z
  rw [Bool.eq_iff_iff]
  simp [and_assoc]
set_option maxHeartbeats 2000000 in
theorem trip_eql (w : World) (y z : Trp) : (Op.equalIn 10000 43 (.agg #[.string (bs y.item), .string (bs y.truck), .int .i64 y.start, .int .i64 y.fin]) (.agg #[.string (bs z.item), .string (bs z.truck), .int .i64 z.start, .int .i64 z.fin])).run Tryz.prog w = .ok (decide (y = z)) w := by
  have hf : Tryz.prog.underlying 43 = some (.struct (Tryz.prog.fieldsOf 43)) := by simp [Program.fieldsOf, Tryz.underlying43]
  rw [run_equalIn_agg w 9999 43 _ _ hf (by kernel_rfl), trp_eq]
  generalize bs y.item = a1
  generalize bs y.truck = a2
  generalize bs z.item = b1
  generalize bs z.truck = b2
  cases h1 : (a1.toList == b1.toList) <;> cases h2 : (a2.toList == b2.toList) <;> by_cases h4 : y.start = z.start <;> by_cases h5 : y.fin = z.fin
  all_goals
    simp [Program.fieldsOf, Tryz.underlying43, Op.eqFields, Go.part, h1, h2, h4, h5, go_sem]
set_option maxHeartbeats 1000000 in
set_option maxRecDepth 100000 in
theorem rSame_trips (v u : Value) (l m : List Trp) (w : World) (h : SX w v l) (g : SX w u m) :
    Calls Tryz.prog 12 #[v, u] w fun e w' => e = .returned (.bool (decide (l = m))) ∧ ∃ n, w' = w.drewN n := by
  obtain ⟨a, cap, rfl, n1, n2, n3⟩ := h
  obtain ⟨a', cap', rfl, m1, m2, m3⟩ := g
  have N3 := Lib.hid n3
  have M3 := Lib.hid m3
  unfold maxLen at n2 m2
  clear n3 m3
  by_cases hlen : l.length = m.length
  rotate_left
  · have b1 : ((l.length : Int) != (m.length : Int)) = true := by rw [bne_iff_ne]; omega
    have b2 : (l.length != m.length) = true := by rw [bne_iff_ne]; exact hlen
    have HR : Hid (decide (l = m) = false) := by show _ = _; rw [decide_eq_false_iff_not]; rintro rfl; exact hlen rfl
    clear hlen
    go_enter Tryz.func12, Tryz.ntmps12
    go_wp2_with fail
    go_ret
    exact ⟨ret_bool HR.out.symm, 0, rfl⟩
  have b1 : ((l.length : Int) != (m.length : Int)) = false := by rw [bne_eq_false_iff_eq]; omega
  have b2 : (l.length != m.length) = false := by rw [bne_eq_false_iff_eq]; exact hlen
  have HLEN := Lib.hid hlen
  go_enter Tryz.func12, Tryz.ntmps12
  go_wp2_with fail
  clear b1 b2 hlen
  go_loopw [5] (fun i wr => ∃ k : Nat, k ≤ l.length ∧ i = .int .i64 k ∧ (∃ n, wr = w.drewN n) ∧ Hid (∀ j, j < k → tpi l j = tpi m j)) (fun i _ => l.length - (intOf i).toNat)
  case atStart => exact ⟨0, Nat.zero_le _, rfl, ⟨0, rfl⟩, fun j hj => by omega⟩
  case round =>
    obtain ⟨k, hk, rfl, ⟨nq, rfl⟩, hj⟩ := hrel
    by_cases hlt : k < l.length
    · have hlm : k < m.length := by rw [← HLEN.out]; exact hlt
      obtain ⟨b, off, rfl, hc⟩ := N3.out k hlt
      obtain ⟨b', off', rfl, hd⟩ := M3.out k hlm
      obtain ⟨c0, c1, c2, c3⟩ := hc
      obtain ⟨d0, d1, d2, d3⟩ := hd
      have HYES : Hid (tpi l k = tpi m k → ∀ j, j < k + 1 → tpi l j = tpi m j) := fun e => upto (q := fun j => tpi l j = tpi m j) hj.out e
      have HNO : Hid (tpi l k ≠ tpi m k → decide (l = m) = false) := fun e => by rw [decide_eq_false_iff_not]; rintro rfl; exact e rfl
      generalize tpi l k = y at *
      generalize tpi m k = z at *
      have hm : Tryz.prog.eqGuardType Tryz.prog.depth 43 = false := by kernel_rfl
      have heq := fun w => trip_eql w y z
      have hneq : ∀ w, (binOp .neq 43 (.agg #[.string (bs y.item), .string (bs y.truck), .int .i64 y.start, .int .i64 y.fin]) (.agg #[.string (bs z.item), .string (bs z.truck), .int .i64 z.start, .int .i64 z.fin])).run Tryz.prog w = .ok (.bool (!decide (y = z))) w := fun w => by
        rw [run_neq_struct, heq]; rfl
      have i1 : (k : Int) < (l.length : Int) := by omega
      have i2 : (k : Int) < (m.length : Int) := by omega
      clear hj
      clear heq
      by_cases hyz : y = z
      · have hd : decide (y = z) = true := by rw [decide_eq_true_eq]; exact hyz
        have HR := Lib.hid (HYES.out hyz)
        rw [hd] at hneq
        clear hyz hd
        go_wp2_with fail
        go_quiet (fail)
        go_wp2_with fail
        go_roundw
        case rel => exact ⟨k + 1, by omega, by go_num, (by first | exact ⟨_, rfl⟩ | exact dn2 _ _ _), HR.out⟩
        case measure => simp [intOf]; omega
      · have hd : decide (y = z) = false := by rw [decide_eq_false_iff_not]; exact hyz
        have HR := Lib.hid (HNO.out hyz)
        rw [hd] at hneq
        clear hyz hd
        go_wp2_with fail
        go_quiet (fail)
        go_wp2_with fail
        go_ret
        exact ⟨ret_bool HR.out.symm, (by first | exact ⟨_, rfl⟩ | exact dn2 _ _ _)⟩
    · have HF : Hid (decide (l = m) = true) := by
        show _ = _
        rw [decide_eq_true_eq]
        apply List.ext_getElem HLEN.out
        intro i h1 h2
        have := hj.out i (by omega)
        rwa [tpi_lt h1, tpi_lt h2] at this
      clear hj
      go_wp2_with fail
      go_ret
      exact ⟨ret_bool HF.out.symm, (by first | exact ⟨_, rfl⟩ | exact dn2 _ _ _)⟩

/-- a yard that is gone through -/
def lightB (tr : List Trk) (d : List (List Int)) : Bool := (d.all fun r => decide (r.length ≤ 40)) && decide (tr.length ≤ 12) && decide (d.length ≤ 40)
set_option maxHeartbeats 1000000 in
theorem rLight_any (v dv : Value) (tr : List Trk) (d : List (List Int)) (w : World) (h : SK w v tr) (hd : SS w dv d) :
    Calls Tryz.prog 10 #[v, dv] w fun e w' => e = .returned (.bool (lightB tr d)) ∧ w' = w := by
  obtain ⟨ka, kc, rfl, kn, km, _⟩ := h
  obtain ⟨da, dc, rfl, dn, dm, d3⟩ := hd.open
  unfold maxLen at km
  have D3 := Lib.hid d3
  clear hd d3
  go_enter Tryz.func10, Tryz.ntmps10
  go_wp2_with fail
  go_loop [5] (fun i => ∃ k : Nat, k ≤ d.length ∧ i = .int .i64 k ∧ Hid (∀ j, j < k → (ri d j).length ≤ 40)) (fun i => d.length - (intOf i).toNat)
  case atStart => exact ⟨0, Nat.zero_le _, rfl, fun j hj => by omega⟩
  case round =>
    obtain ⟨k, hk, rfl, hj⟩ := hrel
    by_cases hlt : k < d.length
    · obtain ⟨b, off, ra, rc, rfl, c0, n1, n2, _⟩ := D3.out k hlt
      have HJ : Hid ((ri d k).length ≤ 40 → ∀ j, j < k + 1 → (ri d j).length ≤ 40) := fun h => upto (q := fun j => (ri d j).length ≤ 40) hj.out h
      have HN : Hid (¬ (ri d k).length ≤ 40 → lightB tr d = false) := fun h => by
        have : (d.all fun r => decide (r.length ≤ 40)) = false := by
          rw [List.all_eq_false]
          exact ⟨ri d k, ri_mem hlt, by simpa using h⟩
        unfold lightB; rw [this]; rfl
      generalize (ri d k).length = n at *
      by_cases hn : n ≤ 40
      · have HJ2 := Lib.hid (HJ.out hn)
        go_wp2_with fail
        go_round
        case rel => exact ⟨k + 1, by omega, by go_num, HJ2.out⟩
        case measure => simp [intOf]; omega
      · have HR := Lib.hid (HN.out hn)
        go_wp2_with fail
        go_ret
        exact ⟨ret_bool HR.out.symm, rfl⟩
    · have HA : Hid (lightB tr d = (decide (tr.length ≤ 12) && decide (d.length ≤ 40))) := by
        have : (d.all fun r => decide (r.length ≤ 40)) = true := by
          rw [List.all_eq_true]
          intro r hr
          obtain ⟨i, hi, rfl⟩ := mem_ri hr
          simpa using hj.out i (by omega)
        show _ = _
        unfold lightB; rw [this]; rfl
      clear hj
      by_cases h1 : tr.length ≤ 12
      · have HR : Hid (lightB tr d = decide (d.length ≤ 40)) := by show _ = _; rw [HA.out, decide_eq_true h1, Bool.true_and]
        by_cases h2 : d.length ≤ 40
        · have HR2 : Hid (lightB tr d = true) := by show _ = _; rw [HR.out, decide_eq_true h2]
          go_wp2_with fail
          go_ret
          exact ⟨ret_bool (by rw [HR2.out] <;> first | rfl | (simp; omega)), rfl⟩
        · have HR2 : Hid (lightB tr d = false) := by show _ = _; rw [HR.out, decide_eq_false h2]
          go_wp2_with fail
          go_ret
          exact ⟨ret_bool (by rw [HR2.out] <;> first | rfl | (simp; omega)), rfl⟩
      · have HR : Hid (lightB tr d = false) := by show _ = _; rw [HA.out, decide_eq_false h1, Bool.false_and]
        go_wp2_with fail
        go_ret
        exact ⟨ret_bool (by rw [HR.out] <;> first | rfl | (simp; omega)), rfl⟩
theorem light_any (mv v dv : Value) (ms : List Mov) (tr : List Trk) (d : List (List Int)) (n : Nat) (w : World) (hm : SM w mv ms) (h : SK w v tr) (hd : SS w dv d) (hn : n ≤ 1000) :
    Calls Tryz.prog 4 #[.agg #[v, dv, mv], .int .i64 n] w (Ret w (.bool (lightB tr d && decide (ms.length ≤ n)))) := by
  have HK := Lib.hid h
  have HD := Lib.hid hd
  obtain ⟨ma, mc, rfl, mn, mm, _⟩ := hm
  obtain ⟨ka, kc, rfl, _⟩ := h
  obtain ⟨da, dc, rfl, _⟩ := hd.open
  unfold maxLen at mm
  clear hd
  have HB : Hid (Below w.heap.size w (w.alloc (.cells #[.slice ka tr.length kc, .slice da d.length dc, .slice ma ms.length mc] 26))) := (Below.refl _ _).alloc (Nat.le_refl _) _
  have HL := Lib.hid (rLight_any _ _ tr d _ (HK.out.keep HB.out) (HD.out.keep HB.out))
  cases hb : lightB tr d
  · rw [hb] at HL
    go_enter Tryz.func4, Tryz.ntmps4
    go_wp2_with fail
    refine HL.out.mono ?_
    rintro e w1 ⟨rfl, rfl⟩
    go_wp2_with fail
    go_ret
    exact ⟨rfl, HB.out⟩
  · rw [hb] at HL
    go_enter Tryz.func4, Tryz.ntmps4
    go_wp2_with fail
    refine HL.out.mono ?_
    rintro e w1 ⟨rfl, rfl⟩
    go_wp2_with fail
    go_ret
    exact ⟨ret_bool (by simp), HB.out⟩
end Go.Proofs.YtpbmmdoodmbneaaGreatDoor
