/- The law TransportValid. -/
import Derived.Test.YtpbmmdoodmbneaaDoorTrnX
namespace Go.Proofs.YtpbmmdoodmbneaaDoor
open Go.RowKit

set_option maxHeartbeats 4000000 in
set_option maxRecDepth 100000 in
theorem Valid_any (v dv mv : Value) (ms : List Mov) (tr : List Trk) (d : List (List Int)) (w : World) (hm : SM w mv ms) (hk : SK w v tr) (hd : SS w dv d) (hz : ∀ t ∈ tr, t.name.length ≤ maxLen) (hzm : ∀ m ∈ ms, m.item.length ≤ maxLen) (hM : MLen w) :
    Calls Tryd.prog 5 #[.agg #[v, dv, mv]] w (Ret w (.bool true)) := by
  have HL := Lib.hid (LT.of hm hk hd hz hzm hM)
  obtain ⟨ma, mc, rfl, mn, mm, _⟩ := hm
  obtain ⟨ka, kc, rfl, _⟩ := hk
  obtain ⟨da, dc, rfl, _⟩ := hd.open
  clear hd hz hzm hM mn mm
  have HB0 := Lib.hid (Yb.start w (.slice ka tr.length kc) (.slice da d.length dc) (.slice ma ms.length mc) 26)
  have q0 := HB0.out.q0
  have q1 := HB0.out.q1
  have q2 := HB0.out.q2
  go_enter Tryd.func5, Tryd.ntmps5
  go_wp2_with fail
  refine (HL.out.lt 140 (by omega) _ HB0.out.hb).mono ?_
  rintro e w1 ⟨rfl, hb⟩
  have HB1 := Lib.hid (HB0.out.keep hb)
  clear hb q0 q1 q2
  cases hE : lightB tr d && decide (ms.length ≤ 140)
  · go_wp2_with fail
    refine (HL.out.aw _ HB1.out.hb).mono ?_
    rintro e w2 ⟨rfl, hb⟩
    have HB2 := Lib.hid (HB1.out.keep hb)
    clear hb
    go_wp2_with fail
    go_ret
    exact ⟨rfl, HB2.out.hb⟩
  have q0 := HB1.out.q0
  have q1 := HB1.out.q1
  have q2 := HB1.out.q2
  go_wp2_with fail
  refine (HL.out.pl _ HB1.out.hb).mono ?_
  rintro e w2 ⟨lv, rfl, hx, hb⟩
  have HB2 := Lib.hid (HB1.out.keep hb)
  have HX := Lib.hid hx
  obtain ⟨xa, xc, rfl, xn, xm, _⟩ := hx
  clear hb q0 q1 q2
  by_cases hP : planE ms tr d = 0
  rotate_left
  · have HV := Lib.hid (planV_err hP)
    have e0 : (planE ms tr d == 0) = false := by rw [beq_eq_false_iff_ne]; exact hP
    have hn0 : (planV ms tr d).length = 0 := by rw [HV.out]; rfl
    rw [hn0]
    generalize planE ms tr d = er at *
    go_wp2_with fail
    refine (HL.out.aw _ HB2.out.hb).mono ?_
    rintro e w3 ⟨rfl, hb⟩
    have HB3 := Lib.hid (HB2.out.keep hb)
    clear hb
    go_wp2_with fail
    go_ret
    exact ⟨rfl, HB3.out.hb⟩
  have HP := Lib.hid (plan_valid hP)
  rw [hP]
  clear hP
  generalize planV ms tr d = l at *
  go_wp2_with fail
  refine (Last_any _ l _ HX.out).mono ?_
  rintro e w3 ⟨rfl, hb⟩
  have HB3 := Lib.hid (HB2.out.keep hb)
  have HX3 := Lib.hid (HX.out.keep hb)
  have X3 : Hid (∀ i, i < l.length → ∃ b off, xa = some ⟨b, off, none⟩ ∧ XAt w3 b (off + i * 4) (tpi l i) ∧ (tpi l i).fin ≤ lastV l) := by
    obtain ⟨a, c, e, _, _, h3⟩ := HX3.out
    simp only [Value.slice.injEq] at e
    obtain ⟨rfl, _, _⟩ := e
    intro i hi
    obtain ⟨b, off, e, hc⟩ := h3 i hi
    exact ⟨b, off, e, hc, last_ge (by rw [tpi_lt hi]; exact List.getElem_mem hi)⟩
  clear hb HX
  generalize lastV l = lv at *
  unfold maxLen at xm
  go_wp2_with fail
  go_loopw [6] (fun i wr => ∃ k : Nat, k ≤ l.length ∧ i = .int .i64 k ∧ (∃ n, wr = w3.drewN n)) (fun i _ => l.length - (intOf i).toNat)
  case atStart => exact ⟨0, Nat.zero_le _, rfl, ⟨0, rfl⟩⟩
  case round =>
    obtain ⟨k, hk, rfl, ⟨nq, rfl⟩⟩ := hrel
    by_cases hlt : k < l.length
    · obtain ⟨b, off, rfl, hc, hle⟩ := X3.out k hlt
      obtain ⟨c0, c1, c2, c3⟩ := hc
      generalize tpi l k = y at *
      have i1 : (k : Int) < (l.length : Int) := by omega
      have i2 : decide (lv < y.fin) = false := by rw [decide_eq_false_iff_not]; omega
      go_wp2_with fail
      go_roundw
      case rel => exact ⟨k + 1, by omega, by go_num, (by first | exact ⟨_, rfl⟩ | exact dn2 _ _ _)⟩
      case measure => simp [intOf]; omega
    · have q0 := HB3.out.q0
      have q1 := HB3.out.q1
      have q2 := HB3.out.q2
      go_wp2_with fail
      have hq : Below w3.heap.size w3 (w3.drewN nq) := below_quiet ⟨_, rfl⟩
      have HB4 := Lib.hid (HB3.out.keep hq)
      refine (HL.out.ck l _ _ HB4.out.hb (HX3.out.keep hq)).mono ?_
      rintro e w5 ⟨rfl, hb⟩
      have HB5 := Lib.hid (HB4.out.keep hb)
      clear hb hq q0 q1 q2
      rw [HP.out]
      go_wp2_with fail
      refine (HL.out.aw _ HB5.out.hb).mono ?_
      rintro e w6 ⟨rfl, hb⟩
      have HB6 := Lib.hid (HB5.out.keep hb)
      clear hb
      go_wp2_with fail
      go_ret
      exact ⟨rfl, HB6.out.hb⟩
end Go.Proofs.YtpbmmdoodmbneaaDoor
