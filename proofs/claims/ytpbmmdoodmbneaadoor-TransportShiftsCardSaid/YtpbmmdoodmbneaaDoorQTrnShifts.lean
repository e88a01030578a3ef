/- The law TransportShifts. -/
import Derived.Test.YtpbmmdoodmbneaaDoorTrnZ
import Derived.BigRegion
namespace Go.Proofs.YtpbmmdoodmbneaaDoor
open Go.RowKit

theorem ends_ok2 {ms : List Mov} {tr : List Trk} {d : List (List Int)} {l : List Trp} (h : chkTE ms tr d l = 0) : ∀ x ∈ l, 0 ≤ x.start ∧ x.start ≤ 1099511627776 ∧ 0 ≤ x.fin ∧ x.fin ≤ 1099512627776 := by
  obtain ⟨_, hrd, hhr, _⟩ := bound_ok h
  unfold chkTE at h
  split at h
  · exact absurd h ‹_›
  split at h
  · cases h
  split at h
  · exact absurd h ‹_›
  rename_i h3
  obtain ⟨o1, _⟩ := onesE_zero (by simpa using h3)
  intro x hx
  obtain ⟨m, t, a1, a2, a3, a4, a5, a6⟩ := o1 x hx
  have h1 := hrd m (fndM_some a1).1
  have h2 := hhr t (fndK_some a2).1 m.frm m.to
  omega
theorem shM_items {n : Int} {ms : List Mov} (h : ∀ m ∈ ms, m.item.length ≤ maxLen) : ∀ m ∈ shM n ms, m.item.length ≤ maxLen := by
  intro m hm
  obtain ⟨x, hx, rfl⟩ := List.mem_map.1 hm
  exact h x hx
set_option maxHeartbeats 4000000 in
set_option maxRecDepth 100000 in
theorem Shifts_any (v dv mv lv : Value) (ms : List Mov) (tr : List Trk) (d : List (List Int)) (l : List Trp) (n : Nat) (w : World) (hm : SM w mv ms) (hk : SK w v tr) (hd : SS w dv d) (hl : SX w lv l) (hz : ∀ t ∈ tr, t.name.length ≤ maxLen) (hzm : ∀ m ∈ ms, m.item.length ≤ maxLen) (hM : MLen w) (hn : n < 65536) :
    Calls Tryd.prog 6 #[.agg #[v, dv, mv], lv, .int .u16 (n : Int)] w (Ret w (.bool true)) := by
  have HL := Lib.hid (LT.of hm hk hd hz hzm hM)
  have HX := Lib.hid hl
  have HMM := Lib.hid hm
  have HCK : Hid (∀ (ms' : List Mov) (l' : List Trp) (mv' lv' : Value) (W : World), Below w.heap.size w W → SM W mv' ms' → SX W lv' l' → (∀ m ∈ ms', m.item.length ≤ maxLen) → Calls Tryd.prog 19 #[mv', v, dv, lv'] W (Ret W (.int .i64 (chkTE ms' tr d l')))) :=
    fun ms' l' mv' lv' W hW h1 h2 h3 => Check_any mv' v dv lv' ms' tr d l' W h1 (hk.keep hW) (hd.keep hW) h2 hz h3 (hM.keep hW)
  have HZM := Lib.hid hzm
  obtain ⟨ma, mc, rfl, mn, mm, M3⟩ := hm
  obtain ⟨ka, kc, rfl, kn, km, K3⟩ := hk
  obtain ⟨da, dc, rfl, _⟩ := hd.open
  obtain ⟨xa, xc, rfl, xn, xm, X3⟩ := hl
  clear hd hz hzm hM M3 K3 X3
  unfold maxLen at mm km xm
  have HB0 := Lib.hid (Yb.start w (.slice ka tr.length kc) (.slice da d.length dc) (.slice ma ms.length mc) 26)
  have q0 := HB0.out.q0
  have q1 := HB0.out.q1
  have q2 := HB0.out.q2
  go_enter Tryd.func6, Tryd.ntmps6
  go_wp2_with fail
  refine (HL.out.lt 60 (by omega) _ HB0.out.hb).mono ?_
  rintro e w1 ⟨rfl, hb⟩
  have HB1 := Lib.hid (HB0.out.keep hb)
  clear hb q0 q1 q2
  cases hE : lightB tr d && decide (ms.length ≤ 60)
  · go_wp2_with fail
    refine (HL.out.aw _ HB1.out.hb).mono ?_
    rintro e w2 ⟨rfl, hb⟩
    have HB2 := Lib.hid (HB1.out.keep hb)
    clear hb
    go_wp2_with fail
    go_ret
    exact ⟨rfl, HB2.out.hb⟩
  have hm60 : ms.length ≤ 60 := by
    rw [Bool.and_eq_true, decide_eq_true_eq] at hE
    exact hE.2
  by_cases hl60 : 60 < l.length
  · have i1 : decide ((60 : Int) < l.length) = true := by rw [decide_eq_true_eq]; omega
    go_wp2_with fail
    refine (HL.out.aw _ HB1.out.hb).mono ?_
    rintro e w2 ⟨rfl, hb⟩
    have HB2 := Lib.hid (HB1.out.keep hb)
    clear hb
    go_wp2_with fail
    go_ret
    exact ⟨rfl, HB2.out.hb⟩
  have i1 : decide ((60 : Int) < l.length) = false := by rw [decide_eq_false_iff_not]; omega
  have q0 := HB1.out.q0
  have q1 := HB1.out.q1
  have q2 := HB1.out.q2
  go_wp2_with fail
  refine (HL.out.ck l _ _ HB1.out.hb (HX.out.keep HB1.out.hb)).mono ?_
  rintro e w2 ⟨rfl, hb⟩
  have HB2 := Lib.hid (HB1.out.keep hb)
  clear hb q0 q1 q2 i1
  by_cases hC : chkTE ms tr d l = 0
  rotate_left
  · have e0 : (chkTE ms tr d l == 0) = false := by rw [beq_eq_false_iff_ne]; exact hC
    generalize chkTE ms tr d l = er at *
    go_wp2_with fail
    refine (HL.out.aw _ HB2.out.hb).mono ?_
    rintro e w3 ⟨rfl, hb⟩
    have HB3 := Lib.hid (HB2.out.keep hb)
    clear hb
    go_wp2_with fail
    go_ret
    exact ⟨rfl, HB3.out.hb⟩
  have HN : Hid (n < 65536) := hn
  have HCH := Lib.hid hC
  have HEN := Lib.hid (ends_ok2 hC)
  have HRD := Lib.hid (bound_ok hC).2.1
  rw [hC]
  clear hC hn
  have X3 : Hid (∀ i, i < l.length → ∃ b off, xa = some ⟨b, off, none⟩ ∧ XAt w b (off + i * 4) (tpi l i)) := by
    obtain ⟨a, c, e, _, _, h3⟩ := HX.out
    simp only [Value.slice.injEq] at e
    obtain ⟨rfl, _, _⟩ := e
    exact h3
  have M3 : Hid (∀ i, i < ms.length → ∃ b off, ma = some ⟨b, off, none⟩ ∧ MAt w b (off + i * 5) (mvi ms i)) := by
    obtain ⟨a, c, e, _, _, h3⟩ := HMM.out
    simp only [Value.slice.injEq] at e
    obtain ⟨rfl, _, _⟩ := e
    exact h3
  have HST : Hid (∀ i, i < l.length → -4611686018427387904 ≤ (tpi l i).start ∧ (tpi l i).start ≤ 1099511627776 ∧ -4611686018427387904 ≤ (tpi l i).fin ∧ (tpi l i).fin ≤ 4611686018427387904) := fun i hi => by have := HEN.out _ (show tpi l i ∈ l by rw [tpi_lt hi]; exact List.getElem_mem hi); omega
  have HRM : Hid (∀ i, i < ms.length → -4611686018427387904 ≤ (mvi ms i).ready ∧ (mvi ms i).ready ≤ 4611686018427387904) := fun i hi => by have := HRD.out _ (mvi_mem hi); omega
  go_wp2_with fail
  go_loopw [7, 9] (fun tv i wr => ∃ k : Nat, k ≤ ms.length ∧ i = .int .i64 k ∧ Hid (Below w2.heap.size w2 wr) ∧ Hid (OwnM wr w2.heap.size tv (shM n (ms.take k))) ∧ Hid (∀ x ∈ ms.take k, x.ready + n ≤ 1048576)) (fun _ i _ => ms.length - (intOf i).toNat)
  case atStart => exact ⟨0, Nat.zero_le _, rfl, Below.refl _ _, OwnM_nil _ _, Lib.hid (by simp)⟩
  case round =>
    obtain ⟨k, hk, rfl, hW, hO, hS⟩ := hrel
    have HB3 := Lib.hid (HB2.out.keep hW.out)
    have q2 := HB3.out.q2
    by_cases hlt : k < ms.length
    · obtain ⟨b, off, rfl, hc⟩ := M3.out k hlt
      obtain ⟨c0, c1, c2, c3, c4⟩ := hc.keep HB3.out.hb
      clear hc
      have HTK : Hid (ms.take (k + 1) = ms.take k ++ [mvi ms k]) := take_mvi hlt
      have HXS : Hid (-4611686018427387904 ≤ (mvi ms k).ready ∧ (mvi ms k).ready ≤ 4611686018427387904) := HRM.out k hlt
      generalize mvi ms k = x at *
      have i1 : (k : Int) < (ms.length : Int) := by omega
      have v0 : IntKind.i64.wrap (n : Int) = n := IntWalk.i64_in _ (by have := HN.out; omega)
      have v1 : IntKind.i64.wrap (x.ready + n) = x.ready + n := IntWalk.i64_in _ (by have := HN.out; have := HXS.out; omega)
      by_cases hS2 : 1048576 < x.ready + n
      · have i2 : decide (1048576 < x.ready + n) = true := by rw [decide_eq_true_eq]; exact hS2
        go_wp2_with fail
        refine (HL.out.aw _ (HB3.out.alloc _).hb).mono ?_
        rintro e w4 ⟨rfl, hb⟩
        have HB4 := Lib.hid ((HB3.out.alloc _).keep hb)
        clear hb
        go_wp2_with fail
        go_ret
        exact ⟨rfl, HB4.out.hb⟩
      · have i2 : decide (1048576 < x.ready + n) = false := by rw [decide_eq_false_iff_not]; exact hS2
        have hsz := hW.out.size
        have hlen : (shM n (ms.take k)).length ≤ 60 := by unfold shM; rw [List.length_map, List.length_take]; omega
        go_wp2_with (at_builtin; refine wpList_app_M rfl (.tmp 55) (.tmp 57) rfl w2.heap.size _ (shM n (ms.take k)) [shV n x] rfl ((hO.out.alloc _).alloc _) ⟨wr.heap.size + 1, 0, none⟩ 1 1 rfl (sM_one ⟨by simp [shV], by simp [shV], by simp [shV], by simp [shV], by simp [shV]⟩) (by simp; omega) (by simp; omega) ?_)
        intro v7 w7 ho7 hg7 hat7
        have hb7 : Below w2.heap.size w2 w7 := below_own ((hW.out.alloc hsz _).alloc (by simp; omega) _) hg7 (fun b hb => (hO.out.lt b hb).1)
        have HO7 : Hid (OwnM w7 w2.heap.size v7 (shM n (ms.take (k + 1)))) := by show OwnM _ _ _ _; rw [HTK.out]; unfold shM at ho7 ⊢; rw [List.map_append]; exact ho7
        have HS7 : Hid (∀ x ∈ ms.take (k + 1), x.ready + n ≤ 1048576) := by
          intro y hy
          rw [HTK.out] at hy
          rcases List.mem_append.1 hy with hy | hy
          · exact hS.out y hy
          · rw [List.mem_singleton] at hy; subst hy; omega
        clear ho7 hg7 hat7 hO hS q2
        go_wp2_with fail
        go_roundw
        case rel => exact ⟨k + 1, by omega, by go_num, hb7, HO7.out, HS7.out⟩
        case measure => simp [intOf]; omega
    · have hkl : k = ms.length := by omega
      rw [hkl, List.take_length] at hO hS
      have HSR := Lib.hid hS.out
      have HSM := Lib.hid hO.out.s
      have hlx : (shM n ms).length = ms.length := by unfold shM; rw [List.length_map]
      obtain ⟨na, nc, rfl, _⟩ := hO.out.s
      rw [hlx] at HSM ⊢
      clear hO hS hkl hlx hW M3 HRM
      obtain ⟨w3, rfl⟩ : ∃ x : World, x = wr := ⟨_, rfl⟩
      have i0 : ¬ (k : Int) < (ms.length : Int) := by omega
      go_wp2_with fail
      clear q2 i0 hlt hk
      go_loopw [8, 11] (fun tv i wr => ∃ k : Nat, k ≤ l.length ∧ i = .int .i64 k ∧ Hid (Below w3.heap.size w3 wr) ∧ Hid (OwnX wr w3.heap.size tv (shX n (l.take k))) ∧ Hid (∀ x ∈ l.take k, x.start + n ≤ 1099511627776)) (fun _ i _ => l.length - (intOf i).toNat)
      case atStart => exact ⟨0, Nat.zero_le _, rfl, Below.refl _ _, OwnX_nil _ _, Lib.hid (by simp)⟩
      case round =>
        obtain ⟨k, hk, rfl, hW, hO, hS⟩ := hrel
        have HB4 := Lib.hid (HB3.out.keep hW.out)
        by_cases hlt : k < l.length
        · obtain ⟨b, off, rfl, hc⟩ := X3.out k hlt
          obtain ⟨c0, c1, c2, c3⟩ := hc.keep HB4.out.hb
          clear hc
          have HTK : Hid (l.take (k + 1) = l.take k ++ [tpi l k]) := by show _ = _; rw [List.take_succ_eq_append_getElem hlt, tpi_lt hlt]
          have HXS : Hid (-4611686018427387904 ≤ (tpi l k).start ∧ (tpi l k).start ≤ 1099511627776 ∧ -4611686018427387904 ≤ (tpi l k).fin ∧ (tpi l k).fin ≤ 4611686018427387904) := HST.out k hlt
          generalize tpi l k = x at *
          have i1 : (k : Int) < (l.length : Int) := by omega
          have v0 : IntKind.i64.wrap (n : Int) = n := IntWalk.i64_in _ (by have := HN.out; omega)
          have v1 : IntKind.i64.wrap (x.start + n) = x.start + n := IntWalk.i64_in _ (by have := HN.out; have := HXS.out; omega)
          have v2 : IntKind.i64.wrap (x.fin + n) = x.fin + n := IntWalk.i64_in _ (by have := HN.out; have := HXS.out; omega)
          by_cases hS2 : 1099511627776 < x.start + n
          · have i2 : decide (1099511627776 < x.start + n) = true := by rw [decide_eq_true_eq]; exact hS2
            go_wp2_with fail
            refine (HL.out.aw _ (HB4.out.alloc _).hb).mono ?_
            rintro e w5 ⟨rfl, hb⟩
            have HB5 := Lib.hid ((HB4.out.alloc _).keep hb)
            clear hb
            go_wp2_with fail
            go_ret
            exact ⟨rfl, HB5.out.hb⟩
          · have i2 : decide (1099511627776 < x.start + n) = false := by rw [decide_eq_false_iff_not]; exact hS2
            have hsz := hW.out.size
            have hlen : (shX n (l.take k)).length ≤ 60 := by unfold shX; rw [List.length_map, List.length_take]; omega
            go_wp2_with (at_builtin; refine wpList_app_X rfl (.tmp 85) (.tmp 87) rfl w3.heap.size _ (shX n (l.take k)) [shT n x] rfl ((hO.out.alloc _).alloc _) ⟨wr.heap.size + 1, 0, none⟩ 1 1 rfl (sX_one ⟨by simp [shT], by simp [shT], by simp [shT], by simp [shT]⟩) (by simp; omega) (by simp; omega) ?_)
            intro v7 w7 ho7 hg7 hat7
            have hb7 : Below w3.heap.size w3 w7 := below_own ((hW.out.alloc hsz _).alloc (by simp; omega) _) hg7 (fun b hb => (hO.out.lt b hb).1)
            have HO7 : Hid (OwnX w7 w3.heap.size v7 (shX n (l.take (k + 1)))) := by show OwnX _ _ _ _; rw [HTK.out]; unfold shX at ho7 ⊢; rw [List.map_append]; exact ho7
            have HS7 : Hid (∀ x ∈ l.take (k + 1), x.start + n ≤ 1099511627776) := by
              intro y hy
              rw [HTK.out] at hy
              rcases List.mem_append.1 hy with hy | hy
              · exact hS.out y hy
              · rw [List.mem_singleton] at hy; subst hy; omega
            clear ho7 hg7 hat7 hO hS
            go_wp2_with fail
            go_roundw
            case rel => exact ⟨k + 1, by omega, by go_num, hb7, HO7.out, HS7.out⟩
            case measure => simp [intOf]; omega
        · have hkl : k = l.length := by omega
          rw [hkl, List.take_length] at hO hS
          have HLO := Lib.hid (shift_ok (k := n) (n := n) (by omega) (Int.le_refl _) HCH.out HSR.out hS.out)
          have HSX := Lib.hid hO.out.s
          have HSM4 := Lib.hid (HSM.out.keep hW.out)
          have hlx : (shX n l).length = l.length := by unfold shX; rw [List.length_map]
          have q0 := HB4.out.q0
          have q1 := HB4.out.q1
          have q2 := HB4.out.q2
          obtain ⟨ta, tc, rfl, _⟩ := hO.out.s
          rw [hlx] at HSX ⊢
          clear hO hS hkl hlx
          go_wp2_with fail
          refine (HCK.out (shM n ms) (shX n l) _ _ _ HB4.out.hb HSM4.out HSX.out (shM_items HZM.out)).mono ?_
          rintro e w5 ⟨rfl, hb⟩
          have HB5 := Lib.hid (HB4.out.keep hb)
          rw [HLO.out]
          clear hb q0 q1 q2 HSX
          go_wp2_with fail
          refine (HL.out.aw _ HB5.out.hb).mono ?_
          rintro e w6 ⟨rfl, hb⟩
          have HB6 := Lib.hid (HB5.out.keep hb)
          clear hb
          go_wp2_with fail
          go_ret
          exact ⟨rfl, HB6.out.hb⟩
end Go.Proofs.YtpbmmdoodmbneaaDoor
