/- The law TransportLater. -/
import Derived.Test.YtpbmmdoodmbneaaDoorTrnZ
import Derived.BigRegion
namespace Go.Proofs.YtpbmmdoodmbneaaDoor
open Go.RowKit

theorem ends_ok {ms : List Mov} {tr : List Trk} {d : List (List Int)} {l : List Trp} (h : chkTE ms tr d l = 0) : ∀ x ∈ l, 0 ≤ x.start ∧ x.start ≤ 1099511627776 ∧ 0 ≤ x.fin ∧ x.fin ≤ 1099512627776 := by
  obtain ⟨_, hrd, hhr, _⟩ := bound_ok h
  unfold chkTE at h
  split at h
  · exact absurd h ‹_›
  split at h
  · cases h
  split at h
  · exact absurd h ‹_›
  rename_i h3
  obtain ⟨o1, _⟩ := onesE_zero (by simpa using h3)
  intro x hx
  obtain ⟨m, t, a1, a2, a3, a4, a5, a6⟩ := o1 x hx
  have h1 := hrd m (fndM_some a1).1
  have h2 := hhr t (fndK_some a2).1 m.frm m.to
  omega
theorem foldmax_mem : ∀ (r : List Trp) (a B : Int), 0 ≤ a → a ≤ B → (∀ x ∈ r, x.fin ≤ B) → 0 ≤ r.foldl (fun n y => max n y.fin) a ∧ r.foldl (fun n y => max n y.fin) a ≤ B := by
  intro r
  induction r with
  | nil => intro a B h1 h2 _; exact ⟨h1, h2⟩
  | cons y r ih =>
    intro a B h1 h2 h3
    rw [List.foldl_cons]
    have := h3 y (by simp)
    exact ih _ B (by omega) (by omega) fun x hx => h3 x (List.mem_cons_of_mem _ hx)
theorem last_range {l : List Trp} (h : ∀ x ∈ l, 0 ≤ x.start ∧ x.start ≤ 1099511627776 ∧ 0 ≤ x.fin ∧ x.fin ≤ 1099512627776) : 0 ≤ lastV l ∧ lastV l ≤ 1099512627776 := by
  cases l with
  | nil => exact ⟨Int.le_refl _, by decide⟩
  | cons x r => exact foldmax_mem r x.fin _ (h x (by simp)).2.2.1 (h x (by simp)).2.2.2 fun y hy => (h y (List.mem_cons_of_mem _ hy)).2.2.2
/-- the first trip begins and ends at other times -/
def set2 (w : World) (g : Nat) (p q : Int) : World := (w.setCell ⟨g, 2, none⟩ (.int .i64 p)).setCell ⟨g, 3, none⟩ (.int .i64 q)
theorem set2_grown (w : World) (g : Nat) (p q : Int) : w.grownBy (set2 w g p q) (some g) := grownBy_trans (grownBy_set _ _ _ _) (grownBy_set _ _ _ _)
theorem set2_at {w : World} {g : Nat} {x : Trp} (h : XAt w g 0 x) (p q : Int) : XAt (set2 w g p q) g 0 ⟨x.item, x.truck, p, q⟩ := by
  obtain ⟨e0, e1, e2, e3⟩ := h
  have e1 : w.cell? ⟨g, 1, none⟩ = _ := e1
  have e2 : w.cell? ⟨g, 2, none⟩ = _ := e2
  have e3 : w.cell? ⟨g, 3, none⟩ = _ := e3
  unfold set2
  refine ⟨?_, ?_, ?_, ?_⟩ <;> go_simp
theorem set2_far {w : World} {g k : Nat} {x : Trp} (hk : 4 ≤ k) (h : XAt w g k x) (p q : Int) : XAt (set2 w g p q) g k x := by
  obtain ⟨e0, e1, e2, e3⟩ := h
  have n1 : k ≠ 2 := by omega
  have n2 : k ≠ 3 := by omega
  have n3 : k + 1 ≠ 2 := by omega
  have n4 : k + 1 ≠ 3 := by omega
  have n5 : k + 2 ≠ 2 := by omega
  have n6 : k + 2 ≠ 3 := by omega
  have n7 : k + 3 ≠ 2 := by omega
  have n8 : k + 3 ≠ 3 := by omega
  unfold set2
  refine ⟨?_, ?_, ?_, ?_⟩ <;> go_simp
theorem set2_s {w : World} {B g cap : Nat} {x : Trp} {r : List Trp} (h : OwnX w B (.slice (some ⟨g, 0, none⟩) (x :: r).length cap) (x :: r)) (p q : Int) : SX (set2 w g p q) (.slice (some ⟨g, 0, none⟩) (x :: r).length cap) (⟨x.item, x.truck, p, q⟩ :: r) := by
  obtain ⟨a, c, e, h1, h2, _⟩ := h.s
  simp only [Value.slice.injEq] at e
  obtain ⟨_, _, rfl⟩ := e
  refine ⟨_, _, rfl, h1, h2, fun i hi => ⟨g, 0, rfl, ?_⟩⟩
  rw [Nat.zero_add]
  have hi' : i < (x :: r).length := hi
  have hat := h.at hi'
  cases i with
  | zero => rw [Nat.zero_mul] at hat ⊢; exact set2_at hat p q
  | succ j => exact set2_far (by omega) hat p q
theorem set2_first {w : World} {B g cap : Nat} {l : List Trp} (h : OwnX w B (.slice (some ⟨g, 0, none⟩) l.length cap) l) (h0 : ¬ l.length = 0) (p q : Int) : ∃ r, l = tpi l 0 :: r ∧ SX (set2 w g p q) (.slice (some ⟨g, 0, none⟩) l.length cap) (⟨(tpi l 0).item, (tpi l 0).truck, p, q⟩ :: r) := by
  cases l with
  | nil => exact absurd rfl h0
  | cons x r => exact ⟨r, rfl, set2_s h _ _⟩
set_option maxHeartbeats 4000000 in
set_option maxRecDepth 100000 in
theorem Later_any (v dv mv lv : Value) (ms : List Mov) (tr : List Trk) (d : List (List Int)) (l : List Trp) (n : Nat) (w : World) (hm : SM w mv ms) (hk : SK w v tr) (hd : SS w dv d) (hl : SX w lv l) (hz : ∀ t ∈ tr, t.name.length ≤ maxLen) (hzm : ∀ m ∈ ms, m.item.length ≤ maxLen) (hM : MLen w) (hn : n < 65536) :
    Calls Tryd.prog 7 #[.agg #[v, dv, mv], lv, .int .u16 (n : Int)] w (Ret w (.bool true)) := by
  have HL := Lib.hid (LT.of hm hk hd hz hzm hM)
  have HX := Lib.hid hl
  obtain ⟨ma, mc, rfl, mn, mm, M3⟩ := hm
  obtain ⟨ka, kc, rfl, kn, km, K3⟩ := hk
  obtain ⟨da, dc, rfl, _⟩ := hd.open
  obtain ⟨xa, xc, rfl, xn, xm, X3⟩ := hl
  clear hd hz hzm hM M3 K3 X3
  unfold maxLen at mm km xm
  have HB0 := Lib.hid (Yb.start w (.slice ka tr.length kc) (.slice da d.length dc) (.slice ma ms.length mc) 26)
  have q0 := HB0.out.q0
  have q1 := HB0.out.q1
  have q2 := HB0.out.q2
  go_enter Tryd.func7, Tryd.ntmps7
  go_wp2_with fail
  refine (HL.out.lt 60 (by omega) _ HB0.out.hb).mono ?_
  rintro e w1 ⟨rfl, hb⟩
  have HB1 := Lib.hid (HB0.out.keep hb)
  clear hb q0 q1 q2
  cases hE : lightB tr d && decide (ms.length ≤ 60)
  · go_wp2_with fail
    refine (HL.out.aw _ HB1.out.hb).mono ?_
    rintro e w2 ⟨rfl, hb⟩
    have HB2 := Lib.hid (HB1.out.keep hb)
    clear hb
    go_wp2_with fail
    go_ret
    exact ⟨rfl, HB2.out.hb⟩
  by_cases hl60 : 60 < l.length
  · have i1 : decide ((60 : Int) < l.length) = true := by rw [decide_eq_true_eq]; omega
    go_wp2_with fail
    refine (HL.out.aw _ HB1.out.hb).mono ?_
    rintro e w2 ⟨rfl, hb⟩
    have HB2 := Lib.hid (HB1.out.keep hb)
    clear hb
    go_wp2_with fail
    go_ret
    exact ⟨rfl, HB2.out.hb⟩
  have i1 : decide ((60 : Int) < l.length) = false := by rw [decide_eq_false_iff_not]; omega
  have q0 := HB1.out.q0
  have q1 := HB1.out.q1
  have q2 := HB1.out.q2
  go_wp2_with fail
  refine (HL.out.ck l _ _ HB1.out.hb (HX.out.keep HB1.out.hb)).mono ?_
  rintro e w2 ⟨rfl, hb⟩
  have HB2 := Lib.hid (HB1.out.keep hb)
  clear hb q0 q1 q2 i1
  by_cases hC : chkTE ms tr d l = 0
  rotate_left
  · have e0 : (chkTE ms tr d l == 0) = false := by rw [beq_eq_false_iff_ne]; exact hC
    generalize chkTE ms tr d l = er at *
    go_wp2_with fail
    refine (HL.out.aw _ HB2.out.hb).mono ?_
    rintro e w3 ⟨rfl, hb⟩
    have HB3 := Lib.hid (HB2.out.keep hb)
    clear hb
    go_wp2_with fail
    go_ret
    exact ⟨rfl, HB3.out.hb⟩
  have HN : Hid (n < 65536) := hn
  have HCH := Lib.hid hC
  have HEN := Lib.hid (ends_ok hC)
  have HLR := Lib.hid (last_range HEN.out)
  rw [hC]
  clear hC hn
  have X3 : Hid (∀ i, i < l.length → ∃ b off, xa = some ⟨b, off, none⟩ ∧ XAt w b (off + i * 4) (tpi l i)) := by
    obtain ⟨a, c, e, _, _, h3⟩ := HX.out
    simp only [Value.slice.injEq] at e
    obtain ⟨rfl, _, _⟩ := e
    exact h3
  have HST : Hid (∀ i, i < l.length → -4611686018427387904 ≤ (tpi l i).start ∧ (tpi l i).start ≤ 1099511627776 ∧ -4611686018427387904 ≤ (tpi l i).fin ∧ (tpi l i).fin ≤ 4611686018427387904) := fun i hi => by have := HEN.out _ (show tpi l i ∈ l by rw [tpi_lt hi]; exact List.getElem_mem hi); omega
  go_wp2_with fail
  go_loopw [7, 8] (fun tv i wr => ∃ k : Nat, k ≤ l.length ∧ i = .int .i64 k ∧ Hid (Below w2.heap.size w2 wr) ∧ Hid (OwnX wr w2.heap.size tv (shX n (l.take k))) ∧ Hid (∀ x ∈ l.take k, x.start + n ≤ 1099511627776)) (fun _ i _ => l.length - (intOf i).toNat)
  case atStart => exact ⟨0, Nat.zero_le _, rfl, Below.refl _ _, OwnX_nil _ _, Lib.hid (by simp)⟩
  case round =>
    obtain ⟨k, hk, rfl, hW, hO, hS⟩ := hrel
    have HB3 := Lib.hid (HB2.out.keep hW.out)
    by_cases hlt : k < l.length
    · obtain ⟨b, off, rfl, hc⟩ := X3.out k hlt
      obtain ⟨c0, c1, c2, c3⟩ := hc.keep HB3.out.hb
      clear hc
      have HTK : Hid (l.take (k + 1) = l.take k ++ [tpi l k]) := by show _ = _; rw [List.take_succ_eq_append_getElem hlt, tpi_lt hlt]
      have HXS : Hid (-4611686018427387904 ≤ (tpi l k).start ∧ (tpi l k).start ≤ 1099511627776 ∧ -4611686018427387904 ≤ (tpi l k).fin ∧ (tpi l k).fin ≤ 4611686018427387904) := HST.out k hlt
      generalize tpi l k = x at *
      have i1 : (k : Int) < (l.length : Int) := by omega
      have v0 : IntKind.i64.wrap (n : Int) = n := IntWalk.i64_in _ (by have := HN.out; omega)
      have v1 : IntKind.i64.wrap (x.start + n) = x.start + n := IntWalk.i64_in _ (by have := HN.out; have := HXS.out; omega)
      have v2 : IntKind.i64.wrap (x.fin + n) = x.fin + n := IntWalk.i64_in _ (by have := HN.out; have := HXS.out; omega)
      by_cases hS2 : 1099511627776 < x.start + n
      · have i2 : decide (1099511627776 < x.start + n) = true := by rw [decide_eq_true_eq]; exact hS2
        go_wp2_with fail
        refine (HL.out.aw _ (HB3.out.alloc _).hb).mono ?_
        rintro e w4 ⟨rfl, hb⟩
        have HB4 := Lib.hid ((HB3.out.alloc _).keep hb)
        clear hb
        go_wp2_with fail
        go_ret
        exact ⟨rfl, HB4.out.hb⟩
      · have i2 : decide (1099511627776 < x.start + n) = false := by rw [decide_eq_false_iff_not]; exact hS2
        have hsz := hW.out.size
        have hlen : (shX n (l.take k)).length ≤ 60 := by unfold shX; rw [List.length_map, List.length_take]; omega
        go_wp2_with (at_builtin; refine wpList_app_X rfl (.tmp 57) (.tmp 59) rfl w2.heap.size _ (shX n (l.take k)) [shT n x] rfl ((hO.out.alloc _).alloc _) ⟨wr.heap.size + 1, 0, none⟩ 1 1 rfl (sX_one ⟨by simp [shT], by simp [shT], by simp [shT], by simp [shT]⟩) (by simp; omega) (by simp; omega) ?_)
        intro v7 w7 ho7 hg7 hat7
        have hb7 : Below w2.heap.size w2 w7 := below_own ((hW.out.alloc hsz _).alloc (by simp; omega) _) hg7 (fun b hb => (hO.out.lt b hb).1)
        have HO7 : Hid (OwnX w7 w2.heap.size v7 (shX n (l.take (k + 1)))) := by show OwnX _ _ _ _; rw [HTK.out]; unfold shX at ho7 ⊢; rw [List.map_append]; exact ho7
        have HS7 : Hid (∀ x ∈ l.take (k + 1), x.start + n ≤ 1099511627776) := by
          intro y hy
          rw [HTK.out] at hy
          rcases List.mem_append.1 hy with hy | hy
          · exact hS.out y hy
          · rw [List.mem_singleton] at hy; subst hy; omega
        clear ho7 hg7 hat7 hO hS
        go_wp2_with fail
        go_roundw
        case rel => exact ⟨k + 1, by omega, by go_num, hb7, HO7.out, HS7.out⟩
        case measure => simp [intOf]; omega
    · have hkl : k = l.length := by omega
      rw [hkl, List.take_length] at hO hS
      have HLO := Lib.hid (later_ok (n := n) (by omega) HCH.out hS.out)
      have HO := Lib.hid hO.out
      have HSX := Lib.hid hO.out.s
      have hlx : (shX n l).length = l.length := by unfold shX; rw [List.length_map]
      have q0 := HB3.out.q0
      have q1 := HB3.out.q1
      have q2 := HB3.out.q2
      obtain ⟨ta, tc, rfl, _⟩ := hO.out.s
      rw [hlx] at HSX HO ⊢
      clear hO hS hkl hlx
      go_wp2_with fail
      refine (HL.out.ck (shX n l) _ _ HB3.out.hb HSX.out).mono ?_
      rintro e w4 ⟨rfl, hb⟩
      have HB4 := Lib.hid (HB3.out.keep hb)
      have HSX4 := Lib.hid (HSX.out.keep hb)
      rw [HLO.out]
      clear hb q0 q1 q2 HSX
      go_wp2_with fail
      refine (Last_any _ (shX n l) _ HSX4.out).mono ?_
      rintro e w5 ⟨rfl, hb⟩
      have HB5 := Lib.hid (HB4.out.keep hb)
      clear hb HSX4
      go_wp2_with fail
      refine (Last_any _ l _ (HX.out.keep HB5.out.hb)).mono ?_
      rintro e w6 ⟨rfl, hb⟩
      have HB6 := Lib.hid (HB5.out.keep hb)
      clear hb
      have v0 : IntKind.i64.wrap (n : Int) = n := IntWalk.i64_in _ (by have := HN.out; omega)
      have v1 : IntKind.i64.wrap (lastV l + n) = lastV l + n := IntWalk.i64_in _ (by have := HN.out; have := HLR.out; omega)
      by_cases hl0 : l.length = 0
      · have i2 : decide ((0 : Int) < l.length) = false := by rw [decide_eq_false_iff_not]; omega
        have i3 : ((l.length : Int) == 0) = true := by rw [beq_iff_eq]; omega
        go_wp2_with fail
        all_goals
          refine (HL.out.aw _ HB6.out.hb).mono ?_
          rintro e w7 ⟨rfl, hb⟩
          have HB7 := Lib.hid (HB6.out.keep hb)
          clear hb
          go_wp2_with fail
          go_ret
          exact ⟨rfl, HB7.out.hb⟩
      · have i3 : ((l.length : Int) == 0) = false := by rw [beq_eq_false_iff_ne]; omega
        have HLS : Hid (lastV (shX n l) = lastV l + n) := last_sh n (by omega)
        have i4 : (lastV (shX n l) != lastV l + n) = false := by rw [HLS.out]; simp
        obtain ⟨xb, xo, rfl, _⟩ := X3.out 0 (by omega)
        generalize lastV (shX n l) = la at *
        generalize lastV l = lb at *
        go_wp2_with (at_builtin; refine wpList_app_X rfl (.tmp 89) (.tmp 90) rfl w6.heap.size _ [] l rfl (OwnX_empty _ _ (Nat.le_refl _)) ⟨xb, xo, none⟩ l.length xc rfl (HX.out.keep (ext_trans HB6.out.hb ((Below.refl _ _).alloc (Nat.le_refl _) _))) (by simp; omega) (by simp) ?_)
        intro v8 w8 ho8 hg8 hat8
        have hb8 : Below w6.heap.size w6 w8 := ((Below.refl _ _).alloc (Nat.le_refl _) _).grown hg8 (by simp) (by simp [Value.ownBlock])
        have HB8 := Lib.hid (HB6.out.keep hb8)
        have HBB8 := Lib.hid hb8
        clear hg8 hat8 hb8
        obtain ⟨g8, cp8, rfl⟩ : ∃ g cap, v8 = .slice (some ⟨g, 0, none⟩) l.length cap := by
          rcases ho8.shape with ⟨_, e⟩ | ⟨g, cap, e, _⟩
          · exact absurd (by rw [e]; rfl) hl0
          · exact ⟨g, cap, e⟩
        have HO8 := Lib.hid ho8
        obtain ⟨y0, y1, y2, y3⟩ := ho8.at (i := 0) (by omega)
        rw [Nat.zero_mul] at y0 y1 y2 y3
        clear ho8
        have i5 : (0 : Int) < (l.length : Int) := by omega
        have HX0 := HEN.out _ (show tpi l 0 ∈ l by rw [tpi_lt (by omega)]; exact List.getElem_mem _)
        have HXI : Hid ((tpi l 0) = (tpi l 0)) := rfl
        have HX5 : Hid (0 ≤ (tpi l 0).start ∧ (tpi l 0).start ≤ 1099511627776 ∧ 0 ≤ (tpi l 0).fin ∧ (tpi l 0).fin ≤ 1099512627776) := HX0
        have HSE : Hid (∃ r, l = tpi l 0 :: r ∧ SX (set2 w8 g8 ((tpi l 0).start - 2097152 - 2199023255552) ((tpi l 0).fin - 2097152 - 2199023255552)) (.slice (some ⟨g8, 0, none⟩) l.length cp8) (⟨(tpi l 0).item, (tpi l 0).truck, (tpi l 0).start - 2097152 - 2199023255552, (tpi l 0).fin - 2097152 - 2199023255552⟩ :: r)) := set2_first HO8.out hl0 _ _
        generalize tpi l 0 = x0 at *
        have u1 : IntKind.i64.wrap (x0.start - 2097152) = x0.start - 2097152 := IntWalk.i64_in _ (by have := HX5.out; omega)
        have u2 : IntKind.i64.wrap (x0.start - 2097152 - 2199023255552) = x0.start - 2097152 - 2199023255552 := IntWalk.i64_in _ (by have := HX5.out; omega)
        have u3 : IntKind.i64.wrap (x0.fin - 2097152) = x0.fin - 2097152 := IntWalk.i64_in _ (by have := HX5.out; omega)
        have u4 : IntKind.i64.wrap (x0.fin - 2097152 - 2199023255552) = x0.fin - 2097152 - 2199023255552 := IntWalk.i64_in _ (by have := HX5.out; omega)
        have z2 : w8.cell? ⟨g8, 2, none⟩ = some (.int .i64 x0.start) := y2
        have z3 : w8.cell? ⟨g8, 3, none⟩ = some (.int .i64 x0.fin) := y3
        have f2 : w8.frozen? ⟨g8, 2, none⟩ = false := World.ownsRow.frozenAt HO8.out 2
        have f3 : w8.frozen? ⟨g8, 3, none⟩ = false := World.ownsRow.frozenAt HO8.out 3
        clear HX0 HXI y2 y3
        go_wp2_with fail
        go_region
        obtain ⟨r, hlr, hse⟩ := HSE.out
        obtain ⟨W9, hW9⟩ : ∃ W, W = (set2 w8 g8 (x0.start - 2097152 - 2199023255552) (x0.fin - 2097152 - 2199023255552)).drew := ⟨_, rfl⟩
        have hB9 : Below w6.heap.size w6 W9 := by rw [hW9]; exact (below_own HBB8.out (set2_grown w8 g8 _ _) (fun b hb => by have := (HO8.out.lt g8 rfl).1; cases hb; exact this)).drew
        have HB9 := Lib.hid (HB6.out.keep hB9)
        have HS9 : Hid (SX W9 (.slice (some ⟨g8, 0, none⟩) l.length cp8) (⟨x0.item, x0.truck, x0.start - 2097152 - 2199023255552, x0.fin - 2097152 - 2199023255552⟩ :: r)) := by show SX _ _ _; rw [hW9]; exact hse.keep ((Below.refl _ _).drew)
        have hch : chkTE ms tr d (x0 :: r) = 0 := by have := HCH.out; rwa [hlr] at this
        have HEA := Lib.hid (early_ok (x := x0) (r := r) (ms := ms) (tr := tr) (d := d) (e := ⟨x0.item, x0.truck, x0.start - 2097152 - 2199023255552, x0.fin - 2097152 - 2199023255552⟩) hch rfl rfl (by show x0.start - 2097152 - 2199023255552 < _; omega))
        have q0 := HB9.out.q0
        have q1 := HB9.out.q1
        have q2 := HB9.out.q2
        unfold set2 at hW9
        rw [← hW9]
        clear hW9 hse hB9 z2 z3 f2 f3 hch hlr
        go_wp2_with fail
        refine (HL.out.ck _ _ _ HB9.out.hb HS9.out).mono ?_
        rintro e w10 ⟨rfl, hb⟩
        have HB10 := Lib.hid (HB9.out.keep hb)
        rw [HEA.out]
        clear hb q0 q1 q2
        go_wp2_with fail
        refine (HL.out.aw _ HB10.out.hb).mono ?_
        rintro e w11 ⟨rfl, hb⟩
        have HB11 := Lib.hid (HB10.out.keep hb)
        clear hb
        go_wp2_with fail
        go_ret
        exact ⟨rfl, HB11.out.hb⟩
end Go.Proofs.YtpbmmdoodmbneaaDoor
