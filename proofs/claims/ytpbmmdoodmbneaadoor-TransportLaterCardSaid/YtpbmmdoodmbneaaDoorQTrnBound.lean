/- The law TransportBound. -/
import Derived.Test.YtpbmmdoodmbneaaDoorTrnX
namespace Go.Proofs.YtpbmmdoodmbneaaDoor
open Go.RowKit

/-- the first k transporters: one can carry the move and ends it no later than lv -/
def okB (tr : List Trk) (d : List (List Int)) (m : Mov) (lv : Int) (k : Nat) : Bool := (tr.take k).any fun t => decide (m.mass ≤ t.load) && decide (1 ≤ hoursV t d m.frm m.to) && decide (m.ready + hoursV t d m.frm m.to ≤ lv)
theorem okB_zero (tr : List Trk) (d : List (List Int)) (m : Mov) (lv : Int) : okB tr d m lv 0 = false := by simp [okB]
theorem okB_succ {tr : List Trk} {d : List (List Int)} {m : Mov} {lv : Int} {k : Nat} (h : k < tr.length) : okB tr d m lv (k + 1) = (okB tr d m lv k || (decide (m.mass ≤ (tki tr k).load) && decide (1 ≤ hoursV (tki tr k) d m.frm m.to) && decide (m.ready + hoursV (tki tr k) d m.frm m.to ≤ lv))) := by
  unfold okB
  rw [List.take_succ_eq_append_getElem h, List.any_append, show tki tr k = tr[k] by simp [tki, h]]
  simp
theorem fndM_some {ms : List Mov} {x : List UInt8} {m : Mov} (h : fndM ms x = some m) : m ∈ ms ∧ m.item = x := by
  unfold fndM at h
  exact ⟨List.mem_of_find?_eq_some h, by have := List.find?_some h; exact eq_of_beq this⟩
theorem fndK_some {tr : List Trk} {x : List UInt8} {t : Trk} (h : fndK tr x = some t) : t ∈ tr ∧ t.name = x := by
  unfold fndK at h
  exact ⟨List.mem_of_find?_eq_some h, by have := List.find?_some h; exact eq_of_beq this⟩
theorem oneE_zero {ms : List Mov} {tr : List Trk} {d : List (List Int)} {bs : List Trp} {x : Trp} (h : oneE ms tr d bs x = 0) :
    ∃ m t, fndM ms x.item = some m ∧ fndK tr x.truck = some t ∧ (∀ b ∈ bs, b.item ≠ x.item) ∧ m.mass ≤ t.load ∧ m.ready ≤ x.start ∧ x.start ≤ 1099511627776 ∧ x.fin = x.start + hoursV t d m.frm m.to := by
  unfold oneE at h
  cases hm : fndM ms x.item with
  | none => rw [hm] at h; cases h
  | some m =>
    rw [hm] at h
    dsimp only at h
    split at h
    · cases h
    rename_i h1
    cases ht : fndK tr x.truck with
    | none => rw [ht] at h; cases h
    | some t =>
      rw [ht] at h
      dsimp only at h
      split at h
      · cases h
      split at h
      · cases h
      split at h
      · cases h
      rename_i h2 h3 h4
      refine ⟨m, t, rfl, rfl, fun b hb e => h1 (List.any_eq_true.2 ⟨b, hb, by rw [e]; simp⟩), by omega, by omega, by omega, by simpa using h4⟩
theorem onesE_zero {ms : List Mov} {tr : List Trk} {d : List (List Int)} : ∀ {l bs : List Trp}, onesE ms tr d bs l = 0 → (∀ x ∈ l, ∃ m t, fndM ms x.item = some m ∧ fndK tr x.truck = some t ∧ m.mass ≤ t.load ∧ m.ready ≤ x.start ∧ x.start ≤ 1099511627776 ∧ x.fin = x.start + hoursV t d m.frm m.to) ∧ (l.map Trp.item).Nodup ∧ ∀ b ∈ bs, ∀ x ∈ l, b.item ≠ x.item := by
  intro l
  induction l with
  | nil => intro bs _; exact ⟨by simp, by simp, by simp⟩
  | cons x r ih =>
    intro bs h
    unfold onesE at h
    split at h
    · exact absurd h ‹_›
    rename_i h1
    obtain ⟨m, t, a1, a2, a3, a4⟩ := oneE_zero (by simpa using h1)
    obtain ⟨b1, b2, b3⟩ := ih h
    refine ⟨?_, ?_, ?_⟩
    · intro y hy
      rcases List.mem_cons.1 hy with rfl | hy
      · exact ⟨m, t, a1, a2, a4⟩
      · exact b1 y hy
    · rw [List.map_cons, List.nodup_cons]
      refine ⟨fun hm => ?_, b2⟩
      obtain ⟨y, hy, e⟩ := List.mem_map.1 hm
      exact b3 x (by simp) y hy e.symm
    · intro b hb y hy
      rcases List.mem_cons.1 hy with rfl | hy
      · exact a3 b hb
      · exact b3 b (by simp [hb]) y hy
/-- a list without doubles, as long as another in which all of it lies, is all of that -/
theorem full_of_nodup : ∀ {l k : List (List UInt8)}, l.Nodup → (∀ x ∈ l, x ∈ k) → k.length ≤ l.length → ∀ x ∈ k, x ∈ l := by
  intro l
  induction l with
  | nil => intro k _ _ hk x hx; simp at hk; subst hk; exact hx
  | cons y r ih =>
    intro k hn hs hk x hx
    rw [List.nodup_cons] at hn
    by_cases e : x = y
    · simp [e]
    · refine List.mem_cons_of_mem _ (ih (k := k.erase y) hn.2 ?_ ?_ x ?_)
      · intro z hz
        exact (List.mem_erase_of_ne (fun h => hn.1 (by rw [← h]; exact hz))).2 (hs z (List.mem_cons_of_mem _ hz))
      · have := List.length_erase_of_mem (hs y (by simp))
        rw [List.length_cons] at hk
        omega
      · exact (List.mem_erase_of_ne e).2 hx
theorem hours_pos {tr : List Trk} {d : List (List Int)} (hY : YardOK tr d) {t : Trk} (ht : t ∈ tr) {f u : Int} (hf : 0 ≤ f ∧ f < d.length) (hu : 0 ≤ u ∧ u < d.length) : 1 ≤ hoursV t d f u := by
  have h1 := hY.hr t ht
  have h2 := hY.dist f.toNat u.toNat
  have hl : (ri d f.toNat).length = d.length := by
    apply hY.sq
    have : f.toNat < d.length := by omega
    unfold ri
    rw [List.getD_eq_getElem?_getD, List.getElem?_eq_getElem this]
    exact List.getElem_mem this
  unfold hoursV
  rw [if_neg (by rw [hl]; omega), if_neg (by unfold wideB; simp; omega)]
  omega
theorem bound_ok {ms : List Mov} {tr : List Trk} {d : List (List Int)} {l : List Trp} (h : chkTE ms tr d l = 0) : l.length = ms.length ∧ (∀ m ∈ ms, m.ready ≤ 1048576 ∧ 0 ≤ m.ready) ∧ (∀ t ∈ tr, ∀ f u, 0 ≤ hoursV t d f u ∧ hoursV t d f u ≤ 1000000) ∧ ∀ m ∈ ms, okB tr d m (lastV l) tr.length = true := by
  unfold chkTE at h
  split at h
  · exact absurd h ‹_›
  rename_i h1
  split at h
  · cases h
  rename_i h2
  split at h
  · exact absurd h ‹_›
  rename_i h3
  obtain ⟨hY, hM⟩ := inE_ok (by simpa using h1)
  obtain ⟨o1, o2, _⟩ := onesE_zero (by simpa using h3)
  have hlen : l.length = ms.length := by simpa using h2
  refine ⟨hlen, fun m hm => ⟨(hM.rg m hm).2.2.2.2.2.1, (hM.rg m hm).2.2.2.2.1⟩, fun t ht f u => hours_range hY ht f u, fun m hm => ?_⟩
  have hin : ∀ x ∈ l.map Trp.item, x ∈ ms.map Mov.item := by
    intro x hx
    obtain ⟨y, hy, rfl⟩ := List.mem_map.1 hx
    obtain ⟨m', t, a1, _⟩ := o1 y hy
    obtain ⟨b1, b2⟩ := fndM_some a1
    exact List.mem_map.2 ⟨m', b1, b2⟩
  have hx := full_of_nodup o2 hin (by simp [hlen]) m.item (List.mem_map.2 ⟨m, hm, rfl⟩)
  obtain ⟨x, hxl, e⟩ := List.mem_map.1 hx
  obtain ⟨m', t, a1, a2, a3, a4, a5, a6⟩ := o1 x hxl
  rw [e, fndM_mem hM.nd hm] at a1
  obtain rfl := Option.some.inj a1
  obtain ⟨b1, b2⟩ := fndK_some a2
  have hl := last_ge hxl
  have hp := hours_pos hY b1 ⟨(hM.rg m hm).1, (hM.rg m hm).2.1⟩ ⟨(hM.rg m hm).2.2.1, (hM.rg m hm).2.2.2.1⟩
  unfold okB
  rw [List.take_length, List.any_eq_true]
  refine ⟨t, b1, ?_⟩
  rw [decide_eq_true a3, decide_eq_true hp, decide_eq_true (by omega)]
  rfl
set_option maxHeartbeats 4000000 in
set_option maxRecDepth 100000 in
theorem Bound_any (v dv mv lv : Value) (ms : List Mov) (tr : List Trk) (d : List (List Int)) (l : List Trp) (w : World) (hm : SM w mv ms) (hk : SK w v tr) (hd : SS w dv d) (hl : SX w lv l) (hz : ∀ t ∈ tr, t.name.length ≤ maxLen) (hzm : ∀ m ∈ ms, m.item.length ≤ maxLen) (hM : MLen w) :
    Calls Tryd.prog 8 #[.agg #[v, dv, mv], lv] w (Ret w (.bool true)) := by
  have HL := Lib.hid (LT.of hm hk hd hz hzm hM)
  have HX := Lib.hid hl
  have HMM := Lib.hid hm
  have HKK := Lib.hid hk
  obtain ⟨ma, mc, rfl, mn, mm, M3⟩ := hm
  obtain ⟨ka, kc, rfl, kn, km, K3⟩ := hk
  obtain ⟨da, dc, rfl, _⟩ := hd.open
  obtain ⟨xa, xc, rfl, xn, xm, X3⟩ := hl
  clear hd hz hzm hM M3 K3 X3
  unfold maxLen at mm km xm
  have HB0 := Lib.hid (Yb.start w (.slice ka tr.length kc) (.slice da d.length dc) (.slice ma ms.length mc) 26)
  have q0 := HB0.out.q0
  have q1 := HB0.out.q1
  have q2 := HB0.out.q2
  go_enter Tryd.func8, Tryd.ntmps8
  go_wp2_with fail
  refine (HL.out.lt 60 (by omega) _ HB0.out.hb).mono ?_
  rintro e w1 ⟨rfl, hb⟩
  have HB1 := Lib.hid (HB0.out.keep hb)
  clear hb q0 q1 q2
  cases hE : lightB tr d && decide (ms.length ≤ 60)
  · go_wp2_with fail
    refine (HL.out.aw _ HB1.out.hb).mono ?_
    rintro e w2 ⟨rfl, hb⟩
    have HB2 := Lib.hid (HB1.out.keep hb)
    clear hb
    go_wp2_with fail
    go_ret
    exact ⟨rfl, HB2.out.hb⟩
  by_cases hl60 : 60 < l.length
  · have i1 : decide ((60 : Int) < l.length) = true := by rw [decide_eq_true_eq]; omega
    go_wp2_with fail
    refine (HL.out.aw _ HB1.out.hb).mono ?_
    rintro e w2 ⟨rfl, hb⟩
    have HB2 := Lib.hid (HB1.out.keep hb)
    clear hb
    go_wp2_with fail
    go_ret
    exact ⟨rfl, HB2.out.hb⟩
  have i1 : decide ((60 : Int) < l.length) = false := by rw [decide_eq_false_iff_not]; omega
  have q0 := HB1.out.q0
  have q1 := HB1.out.q1
  have q2 := HB1.out.q2
  go_wp2_with fail
  refine (HL.out.ck l _ _ HB1.out.hb (HX.out.keep HB1.out.hb)).mono ?_
  rintro e w2 ⟨rfl, hb⟩
  have HB2 := Lib.hid (HB1.out.keep hb)
  clear hb q0 q1 q2 i1
  by_cases hC : chkTE ms tr d l = 0
  rotate_left
  · have e0 : (chkTE ms tr d l == 0) = false := by rw [beq_eq_false_iff_ne]; exact hC
    generalize chkTE ms tr d l = er at *
    go_wp2_with fail
    refine (HL.out.aw _ HB2.out.hb).mono ?_
    rintro e w3 ⟨rfl, hb⟩
    have HB3 := Lib.hid (HB2.out.keep hb)
    clear hb
    go_wp2_with fail
    go_ret
    exact ⟨rfl, HB3.out.hb⟩
  have HC := Lib.hid (bound_ok hC)
  rw [hC]
  clear hC
  go_wp2_with fail
  refine (Last_any _ l _ (HX.out.keep HB2.out.hb)).mono ?_
  rintro e w3 ⟨rfl, hb⟩
  have HB3 := Lib.hid (HB2.out.keep hb)
  clear hb
  have HLN := Lib.hid HC.out.1
  have HRD := Lib.hid HC.out.2.1
  have HHR := Lib.hid HC.out.2.2.1
  have HOK := Lib.hid HC.out.2.2.2
  clear HC
  generalize lastV l = lv at *
  have K3 : Hid (∀ i, i < tr.length → ∃ b off, ka = some ⟨b, off, none⟩ ∧ KAt w b (off + i * 3) (tki tr i)) := by
    obtain ⟨a, c, e, _, _, h3⟩ := HKK.out
    simp only [Value.slice.injEq] at e
    obtain ⟨rfl, _, _⟩ := e
    exact h3
  have M3 : Hid (∀ i, i < ms.length → ∃ b off, ma = some ⟨b, off, none⟩ ∧ MAt w b (off + i * 5) (mvi ms i)) := by
    obtain ⟨a, c, e, _, _, h3⟩ := HMM.out
    simp only [Value.slice.injEq] at e
    obtain ⟨rfl, _, _⟩ := e
    exact h3
  have q0 := HB3.out.q0
  have q1 := HB3.out.q1
  have q2 := HB3.out.q2
  go_wp2_with fail
  clear q0 q1 q2
  go_loopw [6] (fun i wr => ∃ k : Nat, k ≤ ms.length ∧ i = .int .i64 k ∧ Hid (Below w3.heap.size w3 wr)) (fun i _ => ms.length - (intOf i).toNat)
  case atStart => exact ⟨0, Nat.zero_le _, rfl, Below.refl _ _⟩
  case round =>
    obtain ⟨k, hk, rfl, HW⟩ := hrel
    have HB4 := Lib.hid (HB3.out.keep HW.out)
    have q0 := HB4.out.q0
    have q1 := HB4.out.q1
    have q2 := HB4.out.q2
    by_cases hlt : k < ms.length
    · obtain ⟨b, off, rfl, hc⟩ := M3.out k hlt
      obtain ⟨c0, c1, c2, c3, c4⟩ := hc.keep HB4.out.hb
      have hmm : mvi ms k ∈ ms := mvi_mem hlt
      have HR1 := Lib.hid (HRD.out _ hmm)
      have HO1 := Lib.hid (HOK.out _ hmm)
      generalize mvi ms k = m at *
      clear hmm hc
      have i1 : (k : Int) < (ms.length : Int) := by omega
      go_wp2_with fail
      obtain ⟨M, hM⟩ : ∃ M, M = wr.heap.size := ⟨_, rfl⟩
      have hbW2 : Below wr.heap.size wr (wr.alloc (.cells #[.string (bs m.item), .int .i64 m.frm, .int .i64 m.to, .int .i64 m.ready, .int .i64 m.mass] 46)) := (Below.refl _ _).alloc (Nat.le_refl _) _
      obtain ⟨W2, hW2⟩ : ∃ W2, W2 = wr.alloc (.cells #[.string (bs m.item), .int .i64 m.frm, .int .i64 m.to, .int .i64 m.ready, .int .i64 m.mass] 46) := ⟨_, rfl⟩
      have HMA : Hid (MAt W2 M 0 m) := by
        show MAt _ _ _ _
        rw [hW2, hM]
        exact ⟨cell_new rfl rfl, cell_new rfl rfl, cell_new rfl rfl, cell_new rfl rfl, cell_new rfl rfl⟩
      have hMs : M < W2.heap.size := by rw [hW2, hM]; simp
      rw [← hW2] at hbW2 ⊢
      rw [← hM]
      have HB5 := Lib.hid (HB4.out.keep hbW2)
      have HW5 := Lib.hid (ext_trans HW.out hbW2)
      clear hbW2 hW2 hM q0 q1 q2 c0 c1 c2 c3 c4 HB4 HW
      go_loopw [8, 9] (fun ok j w5 => ∃ n : Nat, n ≤ tr.length ∧ j = .int .i64 n ∧ ok = .bool (okB tr d m lv n) ∧ Hid (Below W2.heap.size W2 w5)) (fun _ j _ => tr.length - (intOf j).toNat)
      case atStart => exact ⟨0, Nat.zero_le _, rfl, by rw [okB_zero], Below.refl _ _⟩
      case round =>
        obtain ⟨w5, rfl⟩ : ∃ x : World, x = wr := ⟨_, rfl⟩
        obtain ⟨n, hn, rfl, rfl, hb5⟩ := hrel
        have HB6 := Lib.hid (HB5.out.keep hb5.out)
        have q0 := HB6.out.q0
        have q1 := HB6.out.q1
        have q2 := HB6.out.q2
        have hm5 := HMA.out.keep hb5.out
        have m0 : w5.cell? ⟨M, 0, none⟩ = some (.string (bs m.item)) := hm5.c0
        have m1 : w5.cell? ⟨M, 1, none⟩ = some (.int .i64 m.frm) := hm5.c1
        have m2 : w5.cell? ⟨M, 2, none⟩ = some (.int .i64 m.to) := hm5.c2
        have m3 : w5.cell? ⟨M, 3, none⟩ = some (.int .i64 m.ready) := hm5.c3
        have m4 : w5.cell? ⟨M, 4, none⟩ = some (.int .i64 m.mass) := hm5.c4
        have hMlt : M < w5.heap.size := Nat.lt_of_lt_of_le hMs hb5.out.size
        have hqs := HB6.out.qs
        clear hm5
        by_cases hlt2 : n < tr.length
        · obtain ⟨b', off', rfl, hc⟩ := K3.out n hlt2
          obtain ⟨t0, t1, t2⟩ := hc.keep HB6.out.hb
          have HOS := Lib.hid (okB_succ (d := d) (m := m) (lv := lv) hlt2)
          have HH := Lib.hid (HHR.out _ (tki_mem hlt2) m.frm m.to)
          generalize tki tr n = t at *
          clear hc
          have i2 : (n : Int) < (tr.length : Int) := by omega
          go_wp2_with fail
          refine (HL.out.ho t m.frm m.to _ (ext_trans HB6.out.hb ((Below.refl _ _).alloc (Nat.le_refl _) _))).mono ?_
          rintro e w7 ⟨rfl, hb⟩
          have hbA : Below w5.heap.size w5 (w5.alloc (.cells #[.string (bs t.name), .int .i64 t.load, .int .i64 t.hours] 30)) := (Below.refl _ _).alloc (Nat.le_refl _) _
          have k1 : w7.cell? ⟨w5.heap.size, 1, none⟩ = some (.int .i64 t.load) := cell_keep hb (cell_new rfl rfl)
          have hb57 := ext_trans hbA hb
          replace m3 := cell_keep hb57 m3
          replace m4 := cell_keep hb57 m4
          have HB7 : Hid (Below W2.heap.size W2 w7) := Lib.hid (ext_trans hb5.out hb57)
          clear hb hbA hb57 q0 q1 q2 m0 m1 m2 t0 t1 t2 HB6
          generalize hoursV t d m.frm m.to = H at *
          have v1 : IntKind.i64.wrap (m.ready + H) = m.ready + H := IntWalk.i64_in _ (by have := HR1.out; have := HH.out; omega)
          cases hok : okB tr d m lv n
          · rw [hok] at HOS
            by_cases y1 : m.mass ≤ t.load
            · have d1 : decide (m.mass ≤ t.load) = true := by rw [decide_eq_true_eq]; exact y1
              by_cases y2 : 1 ≤ H
              · have d2 : decide (1 ≤ H) = true := by rw [decide_eq_true_eq]; exact y2
                by_cases y3 : m.ready + H ≤ lv
                · have d3 : decide (m.ready + H ≤ lv) = true := by rw [decide_eq_true_eq]; exact y3
                  rw [d1, d2, d3] at HOS
                  go_wp2_with fail
                  go_roundw
                  case rel => exact ⟨n + 1, by omega, by go_num, by rw [HOS.out] <;> simp, HB7⟩
                  case measure => simp [intOf]; omega
                · have d3 : decide (m.ready + H ≤ lv) = false := by rw [decide_eq_false_iff_not]; exact y3
                  rw [d1, d2, d3] at HOS
                  go_wp2_with fail
                  go_roundw
                  case rel => exact ⟨n + 1, by omega, by go_num, by rw [HOS.out] <;> simp, HB7⟩
                  case measure => simp [intOf]; omega
              · have d2 : decide (1 ≤ H) = false := by rw [decide_eq_false_iff_not]; exact y2
                rw [d1, d2] at HOS
                go_wp2_with fail
                go_roundw
                case rel => exact ⟨n + 1, by omega, by go_num, by rw [HOS.out] <;> simp, HB7⟩
                case measure => simp [intOf]; omega
            · have d1 : decide (m.mass ≤ t.load) = false := by rw [decide_eq_false_iff_not]; exact y1
              rw [d1] at HOS
              go_wp2_with fail
              go_roundw
              case rel => exact ⟨n + 1, by omega, by go_num, by rw [HOS.out] <;> simp, HB7⟩
              case measure => simp [intOf]; omega
          · rw [hok] at HOS
            go_wp2_with fail
            go_roundw
            case rel => exact ⟨n + 1, by omega, by go_num, by rw [HOS.out] <;> simp, HB7⟩
            case measure => simp [intOf]; omega
        · have hn' : n = tr.length := by omega
          subst hn'
          rw [HO1.out]
          go_wp2_with fail
          go_roundw
          case rel => exact ⟨k + 1, by omega, by go_num, ext_trans HW5.out hb5.out⟩
          case measure => simp [intOf]; omega
    · have e1 : ((l.length : Int) == (ms.length : Int)) = true := by rw [beq_iff_eq]; have := HLN.out; omega
      have e2 : (l.length == ms.length) = true := by rw [beq_iff_eq]; exact HLN.out
      go_wp2_with fail
      refine (HL.out.aw _ HB4.out.hb).mono ?_
      rintro e w6 ⟨rfl, hb⟩
      have HB6 := Lib.hid (HB4.out.keep hb)
      clear hb
      go_wp2_with fail
      go_ret
      exact ⟨rfl, HB6.out.hb⟩
end Go.Proofs.YtpbmmdoodmbneaaDoor
