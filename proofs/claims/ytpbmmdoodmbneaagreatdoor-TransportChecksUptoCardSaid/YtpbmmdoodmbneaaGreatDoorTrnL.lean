/- Contracts: the comparisons of trips; Last of transport. -/
import Derived.Test.YtpbmmdoodmbneaaGreatDoorTsF
namespace Go.Proofs.YtpbmmdoodmbneaaGreatDoor
open Go.RowKit

theorem enter_Check1 : ∀ args w, (callFunc 19 args).run Tryz.prog w = .ok (.enter 19 args) w := enters_of Tryz.func19 (by kernel_rfl) rfl
theorem enter_Last1 : ∀ args w, (callFunc 30 args).run Tryz.prog w = .ok (.enter 30 args) w := enters_of Tryz.func30 (by kernel_rfl) rfl
theorem gr_two (w : World) (o o' : Obj) : GR w ((w.alloc o).alloc o') := ((GR.refl w).alloc o).alloc o'
theorem Check1_any (x y : Trp) (w : World) (hx : 0 ≤ x.start ∧ x.start ≤ 1099511627776) (hy : 0 ≤ y.start ∧ y.start ≤ 1099511627776) :
    Calls Tryz.prog 19 #[.agg #[.string (bs x.item), .string (bs x.truck), .int .i64 x.start, .int .i64 x.fin], .agg #[.string (bs y.item), .string (bs y.truck), .int .i64 y.start, .int .i64 y.fin]] w
      fun e w' => e = .returned (.int .i64 (x.start - y.start)) ∧ GR w w' := by
  have hw : IntKind.i64.wrap (x.start - y.start) = x.start - y.start := IntWalk.i64_in _ (by omega)
  go_enter Tryz.func19, Tryz.ntmps19
  go_wp2_with fail
  go_ret
  exact ⟨rfl, gr_two _ _ _⟩
theorem Last1_any (x y : Trp) (w : World) :
    Calls Tryz.prog 30 #[.agg #[.string (bs x.item), .string (bs x.truck), .int .i64 x.start, .int .i64 x.fin], .agg #[.string (bs y.item), .string (bs y.truck), .int .i64 y.start, .int .i64 y.fin]] w
      fun e w' => e = .returned (.int .i64 (cI x.fin y.fin)) ∧ GR w w' := by
  go_enter Tryz.func30, Tryz.ntmps30
  go_wp2_with fail
  refine (compare_int _ _ _).mono ?_
  rintro e w1 ⟨rfl, rfl⟩
  go_wp2_with fail
  go_ret
  exact ⟨rfl, gr_two _ _ _⟩

/-- the greatest end of the first k -/
def mxE (l : List Trp) (k : Nat) : Int := lastV (l.take k)
theorem mxE_one {l : List Trp} (h : 1 ≤ l.length) : mxE l 1 = (tpi l 0).fin := by
  unfold mxE
  cases l with
  | nil => simp at h
  | cons x r => rfl
theorem mxE_succ {l : List Trp} {k : Nat} (h1 : 1 ≤ k) (hk : k < l.length) : mxE l (k + 1) = max (mxE l k) (tpi l k).fin := by
  unfold mxE
  rw [take_tpi hk]
  cases l with
  | nil => simp at hk
  | cons x r =>
    obtain ⟨j, rfl⟩ : ∃ j, k = j + 1 := ⟨k - 1, by omega⟩
    rw [List.take_succ_cons]
    unfold lastV
    rw [List.cons_append]
    simp [List.foldl_append]
theorem mxE_all (l : List Trp) : mxE l l.length = lastV l := by unfold mxE; rw [List.take_length]
set_option maxHeartbeats 2000000 in
theorem MaxFunc_any (v : Value) (l : List Trp) (w : World) (h : SX w v l) (h1 : 1 ≤ l.length) :
    Calls Tryz.prog 29 #[v, .func (.func 30) #[] #[]] w fun e w' => ∃ p : Trp, e = .returned (.agg #[.string (bs p.item), .string (bs p.truck), .int .i64 p.start, .int .i64 p.fin]) ∧ p.fin = lastV l ∧ Below w.heap.size w w' := by
  have mxd : Tryz.prog.follows .mixedOrders = true := mixed
  have en := enter_Last1
  obtain ⟨b, off, cap, rfl, n1, n2, n3, n4⟩ := h.form h1
  unfold maxLen at n2
  have H4 := Lib.hid n4
  obtain ⟨c0, c1, c2, c3⟩ := n4 0 (by omega)
  rw [Nat.zero_mul, Nat.add_zero] at c0 c1 c2 c3
  clear n4
  go_enter Tryz.func29, Tryz.ntmps29
  go_wp2_with fail
  obtain ⟨N, hN⟩ : ∃ N, N = w.heap.size := ⟨_, rfl⟩
  obtain ⟨W, hW⟩ : ∃ W, W = (w.alloc (.cells #[.string ⟨#[]⟩, .string ⟨#[]⟩, .int .i64 0, .int .i64 0] 43)).alloc (.cells #[.string (bs (tpi l 0).item), .string (bs (tpi l 0).truck), .int .i64 (tpi l 0).start, .int .i64 (tpi l 0).fin] 43) := ⟨_, rfl⟩
  have HBW : Hid (Below w.heap.size w W) := by show Below _ _ _; rw [hW]; exact ((Below.refl _ _).alloc (Nat.le_refl _) _).alloc (by simp) _
  have HW0 : Hid (X4 W N) := by
    show X4 _ _
    rw [hW, hN]
    exact (X4_new w).below ((Below.refl _ _).alloc (Nat.le_refl _) _) (by simp)
  have HW1 : Hid (X4 W (N + 1) ∧ XAt W (N + 1) 0 (tpi l 0)) := by
    show X4 _ _ ∧ XAt _ _ _ _
    rw [hW, hN]
    exact ⟨⟨by simp, by simp, by simp, by simp, fun j => by simp⟩, ⟨by simp, by simp, by simp, by simp⟩⟩
  have hWs : W.heap.size = N + 2 := by rw [hW, hN]; simp
  have hwN : w.heap.size ≤ N := by omega
  rw [← hW, ← hN]
  have HNN := Lib.hid hN
  clear hW hN c0 c1 c2 c3
  go_loopw [6] (fun i wr => ∃ (k : Nat) (p : Trp), 1 ≤ k ∧ k ≤ l.length ∧ i = .int .i64 k ∧ Hid (Below w.heap.size w wr) ∧ Hid (N + 2 ≤ wr.heap.size) ∧ Hid (X4 wr N) ∧ Hid (X4 wr (N + 1) ∧ XAt wr (N + 1) 0 p) ∧ Hid (p.fin = mxE l k)) (fun i _ => l.length - (intOf i).toNat)
  case atStart => exact ⟨1, tpi l 0, Nat.le_refl _, h1, rfl, HBW.out, by show _ ≤ _; omega, HW0.out, HW1.out, (mxE_one h1).symm⟩
  case round =>
    clear HW0 HW1 HBW
    obtain ⟨k, p, hk1, hk, rfl, hb, hs, hx0, hx1, hm⟩ := hrel
    have hs' := hs.out
    by_cases hlt : k < l.length
    · have hat := (H4.out k hlt).keep hb.out
      obtain ⟨a0, a1, a2, a3⟩ := hat.xg
      have hp1 : XAt wr (N + 1) 0 p := hx1.out.2
      have b0 : ∀ n os, (Sort.grow (wr.drewN n) os).cell? ⟨N + 1, 0, none⟩ = some (.string (bs p.item)) := hp1.xg.c0
      have b1 : ∀ n os, (Sort.grow (wr.drewN n) os).cell? ⟨N + 1, 1, none⟩ = some (.string (bs p.truck)) := hp1.xg.c1
      have b2 : ∀ n os, (Sort.grow (wr.drewN n) os).cell? ⟨N + 1, 2, none⟩ = some (.int .i64 p.start) := hp1.xg.c2
      have b3 : ∀ n os, (Sort.grow (wr.drewN n) os).cell? ⟨N + 1, 3, none⟩ = some (.int .i64 p.fin) := hp1.xg.c3
      have HC := Lib.hid (fun W' => Last1_any (tpi l k) p W')
      have HS := Lib.hid (mxE_succ hk1 hlt)
      generalize tpi l k = q at *
      have i1 : (k : Int) < l.length := by omega
      have i2 : (k : Int) < cap := by omega
      have i0 : (0 : Int) ≤ k := by omega
      cases hc : decide (0 < cI q.fin p.fin)
      · have HF : Hid (p.fin = mxE l (k + 1)) := by
          rw [decide_eq_false_iff_not] at hc
          show _ = _
          rw [HS.out, ← hm.out]
          unfold cI at hc
          omega
        go_wp2_with fail
        go_quiet_grown (exact Calls.grown_of (HC.out _))
        have HG := Lib.hid (gr_of wr nq osq)
        generalize Sort.grow (wr.drewN nq) osq = wq at *
        go_wp2_with fail
        go_roundw
        case rel => exact ⟨k + 1, p, by omega, by omega, by go_num, ext_trans hb.out HG.out.below, Nat.le_trans hs' HG.out.below.size, hx0.out.below HG.out.below (by omega), ⟨hx1.out.1.below HG.out.below (by omega), hx1.out.2.keep HG.out.below⟩, HF.out⟩
        case measure => simp [intOf]; omega
      · have HF : Hid (q.fin = mxE l (k + 1)) := by
          rw [decide_eq_true_eq] at hc
          show _ = _
          rw [HS.out, ← hm.out]
          unfold cI at hc
          omega
        go_wp2_with fail
        go_quiet_grown (exact Calls.grown_of (HC.out _))
        have HG := Lib.hid (gr_of wr nq osq)
        generalize Sort.grow (wr.drewN nq) osq = wq at *
        clear a0 a1 a2 a3 b0 b1 b2 b3 hp1
        have hq := hat.keep HG.out.below
        obtain ⟨a0, a1, a2, a3⟩ := hq
        have hX := hx1.out.1.below HG.out.below (by omega)
        have hY := hx0.out.below HG.out.below (by omega)
        obtain ⟨y0, hy0⟩ := Option.isSome_iff_exists.1 hX.e0
        obtain ⟨y1, hy1⟩ := Option.isSome_iff_exists.1 hX.e1
        obtain ⟨y2, hy2⟩ := Option.isSome_iff_exists.1 hX.e2
        obtain ⟨y3, hy3⟩ := Option.isSome_iff_exists.1 hX.e3
        have hfz := hX.fz
        have HX := Lib.hid hX
        have HY := Lib.hid hY
        have HZ := Lib.hid HG.out.below.size
        clear hX hY hat
        go_wp2_with fail
        go_roundw
        case rel =>
          have hsz := HZ.out
          have hst := setX_at HX.out q
          have hgr := setX_grown wq (N + 1) q
          have hfar : X4 (setX wq (N + 1) q) N := by
            have hc : ∀ j, (setX wq (N + 1) q).cell? ⟨N, j, none⟩ = wq.cell? ⟨N, j, none⟩ := fun j => World.cell?_of_block (a := ⟨N, j, none⟩) (hgr.block N (by omega) (by simp))
            have hf : ∀ j, (setX wq (N + 1) q).frozen? ⟨N, j, none⟩ = wq.frozen? ⟨N, j, none⟩ := fun j => World.frozen?_of_block (a := ⟨N, j, none⟩) (hgr.block N (by omega) (by simp))
            exact ⟨by rw [hc]; exact HY.out.e0, by rw [hc]; exact HY.out.e1, by rw [hc]; exact HY.out.e2, by rw [hc]; exact HY.out.e3, fun j => by rw [hf]; exact HY.out.fz j⟩
          exact ⟨k + 1, q, by omega, by omega, by go_num, below_own (ext_trans hb.out HG.out.below) hgr (fun n hn => by have := Option.some.inj hn; omega), Nat.le_trans (show N + 2 ≤ wq.heap.size by omega) hgr.size, hfar, ⟨hst.2, hst.1⟩, HF.out⟩
        case measure => simp [intOf]; omega
    · obtain rfl : k = l.length := by omega
      have HF : Hid (p.fin = lastV l) := by show _ = _; rw [hm.out, mxE_all]
      have hp0 : wr.cell? ⟨N + 1, 0, none⟩ = some (.string (bs p.item)) := hx1.out.2.c0
      have hp1 : wr.cell? ⟨N + 1, 1, none⟩ = some (.string (bs p.truck)) := hx1.out.2.c1
      have hp2 : wr.cell? ⟨N + 1, 2, none⟩ = some (.int .i64 p.start) := hx1.out.2.c2
      have hp3 : wr.cell? ⟨N + 1, 3, none⟩ = some (.int .i64 p.fin) := hx1.out.2.c3
      obtain ⟨y0, hy0⟩ := Option.isSome_iff_exists.1 hx0.out.e0
      obtain ⟨y1, hy1⟩ := Option.isSome_iff_exists.1 hx0.out.e1
      obtain ⟨y2, hy2⟩ := Option.isSome_iff_exists.1 hx0.out.e2
      obtain ⟨y3, hy3⟩ := Option.isSome_iff_exists.1 hx0.out.e3
      have hfz := hx0.out.fz
      go_wp2_with fail
      have hst := (setX_at hx0.out p).1
      have hgr := setX_grown wr N p
      have s0 : (setX wr N p).cell? ⟨N, 0, none⟩ = some (.string (bs p.item)) := hst.c0
      have s1 : (setX wr N p).cell? ⟨N, 1, none⟩ = some (.string (bs p.truck)) := hst.c1
      have s2 : (setX wr N p).cell? ⟨N, 2, none⟩ = some (.int .i64 p.start) := hst.c2
      have s3 : (setX wr N p).cell? ⟨N, 3, none⟩ = some (.int .i64 p.fin) := hst.c3
      have hbe : Below w.heap.size w (setX wr N p) := below_own hb.out hgr (fun n hn => by have := Option.some.inj hn; omega)
      unfold setX at s0 s1 s2 s3 hbe
      refine bodyPost_ret (v := .agg #[.string (bs p.item), .string (bs p.truck), .int .i64 p.start, .int .i64 p.fin]) (by simp [results, Tryz.results29, go_sem, s0, s1, s2, s3]) rfl ?_
      exact ⟨p, rfl, HF.out, hbe⟩
theorem field_fin (a b : ByteArray) (c d : Int) (w : World) : Sem.run Tryz.prog (Instr.field 43 (.agg #[.string a, .string b, .int .i64 c, .int .i64 d]) 3) w = .ok (.int .i64 d) w := by
  unfold Instr.field
  rw [Sem.run_bind, run_underlying Tryz.underlying43 w]
  simp [asAgg, Go.part, Sem.run_bind, Sem.run_pure, agg_int0]
theorem Last_any (v : Value) (l : List Trp) (w : World) (h : SX w v l) : Calls Tryz.prog 8 #[v] w (Ret w (.int .i64 (lastV l))) := by
  by_cases h0 : l.length = 0
  · have hl : l = [] := List.eq_nil_of_length_eq_zero h0
    subst hl
    obtain ⟨a, cap, rfl, _⟩ := h
    go_enter Tryz.func8, Tryz.ntmps8
    go_wp2_with fail
    go_ret
    exact ⟨rfl, Below.refl _ _⟩
  · have HM := Lib.hid (MaxFunc_any v l w h (by omega))
    have hfd := field_fin
    obtain ⟨a, cap, rfl, _⟩ := h
    have hb : ((l.length : Int) == 0) = false := by rw [beq_eq_false_iff_ne]; omega
    go_enter Tryz.func8, Tryz.ntmps8
    go_wp2_with fail
    refine HM.out.mono ?_
    rintro e w1 ⟨p, rfl, hp, hb1⟩
    have HP := Lib.hid hp
    have HB := Lib.hid hb1
    clear hp hb1
    go_wp2_with fail
    go_ret
    exact ⟨ret_int HP.out, HB.out⟩
end Go.Proofs.YtpbmmdoodmbneaaGreatDoor
