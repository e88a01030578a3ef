/- The law TraceOrigins. -/
import Derived.Test.YtjbegegjpepkjaaDoorQTraAdds
import Derived.StillTailTactics
namespace Go.Proofs.YtjbegegjpepkjaaDoor
open Go.RowKit Go.Maps

theorem links_neq (y : Lnk) : ∀ w, (binOp .neq 29 (.agg #[.string (bs y.item), .string (bs y.frm), .string (bs y.heat), .int .i64 y.tm, .int .u64 y.hash]) (.agg #[.string (bs y.item), .string (bs y.frm), .string (bs y.heat), .int .i64 y.tm, .int .u64 y.hash])).run Tryd.prog w = .ok (.bool false) w := fun w => by
  rw [run_neq_struct, link_eql, decide_eq_true rfl]; rfl

theorem SK.cells {w : World} {v : Value} {l : List Lnk} (h : SK w v l) {p : Nat} (hp : l.length = p + 1) : ∃ g off cap, v = .slice (some ⟨g, off, none⟩) (p + 1) cap ∧ p + 1 ≤ cap ∧ cap ≤ maxLen ∧ g < w.heap.size ∧ ∀ i, i < p + 1 → LkAt w g (off + i * 5) (ki l i) := by
  obtain ⟨a, cap, rfl, h1, h2, h3⟩ := h
  obtain ⟨g, off, rfl, hc⟩ := h3 0 (by omega)
  refine ⟨g, off, cap, by rw [hp], by omega, h2, World.block_lt_of_cell? w _ hc.c0, fun i hi => ?_⟩
  obtain ⟨g', off', e, hd⟩ := h3 i (by omega)
  simp at e
  obtain ⟨rfl, rfl⟩ := e
  exact hd
theorem at_ki {l : List Lnk} {k : Nat} (h : k < l.length) : l[k]? = some (ki l k) := by rw [ki_lt h]; exact List.getElem?_eq_getElem h
set_option maxHeartbeats 8000000 in
set_option maxRecDepth 100000 in
theorem Origins_any (v : Value) (l : List Lnk) (w : World) (hV : Vars w) (h : ArgK w v l) : Calls Tryd.prog 6 #[v] w (Ret w (.bool true)) := by
  have HV := Lib.hid hV
  have H := Lib.hid h
  obtain ⟨a, cap, rfl, n1, n2, n3⟩ := h.1
  have N3 := Lib.hid n3
  unfold maxLen at n2
  clear hV h n3
  go_enter Tryd.func6, Tryd.ntmps6
  go_wp2_with fail
  refine H.out.great.mono ?_
  rintro e w1 ⟨rfl, rfl⟩
  cases hg : greatB l
  rotate_left
  · clear hg
    go_wp2_with fail
    refine (alive30_any _ HV.out).mono ?_
    rintro e w1 ⟨rfl, hb1⟩
    have HB1 := Lib.hid hb1
    clear hb1
    go_wp2_with fail
    go_ret
    exact ⟨rfl, HB1.out⟩
  obtain ⟨h40, hsz⟩ := H.out.sized hg
  have HSZ := Lib.hid hsz
  clear hg hsz
  go_wp2_with fail
  refine (New_any _).mono ?_
  rintro e w1 ⟨rb, rfl, ⟨bm, vr, D, hreg⟩, hb⟩
  have HB1 := Lib.hid hb
  have HR1 : Hid (RegS (RB rb bm vr) w.heap.size rb (addAll (l.take 0)) w1) := by show RegS _ _ _ _ _; rw [List.take_zero]; exact ⟨bm, vr, D, hreg, rfl⟩
  clear hreg hb
  go_wp2_with fail
  go_loopw [4] (fun i wr => ∃ (k : Nat) (S : Nat → Prop), k ≤ l.length ∧ i = .int .i64 k ∧ Hid (RegS S w.heap.size rb (addAll (l.take k)) wr) ∧ Hid (Below w.heap.size w wr)) (fun i _ => l.length - (intOf i).toNat)
  case atStart => exact ⟨0, _, Nat.zero_le _, rfl, HR1.out, HB1.out⟩
  case round =>
    obtain ⟨k, S, hk, rfl, hr, hbw⟩ := hrel
    by_cases hlt : k < l.length
    · obtain ⟨b, off, ha, hc0⟩ := N3.out k hlt
      have hc := hc0.keep hbw.out
      subst ha
      have hki : l[k]? = some (ki l k) := by rw [ki_lt hlt]; exact List.getElem?_eq_getElem hlt
      generalize ki l k = x at *
      obtain ⟨z1, z2, z3, z4⟩ := HSZ.out x (List.mem_of_getElem? hki)
      have c0 := hc.c0
      have c1 := hc.c1
      have c2 := hc.c2
      have c3 := hc.c3
      have HBD : Hid (Below w.heap.size w wr.drew) := hbw.out.drew
      have hrx := hr.out.keep (Below.refl wr.heap.size wr).drew
      have hadd := Add_any S w.heap.size rb (addAll (l.take k)) (bs x.item) (bs x.frm) (bs x.heat) x.tm _ hrx (HV.out.keep HBD.out) (by rw [bs_size]; unfold maxLen; omega) (by rw [bs_size]; unfold maxLen; omega) (by rw [bs_size]; unfold maxLen; omega)
      rw [bs_list, bs_list, bs_list] at hadd
      have HADD := Lib.hid hadd
      have HRX := Lib.hid hrx
      have HNX := Lib.hid (take_snoc hki)
      have i1 : (k : Int) < (l.length : Int) := by omega
      clear hadd hrx hki hc hc0
      go_wp2_with fail
      go_still_tail 21, (by kernel_rfl)
      change wpList _ _ _ _ _ wr.drew
      go_wp2_with fail
      refine HADD.out.mono ?_
      rintro e w2 ⟨S2, rfl, hr2, hS2, ho2⟩
      rw [← HNX.out] at hr2
      have hB2 := ho2.base (fun k hk => (HRX.out.lt k hk).1) HBD.out.size
      have HB2 : Hid (Below w.heap.size w w2) := HBD.out.trans hB2
      have HR2 := Lib.hid hr2
      clear hr2 hS2 ho2 hB2 HADD HRX c0 c1 c2 c3
      go_wp2_with fail
      go_roundw
      case rel => exact ⟨k + 1, S2, by omega, by go_num, HR2.out, HB2.out⟩
      case measure => simp [intOf]; omega
    · obtain rfl : k = l.length := by omega
      rw [List.take_length] at hr
      obtain ⟨P1, P2⟩ := addAll_reg l
      have HRG := Lib.hid P1
      have HLK := Lib.hid (Links_any w.heap.size rb (addAll l) wr hr.out.reg)
      generalize addAll l = M at *
      have HSM : Hid (Sized M) := by
        obtain ⟨_, _, _, hh⟩ := hr.out.reg
        intro x hx
        have := hh.h6 x hx
        omega
      clear P1
      go_wp2_with fail
      refine HLK.out.mono ?_
      rintro e w2 ⟨v2, rfl, ho, hb2⟩
      have HB2 := Lib.hid (hbw.out.trans (hb2.mono hbw.out.size))
      have HR2 := Lib.hid (hr.out.keep hb2)
      obtain ⟨a2, cp2, e2, m1, m2, m3⟩ := ho.sk
      subst e2
      have M3 := Lib.hid m3
      have HSK := Lib.hid ho.sk
      unfold maxLen at m2
      have b1 : decide ((l.length : Int) < (M.length : Int)) = false := by rw [decide_eq_false_iff_not]; omega
      have b2 : decide (l.length < M.length) = false := by rw [decide_eq_false_iff_not]; omega
      clear ho hb2 m3 HLK
      go_wp2_with fail
      have hck := Check_any _ M w2 HSK.out (HV.out.keep HB2.out) (by omega) HSM.out
      rw [HRG.out.check] at hck
      refine hck.mono ?_
      rintro e w3 ⟨rfl, hb3⟩
      have HB3 := Lib.hid (HB2.out.trans (hb3.mono HB2.out.size))
      have HR3 := Lib.hid (HR2.out.keep hb3)
      have HB23 := Lib.hid hb3
      have HP := Lib.hid HRG.out.prop
      clear hb3 hck
      go_wp2_with fail
      go_loopw [6] (fun i wr => ∃ (k : Nat), k ≤ M.length ∧ i = .int .i64 k ∧ Hid (Below w3.heap.size w3 wr)) (fun i _ => M.length - (intOf i).toNat)
      case atStart => exact ⟨0, Nat.zero_le _, rfl, Below.refl _ _⟩
      case round =>
        obtain ⟨k, hk, rfl, hbr⟩ := hrel
        by_cases hlt2 : k < M.length
        · obtain ⟨b, off, ha, hc0⟩ := M3.out k hlt2
          have HB2R := Lib.hid (ext_trans HB23.out hbr.out)
          have hc := hc0.keep HB2R.out
          subst ha
          have hki : M[k]? = some (ki M k) := by rw [ki_lt hlt2]; exact List.getElem?_eq_getElem hlt2
          generalize ki M k = x at *
          have HCX := Lib.hid hc
          obtain ⟨z1, z2, z3, z4⟩ := HSM.out x (List.mem_of_getElem? hki)
          have HO1 := Lib.hid (Origin_yes w.heap.size rb M (bs x.item) _ (HR3.out.keep hbr.out).reg (by rw [bs_size]; unfold maxLen; omega) x (by rw [bs_list]; exact HP.out.fnd_at hki))
          have HORG := Lib.hid (orgs_ok HP.out k x hki M.length (by omega))
          have c0 := hc.c0
          have hbl : b < _ := World.block_lt_of_cell? _ _ c0
          have i1 : (k : Int) < (M.length : Int) := by omega
          clear hki hc hc0
          go_wp2_with fail
          refine HO1.out.mono ?_
          rintro e w4 ⟨v4, rfl, ho4, hb4⟩
          have HB34 := Lib.hid (ext_trans hbr.out hb4)
          have hc4 := HCX.out.keep hb4
          have horg := HORG.out
          change OrgP M k x (orgF M x) at horg
          have hne : (orgF M x).length ≠ 0 := by
            intro e
            have := horg.head
            rw [List.eq_nil_of_length_eq_zero e] at this; cases this
          obtain ⟨p, hp⟩ : ∃ p, (orgF M x).length = p + 1 := ⟨(orgF M x).length - 1, by omega⟩
          have hpl := horg.len
          rw [hp] at hpl
          obtain ⟨g, gf, cp4, e4, k1, k2, k3, k4⟩ := ho4.sk.cells hp
          subst e4
          have HO0 : Hid (ki (orgF M x) 0 = x) := by
            have := horg.head
            rw [List.head?_eq_getElem?] at this
            exact (ki_some this).2
          have HOL : Hid ((ki (orgF M x) p).frm = []) := by
            obtain ⟨z, hz, hzf⟩ := horg.last
            rw [List.getLast?_eq_getElem?, hp, Nat.add_sub_cancel] at hz
            show _ = _
            rw [(ki_some hz).2]; exact hzf
          have HST : Hid (∀ j, j < p → (ki (orgF M x) (j + 1)).item = (ki (orgF M x) j).frm ∧ (ki (orgF M x) (j + 1)).tm ≤ (ki (orgF M x) j).tm) := fun j hj =>
            horg.step j _ _ (at_ki (by omega)) (at_ki (by omega))
          have HHT : Hid (∀ j, j < p + 1 → (ki (orgF M x) j).heat = x.heat) := fun j hj => horg.heat _ (List.mem_of_getElem? (at_ki (by omega)))
          have K4 := Lib.hid k4
          have h0 := k4 0 (by omega)
          have hl := k4 p (by omega)
          rw [HO0.out] at h0
          have d0 := hc4.c0
          have d1 := hc4.c1
          have d2 := hc4.c2
          have d3 := hc4.c3
          have d4 := hc4.c4
          have f0 := h0.c0
          have f1 := h0.c1
          have f2 := h0.c2
          have f3 := h0.c3
          have f4 := h0.c4
          simp only [Nat.zero_mul, Nat.add_zero] at f0 f1 f2 f3 f4
          have l1 := hl.c1
          rw [HOL.out] at l1
          have hbe : bs [] = ⟨#[]⟩ := rfl
          rw [hbe] at l1
          have hbl4 : b < w4.heap.size := World.block_lt_of_cell? _ _ d0
          have hnq := links_neq x
          have hm := (by kernel_rfl : Tryd.prog.eqGuardType Tryd.prog.depth 29 = false)
          have i2 : (0 : Int) < ((p + 1 : Nat) : Int) := by omega
          have j1 : (((p + 1 : Nat) : Int) == 0) = false := by rw [beq_eq_false_iff_ne]; omega
          have j2 : ((p : Int) + 1 == 0) = false := by rw [beq_eq_false_iff_ne]; omega
          have j3 : decide ((M.length : Int) < ((p + 1 : Nat) : Int)) = false := by rw [decide_eq_false_iff_not]; omega
          have j4 : decide ((M.length : Int) < (p : Int) + 1) = false := by rw [decide_eq_false_iff_not]; omega
          have j5 : decide (M.length < p + 1) = false := by rw [decide_eq_false_iff_not]; omega
          have j6 : (p + 1 == 0) = false := by rw [beq_eq_false_iff_ne]; omega
          have i3 : IntKind.i64.wrap ((p : Int) + 1 - 1) = p := IntWalk.i64_in _ (by omega) |>.trans (by omega)
          have i4 : (p : Int) < ((p + 1 : Nat) : Int) := by omega
          unfold maxLen at k2
          clear horg hne hp ho4 hb4 h0 hl hc4 k4 hbe HO1 HORG c0
          go_wp2_with fail
          go_quiet (fail)
          clear d0 d1 d2 d3 d4 f0 f1 f3 f4 l1 hnq hm j1 j2 j3 j4 j5 j6 i3 i4
          go_wp2_with fail
          go_loopw [9] (fun i wr' => ∃ (j : Nat), 1 ≤ j ∧ j ≤ p + 1 ∧ i = .int .i64 j ∧ ∃ m, wr' = w4.drewN m) (fun i _ => p + 1 - (intOf i).toNat)
          case atStart => exact ⟨1, Nat.le_refl _, by omega, rfl, (by first | exact ⟨_, rfl⟩ | exact ⟨1, rfl⟩)⟩
          case round =>
            obtain ⟨j, hj1, hj2, rfl, ⟨m, rfl⟩⟩ := hrel
            by_cases hlt3 : j < p + 1
            · obtain ⟨j', rfl⟩ : ∃ j', j = j' + 1 := ⟨j - 1, by omega⟩
              have hy := K4.out (j' + 1) hlt3
              have hz := K4.out j' (by omega)
              obtain ⟨s1, s2⟩ := HST.out j' (by omega)
              have s3 := HHT.out (j' + 1) hlt3
              generalize ki (orgF M x) (j' + 1) = y at *
              generalize ki (orgF M x) j' = z at *
              have y0 := hy.c0
              have y2 := hy.c2
              have y3 := hy.c3
              have z1' := hz.c1
              have z3' := hz.c3
              rw [s1] at y0
              rw [s3] at y2
              have t1 : decide (z.tm < y.tm) = false := by rw [decide_eq_false_iff_not]; omega
              have i5 : IntKind.i64.wrap ((j' : Int) + 1 - 1) = j' := IntWalk.i64_in _ (by omega) |>.trans (by omega)
              have i6 : (j' : Int) + 1 < (p : Int) + 1 := by omega
              have i7 : (j' : Int) < (p : Int) + 1 := by omega
              clear hy hz s1 s2 s3
              go_wp2_with fail
              go_quiet (fail)
              go_wp2_with fail
              go_roundw
              case rel => exact ⟨j' + 1 + 1, by omega, by omega, by go_num, (by first | exact ⟨_, rfl⟩ | exact dn2 _ _ _)⟩
              case measure => simp [intOf]; omega
            · have hje : j = p + 1 := by omega
              subst hje
              have HBZ : Hid (Below w3.heap.size w3 (w4.drewN m)) := below_drewN' HB34.out m
              clear f2
              go_wp2_with fail
              go_roundw
              case rel => exact ⟨k + 1, by omega, by go_num, HBZ.out⟩
              case measure => simp [intOf]; omega
        · obtain rfl : k = M.length := by omega
          have HBF := Lib.hid (HB3.out.trans (hbr.out.mono HB3.out.size))
          go_wp2_with fail
          refine (alive30_any _ (HV.out.keep HBF.out)).mono ?_
          rintro e w4 ⟨rfl, hb1⟩
          have HB4 := Lib.hid (ext_trans HBF.out hb1)
          clear hb1
          go_wp2_with fail
          go_ret
          exact ⟨rfl, HB4.out⟩
end Go.Proofs.YtjbegegjpepkjaaDoor
