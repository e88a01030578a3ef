/- Contracts: Check of the program and of the reference. -/
import Derived.Test.YtjbegegjpepkjaaDoorTraN
namespace Go.Proofs.YtjbegegjpepkjaaDoor
open Go.RowKit Go.Maps

theorem drop_at {l : List Lnk} {k : Nat} {x : Lnk} (h : l[k]? = some x) : l.drop k = x :: l.drop (k + 1) ∧ l.take (k + 1) = l.take k ++ [x] := by
  obtain ⟨h1, h2⟩ := List.getElem?_eq_some_iff.1 h
  exact ⟨by rw [List.drop_eq_getElem_cons h1, h2], by rw [List.take_succ_eq_append_getElem h1, h2]⟩
/-- where the check stands behind k links -/
def ChkAt (l : List Lnk) (k : Nat) : Prop := Reg (l.take k) ∧ checkL l = chkE (l.take k) (l.drop k)
theorem ChkAt.start (l : List Lnk) : ChkAt l 0 := ⟨by rw [List.take_zero]; exact Reg.nil, rfl⟩
theorem ChkAt.err {l : List Lnk} {k : Nat} {x : Lnk} (h : ChkAt l k) (hk : l[k]? = some x) (e : addE (l.take k) x.item x.frm x.heat x.tm ≠ 0) : checkL l = addE (l.take k) x.item x.frm x.heat x.tm := by
  rw [h.2, (drop_at hk).1, chkE, if_neg e]
theorem ChkAt.sum {l : List Lnk} {k : Nat} {x : Lnk} (h : ChkAt l k) (hk : l[k]? = some x) (e : addE (l.take k) x.item x.frm x.heat x.tm = 0) (g : (newL (l.take k) x.item x.frm x.heat x.tm).hash ≠ x.hash) : checkL l = 16 := by
  rw [h.2, (drop_at hk).1, chkE, if_pos e, if_neg g]
theorem ChkAt.next {l : List Lnk} {k : Nat} {x : Lnk} (h : ChkAt l k) (hk : l[k]? = some x) (e : addE (l.take k) x.item x.frm x.heat x.tm = 0) (g : (newL (l.take k) x.item x.frm x.heat x.tm).hash = x.hash) : ChkAt l (k + 1) ∧ addL (l.take k) x.item x.frm x.heat x.tm = l.take (k + 1) := by
  have hd := drop_at hk
  refine ⟨⟨?_, ?_⟩, ?_⟩
  · rw [hd.2]; exact h.1.snoc e g.symm
  · rw [h.2, hd.1, chkE_step e g.symm, hd.2]
  · unfold addL; rw [if_pos e, newL_eq g.symm, hd.2]
theorem ChkAt.done {l : List Lnk} (h : ChkAt l l.length) : checkL l = 0 := by
  rw [h.2, List.drop_length, chkE]
def Sized (l : List Lnk) : Prop := ∀ x ∈ l, x.item.length ≤ 1000 ∧ x.frm.length ≤ 1000 ∧ x.heat.length ≤ 1000 ∧ x.hash < 18446744073709551616

set_option maxHeartbeats 2000000 in
set_option maxRecDepth 100000 in
theorem Check_any (v : Value) (l : List Lnk) (w : World) (h : SK w v l) (hV : Vars w) (hl : l.length ≤ 4096) (hs : Sized l) :
    Calls Tryd.prog 19 #[v] w (Ret w (.int .i64 (checkL l))) := by
  have HV := Lib.hid hV
  have HS := Lib.hid hs
  obtain ⟨a, cap, rfl, n1, n2, n3⟩ := h
  have N3 := Lib.hid n3
  unfold maxLen at n2
  clear hV hs n3
  go_enter Tryd.func19, Tryd.ntmps19
  go_wp2_with fail
  refine (New_any _).mono ?_
  rintro e w1 ⟨rb, rfl, ⟨bm, vr, D, hreg⟩, hb⟩
  have HB1 := Lib.hid hb
  have HR1 : Hid (RegS (RB rb bm vr) w.heap.size rb (l.take 0) w1) := by
    show RegS _ _ _ _ _
    rw [List.take_zero]; exact ⟨bm, vr, D, hreg, rfl⟩
  clear hreg hb
  go_wp2_with fail
  go_loopw [11] (fun i wr => ∃ (k : Nat) (S : Nat → Prop), k ≤ l.length ∧ i = .int .i64 k ∧ Hid (ChkAt l k) ∧ Hid (RegS S w.heap.size rb (l.take k) wr) ∧ Hid (Below w.heap.size w wr)) (fun i _ => l.length - (intOf i).toNat)
  case atStart => exact ⟨0, _, Nat.zero_le _, rfl, ChkAt.start l, HR1.out, HB1.out⟩
  case round =>
    obtain ⟨k, S, hk, rfl, hch, hr, hbw⟩ := hrel
    by_cases hlt : k < l.length
    · obtain ⟨b, off, ha, hc0⟩ := N3.out k hlt
      have hc := hc0.keep hbw.out
      subst ha
      have hki : l[k]? = some (ki l k) := by rw [ki_lt hlt]; exact List.getElem?_eq_getElem hlt
      generalize ki l k = x at *
      have HKI := Lib.hid hki
      obtain ⟨z1, z2, z3, z4⟩ := HS.out x (List.mem_of_getElem? hki)
      have c0 := hc.c0
      have c1 := hc.c1
      have c2 := hc.c2
      have c3 := hc.c3
      have c4 := hc.c4
      have hbl : b < wr.heap.size := World.block_lt_of_cell? wr _ c0
      have hws := hbw.out.size
      have HBX : Hid (Below w.heap.size w (wr.alloc (.cells #[.string (bs x.item), .string (bs x.frm), .string (bs x.heat), .int .i64 x.tm, .int .u64 x.hash] 29))) := hbw.out.alloc hws _
      have hrx := hr.out.keep ((Below.refl _ wr).alloc (Nat.le_refl _) (.cells #[.string (bs x.item), .string (bs x.frm), .string (bs x.heat), .int .i64 x.tm, .int .u64 x.hash] 29))
      have hadd := Add_any S w.heap.size rb (l.take k) (bs x.item) (bs x.frm) (bs x.heat) x.tm _ hrx (HV.out.keep HBX.out) (by rw [bs_size]; unfold maxLen; omega) (by rw [bs_size]; unfold maxLen; omega) (by rw [bs_size]; unfold maxLen; omega)
      rw [bs_list, bs_list, bs_list] at hadd
      have hlk := LkB.new wr x
      have HADD := Lib.hid hadd
      have HRX := Lib.hid hrx
      have HLK := Lib.hid hlk
      obtain ⟨c, hcc⟩ : ∃ c, addE (l.take k) x.item x.frm x.heat x.tm = c := ⟨_, rfl⟩
      obtain ⟨hh, hhh⟩ : ∃ hh, addH (l.take k) x.item x.frm x.heat x.tm = hh := ⟨_, rfl⟩
      have HCC := Lib.hid hcc
      have HHH := Lib.hid hhh
      clear hadd hrx hlk hki hc hc0 hcc hhh
      go_wp2_with fail
      refine HADD.out.mono ?_
      rintro e w2 ⟨S2, rfl, hr2, hS2, ho2⟩
      rw [HCC.out, HHH.out]
      have hB2 := ho2.base (fun k hk => (HRX.out.lt k hk).1) HBX.out.size
      have HB2 : Hid (Below w.heap.size w w2) := HBX.out.trans hB2
      have hlk2 : LkB w2 wr.heap.size x := by
        unfold LkB
        rw [ho2.block wr.heap.size HLK.out.lt (fun e => by have := (hr.out.lt _ e).2; omega)]
        exact HLK.out
      obtain ⟨_, _, _, _, d4⟩ := hlk2.at
      have hx2 : wr.heap.size < w2.heap.size := hlk2.lt
      have HR2 := Lib.hid hr2
      clear hr2 hS2 ho2 hB2 hlk2 HADD HRX HLK c0 c1 c2 c3 c4
      by_cases h0 : c ≠ 0
      · have b1 : (c != 0) = true := by rw [bne_iff_ne]; exact h0
        have b2 : (c == 0) = false := by rw [beq_eq_false_iff_ne]; exact h0
        have HE : Hid (checkL l = c) := by show _ = _; rw [hch.out.err HKI.out (by rw [HCC.out]; exact h0), HCC.out]
        clear h0
        go_wp2_with fail
        go_ret
        exact ret_e rfl HE.out HB2.out
      obtain rfl : c = 0 := Classical.not_not.1 h0
      have HHN : Hid (hh = (newL (l.take k) x.item x.frm x.heat x.tm).hash) := by show _ = _; rw [← HHH.out]; unfold addH; rw [if_pos HCC.out]
      clear h0
      by_cases h1 : hh = x.hash
      · have b1 : ((hh : Int) != (x.hash : Int)) = false := by rw [bne_eq_false_iff_eq, h1]
        have b2 : (hh != x.hash) = false := by rw [bne_eq_false_iff_eq, h1]
        have b3 : (hh == x.hash) = true := by rw [beq_iff_eq, h1]
        obtain ⟨r1, r2⟩ := hch.out.next HKI.out HCC.out (by rw [← HHN.out, h1])
        have R1 := Lib.hid r1
        have R2 : Hid (RegS S2 w.heap.size rb (l.take (k + 1)) w2) := by rw [← r2]; exact HR2.out
        clear h1 r1 r2
        go_wp2_with fail
        go_roundw
        case rel => exact ⟨k + 1, S2, by omega, by go_num, R1.out, R2.out, HB2.out⟩
        case measure => simp [intOf]; omega
      · have b1 : ((hh : Int) != (x.hash : Int)) = true := by rw [bne_iff_ne]; omega
        have b2 : (hh != x.hash) = true := by rw [bne_iff_ne]; exact h1
        have b3 : (hh == x.hash) = false := by rw [beq_eq_false_iff_ne]; exact h1
        have HE : Hid (checkL l = 16) := hch.out.sum HKI.out HCC.out (by rw [← HHN.out]; exact h1)
        clear h1
        go_wp2_with fail
        go_ret
        exact ret_e rfl HE.out HB2.out
    · obtain rfl : k = l.length := by omega
      have HE := Lib.hid hch.out.done
      go_wp2_with fail
      go_ret
      exact ret_e rfl HE.out hbw.out
end Go.Proofs.YtjbegegjpepkjaaDoor
