/- Contracts: Check of the reference; great; alive. -/
import Derived.Test.YtjbegegjpepkjaaDoorTraO
namespace Go.Proofs.YtjbegegjpepkjaaDoor
open Go.RowKit Go.Maps

set_option maxHeartbeats 2000000 in
set_option maxRecDepth 100000 in
theorem rCheck_any (v : Value) (l : List Lnk) (w : World) (h : SK w v l) (hl : l.length ≤ 4096) (hs : Sized l) :
    Calls Tryd.prog 20 #[v] w (Ret w (.int .i64 (checkL l))) := by
  have HS := Lib.hid hs
  obtain ⟨a, cap, rfl, n1, n2, n3⟩ := h
  have N3 := Lib.hid n3
  unfold maxLen at n2
  clear hs n3
  go_enter Tryd.func20, Tryd.ntmps20
  go_wp2_with fail
  go_loopw [3, 4] (fun o i wr => ∃ (k : Nat), k ≤ l.length ∧ i = .int .i64 k ∧ Hid (ChkAt l k) ∧ Hid (SK wr o (l.take k)) ∧ Hid (o = .slice none 0 0 ∨ ∃ ad n c, o = .slice (some ad) n c) ∧ Hid (Below w.heap.size w wr)) (fun _ i _ => l.length - (intOf i).toNat)
  case atStart => exact ⟨0, Nat.zero_le _, rfl, ChkAt.start l, by show SK _ _ _; rw [List.take_zero]; exact SK_nil _, .inl rfl, Below.refl _ _⟩
  case round =>
    obtain ⟨k, hk, rfl, hch, hown, hnil, hbw⟩ := hrel
    by_cases hlt : k < l.length
    · obtain ⟨b, off, ha, hc0⟩ := N3.out k hlt
      have hc := hc0.keep hbw.out
      subst ha
      have hki : l[k]? = some (ki l k) := by rw [ki_lt hlt]; exact List.getElem?_eq_getElem hlt
      generalize ki l k = x at *
      have HKI := Lib.hid hki
      obtain ⟨z1, z2, z3, z4⟩ := HS.out x (List.mem_of_getElem? hki)
      have c0 := hc.c0
      have c1 := hc.c1
      have c2 := hc.c2
      have c3 := hc.c3
      have c4 := hc.c4
      have hbl : b < wr.heap.size := World.block_lt_of_cell? wr _ c0
      have hws := hbw.out.size
      have HBX : Hid (Below w.heap.size w (wr.alloc (.cells #[.string (bs x.item), .string (bs x.frm), .string (bs x.heat), .int .i64 x.tm, .int .u64 x.hash] 29))) := hbw.out.alloc hws _
      have hrx := hown.out.keep ((Below.refl _ wr).alloc (Nat.le_refl _) (.cells #[.string (bs x.item), .string (bs x.frm), .string (bs x.heat), .int .i64 x.tm, .int .u64 x.hash] 29))
      have hadd := rAdd_any u3 (l.take k) (bs x.item) (bs x.frm) (bs x.heat) x.tm _ hrx hnil.out hch.out.1.prop (by rw [List.length_take]; omega) (fun y hy => (HS.out y (List.mem_of_mem_take hy)).2.2.2) (by rw [bs_size]; omega) (by rw [bs_size]; omega) (by rw [bs_size]; omega)
      rw [bs_list, bs_list, bs_list] at hadd
      have hlk := LkB.new wr x
      have HADD := Lib.hid hadd
      have HLK := Lib.hid hlk
      obtain ⟨c, hcc⟩ : ∃ c, addE (l.take k) x.item x.frm x.heat x.tm = c := ⟨_, rfl⟩
      obtain ⟨hh, hhh⟩ : ∃ hh, addH (l.take k) x.item x.frm x.heat x.tm = hh := ⟨_, rfl⟩
      have HCC := Lib.hid hcc
      have HHH := Lib.hid hhh
      obtain ⟨oa, on, oc, eo⟩ : ∃ a n c, u3 = .slice a n c := by obtain ⟨a, c, e, _⟩ := hown.out; exact ⟨_, _, _, e⟩
      subst eo
      clear hadd hrx hlk hki hc hc0 hcc hhh
      go_wp2_with fail
      refine HADD.out.mono ?_
      rintro e w2 ⟨v2, rfl, hs2, ho2, hb2⟩
      rw [HCC.out, HHH.out]
      have HB2 : Hid (Below w.heap.size w w2) := HBX.out.trans (hb2.mono HBX.out.size)
      have hlk2 := HLK.out.keep hb2
      obtain ⟨_, _, _, _, d4⟩ := hlk2.at
      have hx2 : wr.heap.size < w2.heap.size := hlk2.lt
      have HN2 : Hid (v2 = .slice none 0 0 ∨ ∃ ad n c, v2 = .slice (some ad) n c) := by
        rcases ho2 with e | e
        · rw [e]; exact hnil.out
        · rcases e.2 with ⟨e, _⟩ | ⟨_, _, _, e, _⟩
          · exact .inl e
          · exact .inr ⟨_, _, _, e⟩
      have HS2 := Lib.hid hs2
      obtain ⟨oa2, on2, oc2, eo2⟩ : ∃ a n c, v2 = .slice a n c := by obtain ⟨a, c, e, _⟩ := hs2; exact ⟨_, _, _, e⟩
      subst eo2
      clear hs2 ho2 hb2 hlk2 HADD HLK c0 c1 c2 c3 c4
      by_cases h0 : c ≠ 0
      · have b1 : (c != 0) = true := by rw [bne_iff_ne]; exact h0
        have b2 : (c == 0) = false := by rw [beq_eq_false_iff_ne]; exact h0
        have HE : Hid (checkL l = c) := by show _ = _; rw [hch.out.err HKI.out (by rw [HCC.out]; exact h0), HCC.out]
        clear h0
        go_wp2_with fail
        go_ret
        exact ret_e rfl HE.out HB2.out
      obtain rfl : c = 0 := Classical.not_not.1 h0
      have HHN : Hid (hh = (newL (l.take k) x.item x.frm x.heat x.tm).hash) := by show _ = _; rw [← HHH.out]; unfold addH; rw [if_pos HCC.out]
      clear h0
      by_cases h1 : hh = x.hash
      · have b1 : ((hh : Int) != (x.hash : Int)) = false := by rw [bne_eq_false_iff_eq, h1]
        have b2 : (hh != x.hash) = false := by rw [bne_eq_false_iff_eq, h1]
        have b3 : (hh == x.hash) = true := by rw [beq_iff_eq, h1]
        obtain ⟨r1, r2⟩ := hch.out.next HKI.out HCC.out (by rw [← HHN.out, h1])
        have R1 := Lib.hid r1
        have R2 : Hid (SK w2 (.slice oa2 on2 oc2) (l.take (k + 1))) := by rw [← r2]; exact HS2.out
        clear h1 r1 r2
        go_wp2_with fail
        go_roundw
        case rel => exact ⟨k + 1, by omega, by go_num, R1.out, R2.out, HN2.out, HB2.out⟩
        case measure => simp [intOf]; omega
      · have b1 : ((hh : Int) != (x.hash : Int)) = true := by rw [bne_iff_ne]; omega
        have b2 : (hh != x.hash) = true := by rw [bne_iff_ne]; exact h1
        have b3 : (hh == x.hash) = false := by rw [beq_eq_false_iff_ne]; exact h1
        have HE : Hid (checkL l = 16) := hch.out.sum HKI.out HCC.out (by rw [← HHN.out]; exact h1)
        clear h1
        go_wp2_with fail
        go_ret
        exact ret_e rfl HE.out HB2.out
    · obtain rfl : k = l.length := by omega
      have HE := Lib.hid hch.out.done
      go_wp2_with fail
      go_ret
      exact ret_e rfl HE.out hbw.out

/-! great -/
def bigK (x : Lnk) : Bool := decide (200 < x.item.length) || decide (200 < x.frm.length) || decide (200 < x.heat.length)
def greatB (l : List Lnk) : Bool := decide (40 < l.length) || l.any bigK
theorem greatB_not {l : List Lnk} (h : greatB l = false) : l.length ≤ 40 ∧ ∀ x ∈ l, x.item.length ≤ 200 ∧ x.frm.length ≤ 200 ∧ x.heat.length ≤ 200 := by
  unfold greatB at h
  simp only [Bool.or_eq_false_iff, decide_eq_false_iff_not, List.any_eq_false] at h
  refine ⟨by omega, fun x hx => ?_⟩
  have := h.2 x hx
  unfold bigK at this
  simp only [Bool.or_eq_true, decide_eq_true_eq, not_or] at this
  omega
set_option maxHeartbeats 2000000 in
set_option maxRecDepth 100000 in
theorem great_any (v : Value) (l : List Lnk) (w : World) (h : SK w v l) (hz : ∀ x ∈ l, x.item.length ≤ maxLen ∧ x.frm.length ≤ maxLen ∧ x.heat.length ≤ maxLen) :
    Calls Tryd.prog 9 #[v] w fun e w' => e = .returned (.bool (greatB l)) ∧ w = w' := by
  have HZ := Lib.hid hz
  obtain ⟨a, cap, rfl, n1, n2, n3⟩ := h
  have N3 := Lib.hid n3
  unfold maxLen at n2
  clear n3 hz
  by_cases h40 : 40 < l.length
  · have b1 : decide ((40 : Int) < l.length) = true := by rw [decide_eq_true_eq]; omega
    have b2 : decide (40 < l.length) = true := by rw [decide_eq_true_eq]; omega
    have HR : Hid (greatB l = true) := by show _ = _; unfold greatB; rw [b2]; rfl
    go_enter Tryd.func9, Tryd.ntmps9
    go_wp2_with fail
    go_ret
    exact ⟨ret_bool HR.out.symm, rfl⟩
  have b1 : decide ((40 : Int) < l.length) = false := by rw [decide_eq_false_iff_not]; omega
  have b2 : decide (40 < l.length) = false := by rw [decide_eq_false_iff_not]; omega
  have H40 := Lib.hid b2
  go_enter Tryd.func9, Tryd.ntmps9
  go_wp2_with fail
  go_loop [3] (fun i => ∃ k : Nat, k ≤ l.length ∧ i = .int .i64 k ∧ Hid (∀ j, j < k → bigK (ki l j) = false)) (fun i => l.length - (intOf i).toNat)
  case atStart => exact ⟨0, Nat.zero_le _, rfl, fun j hj => by omega⟩
  case round =>
    obtain ⟨k, hk, rfl, hj⟩ := hrel
    by_cases hlt : k < l.length
    · obtain ⟨b, off, ha, hc⟩ := N3.out k hlt
      subst ha
      have HYES : Hid (bigK (ki l k) = false → ∀ j, j < k + 1 → bigK (ki l j) = false) := fun h => upto hj.out h
      have HNO : Hid (bigK (ki l k) = true → greatB l = true) := fun h => by
        unfold greatB
        rw [show l.any bigK = true from List.any_eq_true.2 ⟨_, by rw [ki_lt hlt]; exact List.getElem_mem hlt, h⟩]; simp
      obtain ⟨z1, z2, z3⟩ := HZ.out (ki l k) (by rw [ki_lt hlt]; exact List.getElem_mem hlt)
      generalize ki l k = x at *
      have c0 := hc.c0
      have c1 := hc.c1
      have c2 := hc.c2
      have s0 := bs_size x.item
      have s1 := bs_size x.frm
      have s2 := bs_size x.heat
      have HBK : Hid (bigK x = (decide (200 < x.item.length) || decide (200 < x.frm.length) || decide (200 < x.heat.length))) := rfl
      have e1 : (bs x.item).size ≤ 9223372036854775807 := by unfold maxLen at z1; omega
      have e2 : (bs x.frm).size ≤ 9223372036854775807 := by unfold maxLen at z2; omega
      have e3 : (bs x.heat).size ≤ 9223372036854775807 := by unfold maxLen at z3; omega
      clear hc hj z1 z2 z3
      by_cases g1 : 200 < x.item.length
      · have d1 : decide ((200 : Int) < (bs x.item).size) = true := by rw [decide_eq_true_eq]; omega
        have HR := Lib.hid (HNO.out (by rw [HBK.out, show decide (200 < x.item.length) = true by simpa using g1]; rfl))
        clear s0 s1 s2
        go_wp2_with fail
        go_ret
        exact ⟨ret_bool HR.out.symm, rfl⟩
      have d1 : decide ((200 : Int) < (bs x.item).size) = false := by rw [decide_eq_false_iff_not]; omega
      by_cases g2 : 200 < x.frm.length
      · have d2 : decide ((200 : Int) < (bs x.frm).size) = true := by rw [decide_eq_true_eq]; omega
        have HR := Lib.hid (HNO.out (by rw [HBK.out, show decide (200 < x.frm.length) = true by simpa using g2]; simp))
        clear s0 s1 s2
        go_wp2_with fail
        go_ret
        exact ⟨ret_bool HR.out.symm, rfl⟩
      have d2 : decide ((200 : Int) < (bs x.frm).size) = false := by rw [decide_eq_false_iff_not]; omega
      by_cases g3 : 200 < x.heat.length
      · have d3 : decide ((200 : Int) < (bs x.heat).size) = true := by rw [decide_eq_true_eq]; omega
        have HR := Lib.hid (HNO.out (by rw [HBK.out, show decide (200 < x.heat.length) = true by simpa using g3]; simp))
        clear s0 s1 s2
        go_wp2_with fail
        go_ret
        exact ⟨ret_bool HR.out.symm, rfl⟩
      have d3 : decide ((200 : Int) < (bs x.heat).size) = false := by rw [decide_eq_false_iff_not]; omega
      have HR := Lib.hid (HYES.out (by rw [HBK.out]; simp only [Bool.or_eq_false_iff, decide_eq_false_iff_not]; omega))
      clear s0 s1 s2 g1 g2 g3
      go_wp2_with fail
      go_round
      case rel => exact ⟨k + 1, by omega, by go_num, HR.out⟩
      case measure => simp [intOf]; omega
    · have HR : Hid (greatB l = false) := by
        show _ = _
        unfold greatB
        rw [H40.out, Bool.false_or, List.any_eq_false]
        intro x hx
        obtain ⟨j, hjl, e⟩ := List.mem_iff_getElem.1 hx
        have := hj.out j (by omega)
        rw [ki_lt hjl, e] at this
        rw [this]; simp
      go_wp2_with fail
      go_ret
      exact ⟨ret_bool HR.out.symm, rfl⟩
end Go.Proofs.YtjbegegjpepkjaaDoor
