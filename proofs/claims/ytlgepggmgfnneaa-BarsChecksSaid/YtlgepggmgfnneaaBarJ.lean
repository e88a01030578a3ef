/- Contract: Check of the reference. -/
import Derived.Test.YtlgepggmgfnneaaBarI
import Derived.Deep.RegionHeld3
namespace Go.Proofs.Ytlgepggmgfnneaa
open Go.RowKit

theorem beqL_comm (a b : List UInt8) : (a == b) = (b == a) := by rw [Bool.eq_iff_iff, beq_iff_eq, beq_iff_eq]; exact ⟨fun h => h.symm, fun h => h.symm⟩
theorem dupB_hit {ids : List ByteArray} {k j : Nat} (hj : j < k) (hk : k < ids.length) (h : ((si ids j).toList == (si ids k).toList) = true) : dupB ids k = true := by
  rw [dupB, List.any_eq_true]
  refine ⟨si ids j, ?_, by rw [beqL_comm]; exact h⟩
  have : si (ids.take k) j = si ids j := by simp [si, List.getElem?_take, hj]
  rw [← this]; exact si_mem (by simp; omega)
theorem dupB_miss {ids : List ByteArray} {k : Nat} (h : ∀ j, j < k → ((si ids j).toList == (si ids k).toList) = false) : dupB ids k = false := by
  rw [dupB, List.any_eq_false]
  intro y hy
  obtain ⟨j, hj, rfl⟩ := mem_si hy
  have hj' : j < k := by simp at hj; omega
  have : si (ids.take k) j = si ids j := by simp [si, List.getElem?_take, hj']
  rw [this, beqL_comm, h j hj']; simp

set_option maxRecDepth 100000 in
set_option maxHeartbeats 4000000 in
theorem rCheck_any (v vp : Value) (s : SawD) (b : BarI) (ps : List PartD) (w : World) (hs : SStr w v s.parts) (hp : SP w vp ps) :
    Calls Try.prog 15 #[s.agg v, b.agg, vp] w (RetE w (chkE s b ps)) := by
  have HS := Lib.hid hs
  have HP := Lib.hid hp
  obtain ⟨a, cap, rfl, h1, h2, h3⟩ := hs
  have H3 := Lib.hid h3; clear h3
  have hm : s.parts.length ≤ 9223372036854775807 := by unfold maxLen at h2; omega
  obtain ⟨ap, capp, rfl, p1, p2, p3⟩ := hp
  have PA := Lib.hid p3; clear p3 p1 p2
  have HBX := Lib.hid (boxSB_new w s (.slice a s.parts.length cap) b)
  have HB0 := Lib.hid ((((Below.refl w.heap.size w).alloc (Nat.le_refl _) (.cells #[.string s.bar, .int .i64 s.kerf, .slice a s.parts.length cap] 24))).alloc (by simp) (.cells #[.string b.id, .string b.sec, .string b.grade, .int .i64 b.len, b.heat] 26))
  have HAG : Hid (.agg #[.string s.bar, .int .i64 s.kerf, .slice a s.parts.length cap] = s.agg (.slice a s.parts.length cap)) := rfl
  unfold SawD.agg BarI.agg
  cases hbar : s.bar.toList == b.id.toList
  · have HE0 := Lib.hid (piecesE_bar (ps := ps) hbar)
    have HE := Lib.hid (chkE_pieces (s := s) (b := b) (ps := ps) (by rw [HE0.out]; omega))
    go_enter Try.func15, Try.ntmps15
    go_wp2_with fail
    go_ret
    exact retE rfl (by rw [HE.out, HE0.out]) HB0.out
  have HBAR := Lib.hid hbar
  by_cases hk : sawnB s.kerf = true
  rotate_left
  · have HE0 := Lib.hid (piecesE_kerf (ps := ps) HBAR.out (by simpa using hk))
    have HE := Lib.hid (chkE_pieces (s := s) (b := b) (ps := ps) (by rw [HE0.out]; omega))
    have hk' : s.kerf < 0 ∨ 100 < s.kerf := by have := mt sawnB_iff.2 hk; omega
    clear hk
    by_cases h4 : s.kerf < 0
    · clear hk'
      go_enter Try.func15, Try.ntmps15
      go_wp2_with fail
      go_ret
      exact retE rfl (by rw [HE.out, HE0.out]) HB0.out
    · have h5 : 100 < s.kerf := by omega
      clear hk'
      go_enter Try.func15, Try.ntmps15
      go_wp2_with fail
      go_ret
      exact retE rfl (by rw [HE.out, HE0.out]) HB0.out
  have HK := Lib.hid hk
  have hkf := sawnB_iff.1 hk
  clear hk
  by_cases h0 : s.parts.length = 0
  · have HE0 := Lib.hid (piecesE_short (ps := ps) HBAR.out HK.out h0)
    have HE := Lib.hid (chkE_pieces (s := s) (b := b) (ps := ps) (by rw [HE0.out]; omega))
    have hb : ((s.parts.length : Int) == 0) = true := by rw [beq_iff_eq]; omega
    clear h0
    go_enter Try.func15, Try.ntmps15
    go_wp2_with fail
    go_ret
    exact retE rfl (by rw [HE.out, HE0.out]) HB0.out
  have hb0 : ((s.parts.length : Int) == 0) = false := by rw [beq_eq_false_iff_ne]; omega
  by_cases hL : 24 < s.parts.length
  · have HE0 := Lib.hid (piecesE_long (ps := ps) HBAR.out HK.out h0 hL)
    have HE := Lib.hid (chkE_pieces (s := s) (b := b) (ps := ps) (by rw [HE0.out]; omega))
    have hb : decide (24 < (s.parts.length : Int)) = true := by rw [decide_eq_true_eq]; omega
    clear h0
    go_enter Try.func15, Try.ntmps15
    go_wp2_with fail
    go_ret
    exact retE rfl (by rw [HE.out, HE0.out]) HB0.out
  have hL0 : decide (24 < (s.parts.length : Int)) = false := by rw [decide_eq_false_iff_not]; omega
  have HREST := Lib.hid (piecesE_rest (ps := ps) HBAR.out HK.out h0 hL)
  have HHIT : Hid (∀ k e, (∀ j, j < k → pieceE b ps s.parts j = 0) → pieceE b ps s.parts k = e → e ≠ 0 → k < s.parts.length → e = chkE s b ps) := fun k e g1 g2 g3 g4 => by
    have := firstE_hit g1 g2 g3 g4
    rw [← HREST.out] at this
    rw [chkE_pieces (by rw [this]; exact g3), this]
  clear h0
  go_enter Try.func15, Try.ntmps15
  go_wp2_with fail
  generalize (w.alloc (.cells #[.string s.bar, .int .i64 s.kerf, .slice a s.parts.length cap] 24)).alloc (.cells #[.string b.id, .string b.sec, .string b.grade, .int .i64 b.len, b.heat] 26) = w0 at *
  clear hbar hL0 hb0
  go_loopw [7] (fun i wr => ∃ k : Nat, k ≤ s.parts.length ∧ i = .int .i64 k ∧ Hid (Below w0.heap.size w0 wr) ∧ Hid (∀ j, j < k → pieceE b ps s.parts j = 0)) (fun i _ => s.parts.length - (intOf i).toNat)
  case atStart => exact ⟨0, Nat.zero_le _, rfl, Below.refl _ _, fun j hj => by omega⟩
  case round =>
    obtain ⟨wo, rfl⟩ : ∃ wo : World, wo = wr := ⟨_, rfl⟩
    obtain ⟨k, hk, rfl, hbw, hj⟩ := hrel
    have HBW := Lib.hid (HB0.out.trans (hbw.out.mono HB0.out.size))
    have HBR := Lib.hid (HBX.out.keep hbw.out)
    have c2 := HBR.out.s2
    by_cases hlt : k < s.parts.length
    · obtain ⟨b1, o1, ha, hc⟩ := H3.out k hlt
      have cs := cell_keep HBW.out hc
      generalize hid : si s.parts k = id at *
      have HID := Lib.hid hid
      clear hc hid
      rw [ha] at c2 ⊢
      have HSA := Lib.hid ha
      clear ha
      go_wp2_with fail
      refine (find_any _ ps id _ (HP.out.keep HBW.out)).mono ?_
      rintro e w1 ⟨hb1, hr⟩
      have HB1 := Lib.hid hb1
      clear hb1 cs c2
      rcases hr with ⟨hix, rfl⟩ | ⟨t, ht, htl, rfl⟩
      · have HE := Lib.hid (HHIT.out k 8 hj.out (pieceE_none (by rw [HID.out, hix]; omega)) (by omega) hlt)
        have HNEW := Lib.hid (heap_alloc_new w1 (.cells #[.string ⟨#[]⟩, .int .i64 0, .int .i64 0, .string ⟨#[]⟩, .string ⟨#[]⟩, .int .i64 0, .slice none 0 0, .slice none 0 0, .string ⟨#[]⟩, .int .i64 0, .int .i64 0, .int .i64 0, .int .i64 0, .int .i64 0, .int .i64 0, .int .i64 0, .int .i64 0, .int .i64 0] 58))
        have HBP := Lib.hid (boxed_part w1 zeroPart)
        have HONE : Hid (zeroPart.arr.all (·.oneCell') = true) := by show _ = true; simp [zero_arr, Value.oneCell']
        generalize zeroPart = x at *
        clear hix
        unfold PartD.agg
        go_wp2_with (refine wpList_store_row (o := ⟨none, .store _ _ _, _, _, _, _⟩) rfl 58 (.tmp 8) (.tmp 47) rfl w1.heap.size x.arr rfl rfl 58 _ HNEW.out part_info rfl HONE.out ?_)
        go_ret
        exact retE rfl HE.out (HBW.out.trans ((HB1.out.trans (HBP.out.1.mono HB1.out.size)).mono HBW.out.size))
      have HNN : Hid (0 ≤ idxOf ps id) := by show 0 ≤ _; rw [ht]; omega
      have HPT : Hid (partOf ps id = pi ps t) := by show _ = _; rw [partOf, ht]; rfl
      have HONE := Lib.hid (PA.out t htl).1
      clear ht
      generalize pi ps t = x at *
      have HBP := Lib.hid (boxed_part w1 x)
      have HNEW := Lib.hid (heap_alloc_new w1 (.cells #[.string ⟨#[]⟩, .int .i64 0, .int .i64 0, .string ⟨#[]⟩, .string ⟨#[]⟩, .int .i64 0, .slice none 0 0, .slice none 0 0, .string ⟨#[]⟩, .int .i64 0, .int .i64 0, .int .i64 0, .int .i64 0, .int .i64 0, .int .i64 0, .int .i64 0, .int .i64 0, .int .i64 0] 58))
      have HBQ := Lib.hid (HB1.out.trans (HBP.out.1.mono HB1.out.size))
      unfold PartD.agg
      go_wp2_with (refine wpList_store_row (o := ⟨none, .store _ _ _, _, _, _, _⟩) rfl 58 (.tmp 8) (.tmp 47) rfl w1.heap.size x.arr rfl rfl 58 _ HNEW.out part_info rfl HONE.out ?_)
      have HPC := Lib.hid HBP.out.2
      clear HNEW HBP HB1
      generalize (w1.alloc (.cells #[.string ⟨#[]⟩, .int .i64 0, .int .i64 0, .string ⟨#[]⟩, .string ⟨#[]⟩, .int .i64 0, .slice none 0 0, .slice none 0 0, .string ⟨#[]⟩, .int .i64 0, .int .i64 0, .int .i64 0, .int .i64 0, .int .i64 0, .int .i64 0, .int .i64 0, .int .i64 0, .int .i64 0] 58)).setRow w1.heap.size x.arr = w2 at *
      have HBR2 := Lib.hid (HBR.out.keep HBQ.out)
      go_loopw [10] (fun i wr => ∃ n : Nat, n ≤ k ∧ i = .int .i64 n ∧ Hid (∃ m, wr = w2.drewN m) ∧ Hid (∀ j, j < n → ((si s.parts j).toList == id.toList) = false)) (fun i _ => k - (intOf i).toNat)
      case atStart => exact ⟨0, Nat.zero_le _, rfl, ⟨0, rfl⟩, fun j hj => by omega⟩
      case round =>
        obtain ⟨n, hn, rfl, hw, hjn⟩ := hrel
        obtain ⟨nd, rfl⟩ := hw.out
        clear hw
        by_cases hlt2 : n < k
        · obtain ⟨b1', o1', ha, hc⟩ := H3.out n (by omega)
          rw [HSA.out] at ha
          simp at ha
          obtain ⟨rfl, rfl⟩ := ha
          have cn := cell_keep HBQ.out (cell_keep HBW.out hc)
          obtain ⟨b1', o1', ha, hck⟩ := H3.out k hlt
          rw [HSA.out] at ha
          simp at ha
          obtain ⟨rfl, rfl⟩ := ha
          have ck := cell_keep HBQ.out (cell_keep HBW.out hck)
          rw [HID.out] at ck
          have c2 := HBR2.out.s2
          rw [HSA.out] at c2
          generalize hidn : si s.parts n = idn at *
          have HIDN := Lib.hid hidn
          clear hidn hc hck
          have hnl : (n : Int) < (s.parts.length : Int) := by omega
          have hkl : (k : Int) < (s.parts.length : Int) := by omega
          cases hx : idn.toList == id.toList
          · have HJ := Lib.hid (upto hjn.out (by rw [HIDN.out]; exact hx))
            go_wp2_with fail
            go_quiet (fail)
            go_wp2_with fail
            go_roundw
            case rel => exact ⟨n + 1, by omega, by go_num, by first | exact ⟨_, rfl⟩ | exact dn2 _ _ _, HJ⟩
            case measure => simp [intOf]; omega
          · have HE := Lib.hid (HHIT.out k 7 hj.out (pieceE_dup (by rw [HID.out]; have := HNN.out; omega) (dupB_hit hlt2 hlt (by rw [HIDN.out, HID.out]; exact hx))) (by omega) hlt)
            go_wp2_with fail
            go_quiet (fail)
            go_wp2_with fail
            go_ret
            exact retE rfl HE.out (by first | exact below_drewN' (below_drewN' (HBW.out.trans (HBQ.out.mono HBW.out.size)) _) _ | exact below_drewN' (HBW.out.trans (HBQ.out.mono HBW.out.size)) _)
        · have HDD := Lib.hid (dupB_miss (ids := s.parts) (k := k) (fun j h => by rw [HID.out]; exact hjn.out j (by omega)))
          clear hjn
          have HBZ := Lib.hid (HBW.out.trans (HBQ.out.mono HBW.out.size))
          have q2 : w2.cell? ⟨w1.heap.size, 2, none⟩ = some (.int .i64 x.kind) := HPC.out 2 (by omega)
          have q4 : w2.cell? ⟨w1.heap.size, 4, none⟩ = some (.string x.grade) := HPC.out 4 (by omega)
          have q8 : w2.cell? ⟨w1.heap.size, 8, none⟩ = some (.string x.sec) := HPC.out 8 (by omega)
          have q9 : w2.cell? ⟨w1.heap.size, 9, none⟩ = some (.int .i64 x.len) := HPC.out 9 (by omega)
          have r1 := HBR2.out.b1
          have r2 := HBR2.out.b2
          by_cases hk2 : x.kind ≠ 2 ∧ x.kind ≠ 3
          · have HE := Lib.hid (HHIT.out k 10 hj.out (pieceE_kind (by rw [HID.out]; have := HNN.out; omega) HDD.out (by rw [HID.out, HPT.out]; exact hk2)) (by omega) hlt)
            have k1 : (x.kind != 2) = true := by rw [bne_iff_ne]; exact hk2.1
            have k2 : (x.kind != 3) = true := by rw [bne_iff_ne]; exact hk2.2
            clear hk2
            go_wp2_with fail
            go_ret
            exact retE rfl HE.out (below_drewN' HBZ.out _)
          have hki : (x.kind != 2) = false ∨ ((x.kind != 2) = true ∧ (x.kind != 3) = false) := by
            by_cases h : x.kind = 2
            · exact .inl (by rw [h]; rfl)
            · exact .inr ⟨by rw [bne_iff_ne]; exact h, by rw [bne_eq_false_iff_eq]; omega⟩
          have HPE := Lib.hid (pieceE_len (b := b) (ps := ps) (ids := s.parts) (k := k) (by rw [HID.out]; have := HNN.out; omega) HDD.out (by rw [HID.out, HPT.out]; exact hk2))
          have HPM := Lib.hid (pieceE_mat (b := b) (ps := ps) (ids := s.parts) (k := k) (by rw [HID.out]; have := HNN.out; omega) HDD.out (by rw [HID.out, HPT.out]; exact hk2))
          rw [HID.out, HPT.out] at HPE HPM
          clear hk2
          rcases hki with k1 | ⟨k2, k1⟩
          all_goals
            cases hse : x.sec.toList == b.sec.toList
            · have HE := Lib.hid (HHIT.out k 23 hj.out (HPM.out (.inl hse)) (by omega) hlt)
              go_wp2_with fail
              go_ret
              exact retE rfl HE.out (below_drewN' HBZ.out _)
            cases hgr : x.grade.toList == b.grade.toList
            · have HE := Lib.hid (HHIT.out k 23 hj.out (HPM.out (.inr hgr)) (by omega) hlt)
              go_wp2_with fail
              go_ret
              exact retE rfl HE.out (below_drewN' HBZ.out _)
            have HPL := HPE.out (by rw [hse, hgr]; simp)
            have HPL := Lib.hid HPL
            by_cases hsd : sideB x.len = true
            · have HJ := Lib.hid (upto hj.out (by rw [HPL.out, hsd]; simp))
              have hsd' := sideB_iff.1 hsd
              clear hsd
              go_wp2_with fail
              go_roundw
              case rel => exact ⟨k + 1, by omega, by go_num, below_drewN' (hbw.out.trans (HBQ.out.mono hbw.out.size)) _, HJ⟩
              case measure => simp [intOf]; omega
            · have HE := Lib.hid (HHIT.out k 9 hj.out (by rw [HPL.out, if_pos (by simpa using hsd)]) (by omega) hlt)
              have hsd' : x.len < 1 ∨ 32768 < x.len := by have := mt sideB_iff.2 hsd; omega
              clear hsd
              by_cases hs1 : x.len < 1
              · clear hsd'
                go_wp2_with fail
                go_ret
                exact retE rfl HE.out (below_drewN' HBZ.out _)
              · have hs2 : 32768 < x.len := by omega
                clear hsd'
                go_wp2_with fail
                go_ret
                exact retE rfl HE.out (below_drewN' HBZ.out _)
    · obtain rfl : k = s.parts.length := by omega
      have HE0 : Hid (piecesE s b ps = 0) := by show _ = _; rw [HREST.out]; exact firstE_none hj.out
      have hpz := piecesE_zero HE0.out
      have HIX : Hid (∀ j, j < s.parts.length → 0 ≤ idxOf ps (si s.parts j)) := fun j h => (pieceE_zero (hj.out j h)).1
      have hll : 0 < (lensOf ps s.parts).length ∧ (lensOf ps s.parts).length ≤ 24 := by simp only [lensOf, List.length_map]; omega
      have HNN := Lib.hid (needs_nn (l := lensOf ps s.parts) (k := s.kerf) hll.1 (by omega) hpz.2.2.2.1 hpz.1)
      have HCE := Lib.hid (chkE_ok HE0.out)
      rw [HNN.out.1] at HCE
      have HLEN : Hid (∀ wz, Below wo.heap.size wo wz → Calls Try.prog 28 #[.agg #[.string s.bar, .int .i64 s.kerf, .slice a s.parts.length cap], .slice ap ps.length capp] wz fun e w' => ∃ v, e = .returned v ∧ SI w' v (lensOf ps s.parts) ∧ Below wo.heap.size wo w') := fun wz hz => by
        rw [HAG.out]
        exact (lengths_any _ _ s ps wz (HS.out.keep (HBW.out.trans (hz.mono HBW.out.size))) (HP.out.keep (HBW.out.trans (hz.mono HBW.out.size))) (by omega) HIX.out).mono fun e w' ⟨v, g1, g2, g3⟩ => ⟨v, g1, g2, ext_trans hz g3⟩
      have HNEED : Hid (∀ v wz, SI wz v (lensOf ps s.parts) → Below wo.heap.size wo wz → Calls Try.prog 27 #[v, .int .i64 s.kerf] wz fun e w' => e = .returned (.int .i64 (needs (lensOf ps s.parts) s.kerf)) ∧ Below wo.heap.size wo w') := fun v wz h1 h2 =>
        (rneeds_any v _ s.kerf wz h1 hll.1 (by omega) hpz.2.2.2.1 hpz.1).mono fun e w' ⟨g1, m, g2⟩ => ⟨g1, by rw [g2]; exact below_drewN' h2 _⟩
      have s0 := HBR.out.s0
      have s1 := HBR.out.s1
      have d3 := HBR.out.b3
      clear hpz hll hj
      generalize hnv : needs (lensOf ps s.parts) s.kerf = n at *
      clear hnv
      by_cases hlt2 : b.len < n
      · have hnb : decide (b.len < n) = true := by rw [decide_eq_true_eq]; exact hlt2
        rw [if_pos hlt2] at HCE
        clear hlt2
        go_wp2_with fail
        go_region_held3 (fun w' => w'.cell? ⟨w.heap.size, 0, none⟩ = some (.string s.bar) ∧ w'.cell? ⟨w.heap.size, 1, none⟩ = some (.int .i64 s.kerf) ∧ w'.cell? ⟨w.heap.size, 2, none⟩ = some (.slice a s.parts.length cap) ∧ w'.cell? ⟨w.heap.size + 1, 3, none⟩ = some (.int .i64 b.len))
          (first | exact ⟨s0, s1, c2, d3⟩ | exact ⟨cell_keep hby s0, cell_keep hby s1, cell_keep hby c2, cell_keep hby d3⟩ | exact ⟨cell_keep hbz s0, cell_keep hbz s1, cell_keep hbz c2, cell_keep hbz d3⟩)
          (first
            | (go_at_call 28; refine (HLEN.out _ (by first | exact Below.refl _ _ | exact below_drewN' (Below.refl _ _) _)).mono ?_; rintro e wy ⟨vy, rfl, hsy, hby⟩)
            | (go_at_call 27; refine (HNEED.out _ _ hsy hby).mono ?_; rintro e wz ⟨rfl, hbz⟩))
        go_wp2_with fail
        go_ret
        exact retE rfl HCE.out.symm (HBW.out.trans (hbz.mono HBW.out.size))
      · have hnb : decide (b.len < n) = false := by rw [decide_eq_false_iff_not]; exact hlt2
        rw [if_neg hlt2] at HCE
        clear hlt2
        go_wp2_with fail
        go_region_held3 (fun w' => w'.cell? ⟨w.heap.size, 0, none⟩ = some (.string s.bar) ∧ w'.cell? ⟨w.heap.size, 1, none⟩ = some (.int .i64 s.kerf) ∧ w'.cell? ⟨w.heap.size, 2, none⟩ = some (.slice a s.parts.length cap) ∧ w'.cell? ⟨w.heap.size + 1, 3, none⟩ = some (.int .i64 b.len))
          (first | exact ⟨s0, s1, c2, d3⟩ | exact ⟨cell_keep hby s0, cell_keep hby s1, cell_keep hby c2, cell_keep hby d3⟩ | exact ⟨cell_keep hbz s0, cell_keep hbz s1, cell_keep hbz c2, cell_keep hbz d3⟩)
          (first
            | (go_at_call 28; refine (HLEN.out _ (by first | exact Below.refl _ _ | exact below_drewN' (Below.refl _ _) _)).mono ?_; rintro e wy ⟨vy, rfl, hsy, hby⟩)
            | (go_at_call 27; refine (HNEED.out _ _ hsy hby).mono ?_; rintro e wz ⟨rfl, hbz⟩))
        go_wp2_with fail
        go_ret
        exact retE rfl HCE.out.symm (HBW.out.trans (hbz.mono HBW.out.size))
end Go.Proofs.Ytlgepggmgfnneaa
