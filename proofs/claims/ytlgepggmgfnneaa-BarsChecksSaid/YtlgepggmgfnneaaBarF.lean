/- Contract: pieces of bars. -/
import Derived.Test.YtlgepggmgfnneaaBarE
import Derived.Laws.EntriesVeiled
namespace Go.Proofs.Ytlgepggmgfnneaa
open Go.RowKit

theorem fnPt_pieces1 (X : Nat) (id : ByteArray) (w : World) (hc : w.cell? ⟨X, 0, none⟩ = some (.string id)) : FnPt (.func (.func 45) #[] #[.pointer (some ⟨X, 0, none⟩)]) w fun p => p.id.toList == id.toList :=
  ⟨_, _, rfl, fun _ _ => rfl, fun x w' hb => pieces1_any x X id w' (cell_keep hb hc)⟩

/-- what the boxes of the two structs hold -/
structure BoxSB (w : World) (X : Nat) (s : SawD) (v : Value) (b : BarI) : Prop where
  s0 : w.cell? ⟨X, 0, none⟩ = some (.string s.bar)
  s1 : w.cell? ⟨X, 1, none⟩ = some (.int .i64 s.kerf)
  s2 : w.cell? ⟨X, 2, none⟩ = some v
  b0 : w.cell? ⟨X + 1, 0, none⟩ = some (.string b.id)
  b1 : w.cell? ⟨X + 1, 1, none⟩ = some (.string b.sec)
  b2 : w.cell? ⟨X + 1, 2, none⟩ = some (.string b.grade)
  b3 : w.cell? ⟨X + 1, 3, none⟩ = some (.int .i64 b.len)
  b4 : w.cell? ⟨X + 1, 4, none⟩ = some b.heat
theorem BoxSB.keep {w w' : World} {X : Nat} {s : SawD} {v : Value} {b : BarI} (h : BoxSB w X s v b) (hb : Below w.heap.size w w') : BoxSB w' X s v b :=
  ⟨cell_keep hb h.s0, cell_keep hb h.s1, cell_keep hb h.s2, cell_keep hb h.b0, cell_keep hb h.b1, cell_keep hb h.b2, cell_keep hb h.b3, cell_keep hb h.b4⟩
theorem boxSB_new (w : World) (s : SawD) (v : Value) (b : BarI) : BoxSB ((w.alloc (.cells #[.string s.bar, .int .i64 s.kerf, v] 24)).alloc (.cells #[.string b.id, .string b.sec, .string b.grade, .int .i64 b.len, b.heat] 26)) w.heap.size s v b := by
  constructor <;> simp

set_option maxRecDepth 100000 in
set_option maxHeartbeats 2000000 in
theorem pieces_any (v vp : Value) (s : SawD) (b : BarI) (ps : List PartD) (w : World) (hs : SStr w v s.parts) (hp : SP w vp ps) :
    Calls Try.prog 26 #[s.agg v, b.agg, vp] w (RetIE w (piecesL s b ps) (piecesE s b ps)) := by
  have HS := Lib.hid hs
  have HP := Lib.hid hp
  obtain ⟨a, cap, rfl, h1, h2, h3⟩ := hs
  have H3 := Lib.hid h3; clear h3
  have hm : s.parts.length ≤ 9223372036854775807 := by unfold maxLen at h2; omega
  have HBX := Lib.hid (boxSB_new w s (.slice a s.parts.length cap) b)
  have HB0 := Lib.hid ((((Below.refl w.heap.size w).alloc (Nat.le_refl _) (.cells #[.string s.bar, .int .i64 s.kerf, .slice a s.parts.length cap] 24))).alloc (by simp) (.cells #[.string b.id, .string b.sec, .string b.grade, .int .i64 b.len, b.heat] 26))
  unfold SawD.agg BarI.agg
  cases hbar : s.bar.toList == b.id.toList
  · have HE := Lib.hid (piecesE_bar (ps := ps) hbar)
    have HL := Lib.hid (piecesL_bad (s := s) (b := b) (ps := ps) (by rw [HE.out]; omega))
    go_enter Try.func26, Try.ntmps26
    go_wp2_with fail
    go_ret2
    exact retIE rfl HE.out.symm (SI_nil _) HL.out.symm HB0.out
  have HBAR := Lib.hid hbar
  go_enter Try.func26, Try.ntmps26
  go_wp2_with fail
  refine (sawn_any s.kerf _).mono ?_
  rintro e w1 ⟨rfl, m, rfl⟩
  cases hk : sawnB s.kerf
  · have HE := Lib.hid (piecesE_kerf (ps := ps) HBAR.out hk)
    have HL := Lib.hid (piecesL_bad (s := s) (b := b) (ps := ps) (by rw [HE.out]; omega))
    clear hk hbar
    go_wp2_with fail
    go_ret2
    exact retIE rfl HE.out.symm (SI_nil _) HL.out.symm (below_drewN' HB0.out _)
  have HK := Lib.hid hk
  clear hk
  by_cases h0 : s.parts.length = 0
  · have HE := Lib.hid (piecesE_short (ps := ps) HBAR.out HK.out h0)
    have HL := Lib.hid (piecesL_bad (s := s) (b := b) (ps := ps) (by rw [HE.out]; omega))
    have hb : ((s.parts.length : Int) == 0) = true := by rw [beq_iff_eq]; omega
    clear h0 hbar
    go_wp2_with fail
    go_ret2
    exact retIE rfl HE.out.symm (SI_nil _) HL.out.symm (below_drewN' HB0.out _)
  have hb0 : ((s.parts.length : Int) == 0) = false := by rw [beq_eq_false_iff_ne]; omega
  by_cases hL : 24 < s.parts.length
  · have HE := Lib.hid (piecesE_long (ps := ps) HBAR.out HK.out h0 hL)
    have HL := Lib.hid (piecesL_bad (s := s) (b := b) (ps := ps) (by rw [HE.out]; omega))
    have hb : decide (24 < (s.parts.length : Int)) = true := by rw [decide_eq_true_eq]; omega
    clear h0 hbar
    go_wp2_with fail
    go_ret2
    exact retIE rfl HE.out.symm (SI_nil _) HL.out.symm (below_drewN' HB0.out _)
  have hL0 : decide (24 < (s.parts.length : Int)) = false := by rw [decide_eq_false_iff_not]; omega
  have HREST := Lib.hid (piecesE_rest (ps := ps) HBAR.out HK.out h0 hL)
  clear h0 hbar
  go_wp2_with fail
  have HBX := Lib.hid (HBX.out.keep (below_drewN' (Below.refl _ _) m))
  have HB0 := Lib.hid (below_drewN' HB0.out m)
  have hX : w.heap.size + 2 ≤ (((w.alloc (.cells #[.string s.bar, .int .i64 s.kerf, .slice a s.parts.length cap] 24)).alloc (.cells #[.string b.id, .string b.sec, .string b.grade, .int .i64 b.len, b.heat] 26)).drewN m).heap.size := by simp
  generalize ((w.alloc (.cells #[.string s.bar, .int .i64 s.kerf, .slice a s.parts.length cap] 24)).alloc (.cells #[.string b.id, .string b.sec, .string b.grade, .int .i64 b.len, b.heat] 26)).drewN m = w2 at *
  go_loopw [8, 36] (fun o i wr => ∃ k : Nat, k ≤ s.parts.length ∧ i = .int .i64 k ∧ Hid (Below w2.heap.size w2 wr) ∧ Hid (OwnI wr w2.heap.size o (lensOf ps (s.parts.take k))) ∧ Hid (∀ j, j < k → pieceE b ps s.parts j = 0)) (fun _ i _ => s.parts.length - (intOf i).toNat)
  case atStart => exact ⟨0, Nat.zero_le _, rfl, Below.refl _ _, OwnI_nil _ _, fun j hj => by omega⟩
  case round =>
    obtain ⟨k, hk, rfl, hbw, how, hj⟩ := hrel
    have HBR := Lib.hid (HBX.out.keep hbw.out)
    have c0 := HBR.out.s2
    have HBW := Lib.hid (HB0.out.trans (hbw.out.mono HB0.out.size))
    by_cases hlt : k < s.parts.length
    · obtain ⟨b1, o1, ha, hc⟩ := H3.out k hlt
      have cs := cell_keep hbw.out (cell_keep HB0.out hc)
      generalize hid : si s.parts k = id at *
      have HID := Lib.hid hid
      clear hid hc
      rw [ha] at c0 ⊢
      clear ha
      go_wp2_with fail
      have hsz : wr.heap.size + 1 = (wr.alloc (.cells #[.string id] 9)).heap.size := by simp
      have HWA := Lib.hid ((Below.refl wr.heap.size wr).alloc (Nat.le_refl _) (.cells #[.string id] 9))
      have HSI : Hid ((wr.alloc (.cells #[.string id] 9)).cell? ⟨wr.heap.size, 0, none⟩ = some (.string id)) := by show _ = _; simp
      generalize wr.alloc (.cells #[.string id] 9) = wa at *
      refine (indexFunc_part _ vp (fun p => p.id.toList == id.toList) ps _ (HP.out.keep (HBW.out.trans (HWA.out.mono HBW.out.size))) (fnPt_pieces1 _ id _ HSI.out)).mono ?_
      rintro e w3 ⟨rfl, hb3⟩
      have HB3 := Lib.hid (ext_trans HWA.out hb3)
      have HSI3 := Lib.hid (cell_keep hb3 HSI.out)
      have HBW3 := Lib.hid (HBW.out.trans (HB3.out.mono HBW.out.size))
      have HBX3 := Lib.hid (HBR.out.keep HB3.out)
      have HOW3 := Lib.hid (how.out.below HB3.out)
      clear hb3 hsz c0 cs
      have hIX : findPt (fun p => p.id.toList == id.toList) ps = idxOf ps id := rfl
      rw [hIX]
      clear hIX
      rcases findPt_cases (fun p => p.id.toList == id.toList) ps with ⟨hx, _⟩ | ⟨t, hx, ht1, ht2, _⟩
      · have hx' : idxOf ps id = -1 := hx
        have HE : Hid (piecesE s b ps = 8) := by show _ = _; rw [HREST.out]; exact firstE_hit hj.out (pieceE_none (by rw [HID.out, hx']; omega)) (by omega) hlt
        have HL := Lib.hid (piecesL_bad (s := s) (b := b) (ps := ps) (by rw [HE.out]; omega))
        rw [hx']
        clear hx hx'
        go_wp2_with fail
        go_ret2
        exact retIE rfl HE.out.symm (SI_nil _) HL.out.symm HBW3.out
      have hx' : idxOf ps id = (t : Int) := hx
      have HPT : Hid (partOf ps id = pi ps t) := by show _ = _; rw [partOf, hx']; rfl
      have HNN : Hid (¬ idxOf ps id < 0) := by show ¬ _; rw [hx']; omega
      rw [hx']
      clear hx hx' ht2
      have c2 := HBX3.out.s2
      have cx := HSI3.out
      have hkc : (k : Int) ≤ cap := by omega
      cases hd : dupB s.parts k
      rotate_left
      · have HE : Hid (piecesE s b ps = 7) := by show _ = _; rw [HREST.out]; exact firstE_hit hj.out (pieceE_dup (by rw [HID.out]; have := HNN.out; omega) hd) (by omega) hlt
        have HL := Lib.hid (piecesL_bad (s := s) (b := b) (ps := ps) (by rw [HE.out]; omega))
        have HD : Hid (((s.parts.take k).any fun y => id.toList == y.toList) = true) := by rw [dupB, HID.out] at hd; exact hd
        clear hd
        go_wp2_with fail
        go_quiet ((go_at_call 46; exact Calls.quiet_of (contains_str _ id (s.parts.take k) _ (((HS.out.take k hk).keep HBW3.out).drewN _))))
        rw [HD.out]
        go_wp2_with fail
        go_ret2
        exact retIE rfl HE.out.symm (SI_nil _) HL.out.symm (below_drewN' HBW3.out _)
      have HD : Hid (((s.parts.take k).any fun y => id.toList == y.toList) = false) := by rw [dupB, HID.out] at hd; exact hd
      have HDD := Lib.hid hd
      clear hd
      obtain ⟨ap, capp, rfl, p1, p2, p3⟩ := HP.out
      obtain ⟨_, bp, op, rfl, pc⟩ := p3 t ht1
      have pc : ∀ j, j < 18 → w3.cell? ⟨bp, op + t * 18 + j, none⟩ = some ((pi ps t).cell j) := fun j hj => cell_keep HBW3.out (pc j hj)
      clear p3
      have hpm : ps.length ≤ 9223372036854775807 := by unfold maxLen at p2; omega
      have P2 := Lib.hid (pc 2 (by omega))
      have P4 := Lib.hid (pc 4 (by omega))
      have P8 := Lib.hid (pc 8 (by omega))
      have P9 := Lib.hid (pc 9 (by omega))
      clear pc
      generalize hpt : pi ps t = pt at *
      clear hpt
      have hi1 : (t : Int) < (ps.length : Int) := by omega
      have q2 : w3.cell? ⟨bp, op + t * 18 + 2, none⟩ = some (.int .i64 pt.kind) := P2.out
      go_wp2_with fail
      go_quiet ((go_at_call 46; exact Calls.quiet_of (contains_str _ id (s.parts.take k) _ (((HS.out.take k hk).keep HBW3.out).drewN _))))
      rw [HD.out]
      by_cases hk2 : pt.kind ≠ 2 ∧ pt.kind ≠ 3
      · have HE : Hid (piecesE s b ps = 10) := by show _ = _; rw [HREST.out]; exact firstE_hit hj.out (pieceE_kind (by rw [HID.out]; have := HNN.out; omega) HDD.out (by rw [HID.out, HPT.out]; exact hk2)) (by omega) hlt
        have HL := Lib.hid (piecesL_bad (s := s) (b := b) (ps := ps) (by rw [HE.out]; omega))
        have k1 : (pt.kind != 2) = true := by rw [bne_iff_ne]; exact hk2.1
        have k2 : (pt.kind != 3) = true := by rw [bne_iff_ne]; exact hk2.2
        clear hk2
        go_wp2_with fail
        go_ret2
        exact retIE rfl HE.out.symm (SI_nil _) HL.out.symm (below_drewN' HBW3.out _)
      have hki : (pt.kind != 2) = false ∨ ((pt.kind != 2) = true ∧ (pt.kind != 3) = false) := by
        by_cases h : pt.kind = 2
        · exact .inl (by rw [h]; rfl)
        · exact .inr ⟨by rw [bne_iff_ne]; exact h, by rw [bne_eq_false_iff_eq]; omega⟩
      have HPE := Lib.hid (pieceE_len (b := b) (ps := ps) (ids := s.parts) (k := k) (by rw [HID.out]; have := HNN.out; omega) HDD.out (by rw [HID.out, HPT.out]; exact hk2))
      have HPM := Lib.hid (pieceE_mat (b := b) (ps := ps) (ids := s.parts) (k := k) (by rw [HID.out]; have := HNN.out; omega) HDD.out (by rw [HID.out, HPT.out]; exact hk2))
      rw [HID.out, HPT.out] at HPE HPM
      have q8 : w3.cell? ⟨bp, op + t * 18 + 8, none⟩ = some (.string pt.sec) := P8.out
      have q4 : w3.cell? ⟨bp, op + t * 18 + 4, none⟩ = some (.string pt.grade) := P4.out
      have q9 : w3.cell? ⟨bp, op + t * 18 + 9, none⟩ = some (.int .i64 pt.len) := P9.out
      have r1 := HBX3.out.b1
      have r2 := HBX3.out.b2
      clear hk2
      rcases hki with k1 | ⟨k2, k1⟩
      all_goals
        cases hse : pt.sec.toList == b.sec.toList
        · have HE : Hid (piecesE s b ps = 23) := by show _ = _; rw [HREST.out]; exact firstE_hit hj.out (HPM.out (.inl hse)) (by omega) hlt
          have HL := Lib.hid (piecesL_bad (s := s) (b := b) (ps := ps) (by rw [HE.out]; omega))
          go_wp2_with fail
          go_quiet (fail)
          go_wp2_with fail
          go_ret2
          exact retIE rfl HE.out.symm (SI_nil _) HL.out.symm (below_drewN' (below_drewN' HBW3.out _) _)
        cases hgr : pt.grade.toList == b.grade.toList
        · have HE : Hid (piecesE s b ps = 23) := by show _ = _; rw [HREST.out]; exact firstE_hit hj.out (HPM.out (.inr hgr)) (by omega) hlt
          have HL := Lib.hid (piecesL_bad (s := s) (b := b) (ps := ps) (by rw [HE.out]; omega))
          go_wp2_with fail
          go_quiet (fail)
          go_wp2_with fail
          go_ret2
          exact retIE rfl HE.out.symm (SI_nil _) HL.out.symm (below_drewN' (below_drewN' HBW3.out _) _)
        have HPL := HPE.out (by rw [hse, hgr]; simp)
        have HPL := Lib.hid HPL
        go_wp2_with fail
        go_quiet (fail)
        go_wp2_with fail
        refine (side_any pt.len _).mono ?_
        rintro e w5 ⟨rfl, m5, rfl⟩
        cases hsd : sideB pt.len
        · have HE : Hid (piecesE s b ps = 9) := by show _ = _; rw [HREST.out]; exact firstE_hit hj.out (by rw [HPL.out, hsd]; rfl) (by omega) hlt
          have HL := Lib.hid (piecesL_bad (s := s) (b := b) (ps := ps) (by rw [HE.out]; omega))
          clear hsd
          go_wp2_with fail
          go_ret2
          exact retIE rfl HE.out.symm (SI_nil _) HL.out.symm (by first | exact below_drewN' (below_drewN' (below_drewN' HBW3.out _) _) _ | exact below_drewN' (below_drewN' HBW3.out _) _ | exact below_drewN' HBW3.out _)
        · have HJ := Lib.hid (upto hj.out (by rw [HPL.out, hsd]; simp))
          have HLS := Lib.hid (lensOf_succ (ps := ps) hlt)
          rw [HID.out, HPT.out] at HLS
          clear hsd hse hgr k1
          have hlk : (lensOf ps (s.parts.take k)).length ≤ 24 := by simp [lensOf]; omega
          have hs3 : w2.heap.size ≤ w3.heap.size := by have := hbw.out.size; have := HB3.out.size; omega
          go_wp2_with (at_builtin; refine wpList_app_int rfl (.tmp 96) (.tmp 102) rfl w2.heap.size _ _ (lensOf ps (s.parts.take k)) [pt.len] rfl rfl (by first | exact (HOW3.out.dn _).alloc _ | exact ((HOW3.out.dn _).dn _).alloc _ | exact (((HOW3.out.dn _).dn _).dn _).alloc _) (SI_one _ _ _) (by simp; omega) (by simp; omega) ?_)
          intro va wa hoa hga _
          have hba : Below w2.heap.size w2 wa := (((by first | exact below_drewN' (below_drewN' (below_drewN' (hbw.out.trans (HB3.out.mono hbw.out.size)) _) _) _ | exact below_drewN' (below_drewN' (hbw.out.trans (HB3.out.mono hbw.out.size)) _) _ | exact below_drewN' (hbw.out.trans (HB3.out.mono hbw.out.size)) _) : Below w2.heap.size w2 _).alloc (by simp; omega) _).grown hga (by simp; omega) (fun k hk => (World.ownsRow.lt HOW3.out k hk).1)
          rw [← HLS.out] at hoa
          have HO := Lib.hid hoa
          have HBA := Lib.hid hba
          clear hoa hba hga
          go_wp2_with fail
          go_roundw
          case rel => exact ⟨k + 1, by omega, by go_num, HBA, HO, HJ⟩
          case measure => simp [intOf]; omega
    · obtain rfl : k = s.parts.length := by omega
      have HE : Hid (piecesE s b ps = 0) := by show _ = _; rw [HREST.out]; exact firstE_none hj.out
      have HO := how.out.si
      rw [List.take_length] at HO
      have HOO := Lib.hid HO
      clear HO how hj
      go_wp2_with fail
      go_ret2
      exact retIE rfl HE.out.symm HOO.out (piecesL_ok HE.out).symm HBW.out
end Go.Proofs.Ytlgepggmgfnneaa
