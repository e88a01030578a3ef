/- Contracts: flow.bound and the reference's bound. -/
import Derived.Test.YtijapbfkpmphpaaFlowF
namespace Go.Proofs.Ytijapbfkpmphpaa
open Go.RowKit

set_option maxHeartbeats 1000000 in
theorem fbound_any (v u vt : Value) (p : List (List Int)) (l : List Int) (s : Nat) (w : World) (h : SS w v p) (g : SI w u l) (ht : SS w vt (timesL p l)) (hg : Good p) (hl : rightB p.length l = true) (hs : s < (ri p 0).length) :
    Calls Try.prog 35 #[v, u, vt, .int .i64 s] w fun e w' => e = .returned (.int .i64 (boundV p l s)) ∧ ∃ m, w' = w.drewN m := by
  have h32 := hg.len
  have HLA := Lib.hid (last_any vt (timesL p l) s w ht (fun hn => by
    rw [timesL_length] at hn ⊢
    rw [timesL_ri (by omega), rowL_length, jobRow_st hg hl (by omega)]; exact hs))
  have HLE := Lib.hid (lastOf_times (p := p) (l := l) (s := s) (fun k hk => by rw [jobRow_st hg hl hk]; exact hs))
  have HBB := Lib.hid (fun j hj => bst_bounds (pre := l) hg (n0 := lastV p l s) (lastV_bounds hg hl hs) hs j hj)
  have HLB := Lib.hid (lastV_bounds hg hl hs)
  have HRB := Lib.hid (fun j hj => restV_bounds hg (j := j) hj s)
  have HDT := Lib.hid (fun j hj t => dropTake_bounds hg (j := j) hj s t)
  have HST := Lib.hid hg.st
  have HNM := Lib.hid hg.num
  have G := Lib.hid g
  obtain ⟨vs, ⟨a, cap, rfl, h1, h2, h3⟩, h4⟩ := h
  have H3 := Lib.hid h3; have H4 := Lib.hid h4
  clear h3 h4 ht g hg hl
  have hm : p.length ≤ 32 := h32
  go_enter Try.func35, Try.ntmps35
  go_wp2_with fail
  refine HLA.out.mono ?_
  rintro e w1 ⟨rfl, m0, rfl⟩
  rw [HLE.out]
  go_wp2_with fail
  go_loopw [9, 10, 21] (fun n tl i wr => ∃ k : Nat, k ≤ p.length ∧ i = .int .i64 k ∧ (∃ m, wr = w.drewN m) ∧ n = .int .i64 (bst p l s (lastV p l s) k).1 ∧ tl = .int .i64 (bst p l s (lastV p l s) k).2) (fun _ _ i _ => p.length - (intOf i).toNat)
  case atStart => exact ⟨0, Nat.zero_le _, rfl, ⟨_, rfl⟩, rfl, rfl⟩
  case round =>
    obtain ⟨k, hk, rfl, ⟨m, rfl⟩, rfl, rfl⟩ := hrel
    have hbb := HBB.out k hk
    by_cases hlt : k < p.length
    · obtain ⟨b, off, ha, hc⟩ := H3.out k hlt
      obtain ⟨ak, capk, ek, n1, n2, hrow⟩ := H4.out k hlt
      rw [ek] at hc
      have hsk : s < (ri p k).length := by have := HST.out k hlt; omega
      have hr8 : (ri p k).length ≤ 8 := (HST.out k hlt).2.1
      have hrb := HRB.out k hlt
      have hlb := HLB.out
      have hx := HNM.out k hlt s hsk
      obtain ⟨b2, off2, ha2, hcs2⟩ := Sl.at hrow hsk
      have hc2 := hcs2 s hsk
      have HC2 := Lib.hid hcs2
      clear hrow ek hcs2
      rw [ha2] at hc
      rw [ha]
      clear ha
      have HDK := Lib.hid (HDT.out k hlt)
      have HNK := Lib.hid (HNM.out k hlt)
      go_wp2_with fail
      refine (contains_int _ _ _ _ (G.out.drewN _)).mono ?_
      rintro e w1 ⟨rfl, m1, rfl⟩
      cases hy : l.any (fun y => (k : Int) == y)
      · have HY := Lib.hid (bst_take (p := p) (s := s) (n0 := lastV p l s) hy)
        clear hy
        generalize hrow : ri p k = row at *
        have HROW := Lib.hid hrow; clear hrow
        generalize (bst p l s (lastV p l s) k).1 = n at *
        generalize (bst p l s (lastV p l s) k).2 = tl at *
        go_wp2_with fail
        all_goals
          go_loop [13, 40] (fun r i => ∃ t : Nat, t ≤ row.length - (s + 1) ∧ i = .int .i64 t ∧ r = .int .i64 ((row.drop (s + 1)).take t).sum) (fun _ i => (row.length - (s + 1)) - (intOf i).toNat)
          case atStart => exact ⟨0, Nat.zero_le _, rfl, by simp⟩
          case round =>
            obtain ⟨t, ht, rfl, rfl⟩ := hrel
            have hd := HDK.out t
            by_cases hlt2 : t < row.length - (s + 1)
            · first
                | (exfalso; omega)
                | (have hc3 := HC2.out (s + 1 + t) (by omega)
                   rw [← Nat.add_assoc] at hc3
                   have hx3 := HNK.out (s + 1 + t) (by omega)
                   have HDS := Lib.hid (dropTake_succ hlt2)
                   go_wp2_with fail
                   go_round
                   case rel => exact ⟨t + 1, by omega, by go_num, by rw [HDS.out]⟩
                   case measure => simp [intOf]; omega)
            · have HDE := Lib.hid (dropTake_end hlt2)
              rw [HDE.out] at hd ⊢
              by_cases c1 : tl < 0
              · have C1 : decide (tl < 0) = true := by simpa using c1
                have HT : Hid ((if tl < 0 ∨ restV row s < tl then restV row s else tl) = restV row s) := if_pos (Or.inl c1)
                go_wp2_with fail
                go_roundw
                case rel => exact ⟨k + 1, by omega, by go_num, ⟨_, rfl⟩, by rw [HY.out], by rw [HY.out]; simp only []; rw [HT.out]⟩
                case measure => simp [intOf]; omega
              have C1 : decide (tl < 0) = false := by simpa using c1
              by_cases c2 : restV row s < tl
              · have C2 : decide (restV row s < tl) = true := by simpa using c2
                have HT : Hid ((if tl < 0 ∨ restV row s < tl then restV row s else tl) = restV row s) := if_pos (Or.inr c2)
                go_wp2_with fail
                go_roundw
                case rel => exact ⟨k + 1, by omega, by go_num, ⟨_, rfl⟩, by rw [HY.out], by rw [HY.out]; simp only []; rw [HT.out]⟩
                case measure => simp [intOf]; omega
              have C2 : decide (restV row s < tl) = false := by simpa using c2
              have HT : Hid ((if tl < 0 ∨ restV row s < tl then restV row s else tl) = tl) := if_neg (by omega)
              go_wp2_with fail
              go_roundw
              case rel => exact ⟨k + 1, by omega, by go_num, ⟨_, rfl⟩, by rw [HY.out], by rw [HY.out]; simp only []; rw [HT.out]⟩
              case measure => simp [intOf]; omega
      · have HY := Lib.hid (bst_skip (p := p) (s := s) (n0 := lastV p l s) hy)
        clear hy
        go_wp2_with fail
        go_roundw
        case rel => exact ⟨k + 1, by omega, by go_num, ⟨_, rfl⟩, by rw [HY.out], by rw [HY.out]⟩
        case measure => simp [intOf]; omega
    · have hkl : k = p.length := by omega
      have hlb := HLB.out
      have HV : Hid (boundV p l s = (bst p l s (lastV p l s) k).1 + max (bst p l s (lastV p l s) k).2 0) := by rw [hkl]; rfl
      clear hkl
      generalize (bst p l s (lastV p l s) k).1 = n at *
      generalize (bst p l s (lastV p l s) k).2 = tl at *
      go_wp2_with fail
      all_goals (go_ret; exact ⟨ret_int (by rw [HV.out]; omega), _, rfl⟩)

set_option maxHeartbeats 1000000 in
theorem rbound_any (v u : Value) (p : List (List Int)) (l : List Int) (s : Nat) (w : World) (h : SS w v p) (g : SI w u l) (hg : Good p) (hl : rightB p.length l = true) (hs : s < (ri p 0).length) :
    Calls Try.prog 36 #[v, u, .int .i64 s] w fun e w' => e = .returned (.int .i64 (boundV p l s)) ∧ Below w.heap.size w w' := by
  have h32 := hg.len
  have HLA := Lib.hid (rlast_any v u p l s w h g hg hl (fun _ => hs))
  have HBB := Lib.hid (fun j hj => bst_bounds (pre := l) hg (n0 := lastV p l s) (lastV_bounds hg hl hs) hs j hj)
  have HLB := Lib.hid (lastV_bounds hg hl hs)
  have HRB := Lib.hid (fun j hj => restV_bounds hg (j := j) hj s)
  have HDT := Lib.hid (fun j hj t => dropTake_bounds hg (j := j) hj s t)
  have HST := Lib.hid hg.st
  have HNM := Lib.hid hg.num
  have G := Lib.hid g
  obtain ⟨vs, ⟨a, cap, rfl, h1, h2, h3⟩, h4⟩ := h
  have H3 := Lib.hid h3; have H4 := Lib.hid h4
  clear h3 h4 g hg hl
  have hm : p.length ≤ 32 := h32
  go_enter Try.func36, Try.ntmps36
  go_wp2_with fail
  refine HLA.out.mono ?_
  rintro e w1 ⟨rfl, hb1⟩
  go_wp2_with fail
  go_loopw [7, 8, 9] (fun n tl i wr => ∃ k : Nat, k ≤ p.length ∧ i = .int .i64 k ∧ Below w.heap.size w wr ∧ n = .int .i64 (bst p l s (lastV p l s) k).1 ∧ tl = .int .i64 (bst p l s (lastV p l s) k).2) (fun _ _ i _ => p.length - (intOf i).toNat)
  case atStart => exact ⟨0, Nat.zero_le _, rfl, hb1, rfl, rfl⟩
  case round =>
    obtain ⟨k, hk, rfl, hbel, rfl, rfl⟩ := hrel
    clear hb1
    have hbb := HBB.out k hk
    by_cases hlt : k < p.length
    · obtain ⟨b, off, ha, hc⟩ := H3.out k hlt
      obtain ⟨ak, capk, ek, n1, n2, hrow⟩ := H4.out k hlt
      rw [ek] at hc
      have hc := cell_keep hbel hc
      have hsk : s < (ri p k).length := by have := HST.out k hlt; omega
      have hr8 : (ri p k).length ≤ 8 := (HST.out k hlt).2.1
      have hrb := HRB.out k hlt
      have hlb := HLB.out
      have hx := HNM.out k hlt s hsk
      obtain ⟨b2, off2, ha2, hcs2⟩ := Sl.at hrow hsk
      have hc2 := cell_keep hbel (hcs2 s hsk)
      have HC2 := Lib.hid hcs2
      clear hrow ek hcs2
      rw [ha2] at hc
      rw [ha]
      clear ha
      have HDK := Lib.hid (HDT.out k hlt)
      have HNK := Lib.hid (HNM.out k hlt)
      go_wp2_with fail
      refine (has_any _ _ _ _ (G.out.keep hbel)).mono ?_
      rintro e w1 ⟨rfl, m1, rfl⟩
      have hbel := below_drewN' hbel m1
      cases hy : l.any (fun y => (k : Int) == y)
      · have HY := Lib.hid (bst_take (p := p) (s := s) (n0 := lastV p l s) hy)
        clear hy
        generalize hrow : ri p k = row at *
        have HROW := Lib.hid hrow; clear hrow
        generalize (bst p l s (lastV p l s) k).1 = n at *
        generalize (bst p l s (lastV p l s) k).2 = tl at *
        go_wp2_with fail
        all_goals
          go_loop [10, 11] (fun r i => ∃ t : Nat, t ≤ row.length - (s + 1) ∧ i = .int .i64 ((s : Int) + 1 + t) ∧ r = .int .i64 ((row.drop (s + 1)).take t).sum) (fun _ i => row.length - (intOf i).toNat)
          case atStart => exact ⟨0, Nat.zero_le _, by go_num, by simp⟩
          case round =>
            obtain ⟨t, ht, rfl, rfl⟩ := hrel
            have hd := HDK.out t
            by_cases hlt2 : t < row.length - (s + 1)
            · first
                | (exfalso; omega)
                | (have hc3 := cell_keep hbel (HC2.out (s + 1 + t) (by omega))
                   have hx3 := HNK.out (s + 1 + t) (by omega)
                   have HDS := Lib.hid (dropTake_succ hlt2)
                   go_wp2_with fail
                   go_round
                   case rel => exact ⟨t + 1, by omega, by go_num, by rw [HDS.out]⟩
                   case measure => simp [intOf]; omega)
            · have HDE := Lib.hid (dropTake_end hlt2)
              rw [HDE.out] at hd ⊢
              by_cases c1 : tl < 0
              · have C1 : decide (tl < 0) = true := by simpa using c1
                have HT : Hid ((if tl < 0 ∨ restV row s < tl then restV row s else tl) = restV row s) := if_pos (Or.inl c1)
                go_wp2_with fail
                go_roundw
                case rel => exact ⟨k + 1, by omega, by go_num, hbel, by rw [HY.out], by rw [HY.out]; simp only []; rw [HT.out]⟩
                case measure => simp [intOf]; omega
              have C1 : decide (tl < 0) = false := by simpa using c1
              by_cases c2 : restV row s < tl
              · have C2 : decide (restV row s < tl) = true := by simpa using c2
                have HT : Hid ((if tl < 0 ∨ restV row s < tl then restV row s else tl) = restV row s) := if_pos (Or.inr c2)
                go_wp2_with fail
                go_roundw
                case rel => exact ⟨k + 1, by omega, by go_num, hbel, by rw [HY.out], by rw [HY.out]; simp only []; rw [HT.out]⟩
                case measure => simp [intOf]; omega
              have C2 : decide (restV row s < tl) = false := by simpa using c2
              have HT : Hid ((if tl < 0 ∨ restV row s < tl then restV row s else tl) = tl) := if_neg (by omega)
              go_wp2_with fail
              go_roundw
              case rel => exact ⟨k + 1, by omega, by go_num, hbel, by rw [HY.out], by rw [HY.out]; simp only []; rw [HT.out]⟩
              case measure => simp [intOf]; omega
      · have HY := Lib.hid (bst_skip (p := p) (s := s) (n0 := lastV p l s) hy)
        clear hy
        go_wp2_with fail
        go_roundw
        case rel => exact ⟨k + 1, by omega, by go_num, hbel, by rw [HY.out], by rw [HY.out]⟩
        case measure => simp [intOf]; omega
    · have hkl : k = p.length := by omega
      have hlb := HLB.out
      have HV : Hid (boundV p l s = (bst p l s (lastV p l s) k).1 + max (bst p l s (lastV p l s) k).2 0) := by rw [hkl]; rfl
      clear hkl
      generalize (bst p l s (lastV p l s) k).1 = n at *
      generalize (bst p l s (lastV p l s) k).2 = tl at *
      go_wp2_with fail
      all_goals (go_ret; exact ⟨ret_int (by rw [HV.out]; omega), hbel⟩)
end Go.Proofs.Ytijapbfkpmphpaa
