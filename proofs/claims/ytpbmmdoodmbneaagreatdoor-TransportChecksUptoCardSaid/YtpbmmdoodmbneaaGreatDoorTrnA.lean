/- Contract: check of transport. -/
import Derived.Test.YtpbmmdoodmbneaaGreatDoorTrnSoM
import Derived.Test.YtpbmmdoodmbneaaGreatDoorIdG
import Derived.Test.YtpbmmdoodmbneaaGreatDoorRowF

/- Contracts: between of transport. -/
namespace Go.Proofs.YtpbmmdoodmbneaaGreatDoor
open Go.RowKit Go.Sort

def btw (n lo hi : Int) : Bool := decide (lo ≤ n) && decide (n ≤ hi)
theorem between_any (n lo hi : Int) (w : World) : Calls Tryz.prog 38 #[.int .i64 n, .int .i64 lo, .int .i64 hi] w fun e w' => e = .returned (.bool (btw n lo hi)) ∧ w' = w := by
  by_cases h1 : lo ≤ n
  · have d1 : decide (lo ≤ n) = true := by simpa using h1
    have HT := Lib.hid (show btw n lo hi = decide (n ≤ hi) by unfold btw; rw [d1, Bool.true_and])
    go_enter Tryz.func38, Tryz.ntmps38
    go_wp2_with fail
    go_ret
    exact ⟨ret_bool HT.out.symm, rfl⟩
  · have d1 : decide (lo ≤ n) = false := by simpa using h1
    have HT := Lib.hid (show btw n lo hi = false by unfold btw; rw [d1, Bool.false_and])
    go_enter Tryz.func38, Tryz.ntmps38
    go_wp2_with fail
    go_ret
    exact ⟨ret_bool HT.out.symm, rfl⟩
theorem btw_no (n lo hi : Int) : btw n lo hi = false ↔ n < lo ∨ hi < n := by unfold btw; simp; omega
theorem btw_yes (n lo hi : Int) : btw n lo hi = true ↔ lo ≤ n ∧ n ≤ hi := by unfold btw; simp
theorem le_str (a b : List UInt8) : (Op.bytesLess (bs a).toList (bs b).toList || (bs a).toList == (bs b).toList) = decide (bytesC a b ≤ 0) := by
  rw [bs_toList, bs_toList, less_lt, Bool.eq_iff_iff, Bool.or_eq_true, decide_eq_true_eq, decide_eq_true_eq, beq_iff_eq]
  constructor
  · rintro (h | h)
    · omega
    · subst h; rw [bytesC_ok.refl]; omega
  · intro h
    by_cases e : bytesC a b = 0
    · exact .inr (bytesC_zero e)
    · exact .inl (by omega)

end Go.Proofs.YtpbmmdoodmbneaaGreatDoor

/- Contract: the distances of transport. -/
namespace Go.Proofs.YtpbmmdoodmbneaaGreatDoor
open Go.RowKit Go.Sort

/-! distances -/
theorem enter_dist1 : ∀ args w, (callFunc 57 args).run Tryz.prog w = .ok (.enter 57 args) w := enters_of Tryz.func57 (by kernel_rfl) rfl
theorem enter_dist2 : ∀ args w, (callFunc 59 args).run Tryz.prog w = .ok (.enter 59 args) w := enters_of Tryz.func59 (by kernel_rfl) rfl
theorem dist1_any (v : Value) (row : List Int) (a : Option Addr) (n cap b : Nat) (w : World) (h : SI w v row) (hc : w.cell? ⟨b, 0, none⟩ = some (.slice a n cap)) :
    Calls Tryz.prog 57 #[v, .pointer (some ⟨b, 0, none⟩)] w fun e w' => e = .returned (.bool (decide (row.length ≠ n))) ∧ ∃ m, w' = w.drewN m := by
  obtain ⟨x, c, rfl, _⟩ := h
  have HE : Hid (((row.length : Int) != (n : Int)) = decide (row.length ≠ n)) := by
    show _ = _
    rw [Bool.eq_iff_iff, bne_iff_ne, decide_eq_true_eq]; omega
  go_enter Tryz.func57, Tryz.ntmps57
  go_wp2_with fail
  go_ret
  exact ⟨ret_bool (by rw [HE.out]; simp), 0, rfl⟩
theorem dist2_any (x : Int) (w : World) : Calls Tryz.prog 59 #[.int .i64 x] w fun e w' => e = .returned (.bool (wideB x)) ∧ ∃ m, w' = w.drewN m := by
  have HE : Hid ((!btw x 0 10000) = wideB x) := by
    show _ = _
    unfold btw wideB
    rw [Bool.eq_iff_iff]; simp
  go_enter Tryz.func59, Tryz.ntmps59
  go_wp2_with fail
  refine (between_any _ _ _ _).mono ?_
  rintro e w1 ⟨rfl, rfl⟩
  go_wp2_with fail
  go_ret
  exact ⟨ret_bool HE.out, 0, rfl⟩
/-- row a is right up to place k -/
def symU (d : List (List Int)) (a k : Nat) : Bool := (List.range k).all fun b => (!(decide (a = b)) || gi (ri d a) b == 0) && gi (ri d a) b == gi (ri d b) a
theorem symU_succ (d : List (List Int)) (a k : Nat) : symU d a (k + 1) = (symU d a k && ((!(decide (a = k)) || gi (ri d a) k == 0) && gi (ri d a) k == gi (ri d k) a)) := by
  unfold symU; rw [List.range_succ]; simp
def allU (d : List (List Int)) (k : Nat) : Bool := (List.range k).all (symB d)
theorem allU_succ (d : List (List Int)) (k : Nat) : allU d (k + 1) = (allU d k && symB d k) := by
  unfold allU; rw [List.range_succ]; simp
theorem symB_eq (d : List (List Int)) (a : Nat) : symB d a = symU d a d.length := rfl
theorem symU_le {d : List (List Int)} {a k n : Nat} (h : symU d a k = false) (hk : k ≤ n) : symU d a n = false := by
  unfold symU at *
  rw [List.all_eq_false] at *
  obtain ⟨x, hx, h2⟩ := h
  exact ⟨x, List.mem_range.2 (by have := List.mem_range.1 hx; omega), h2⟩
theorem allU_le {d : List (List Int)} {k n : Nat} (h : allU d k = false) (hk : k ≤ n) : allU d n = false := by
  unfold allU at *
  rw [List.all_eq_false] at *
  obtain ⟨x, hx, h2⟩ := h
  exact ⟨x, List.mem_range.2 (by have := List.mem_range.1 hx; omega), h2⟩
theorem any_wide_at {d : List (List Int)} {k : Nat} (hk : k < d.length) (h : (ri d k).any wideB = true) : (d.any fun r => r.any wideB) = true :=
  List.any_eq_true.2 ⟨_, ri_mem hk, h⟩
set_option maxHeartbeats 2000000 in
theorem distances_any (v : Value) (d : List (List Int)) (w : World) (h : SS w v d) : Calls Tryz.prog 39 #[v] w (Ret w (.int .i64 (distE d))) := by
  have h0 := h
  obtain ⟨vs, ⟨a, cap, rfl, h1, h2, h3⟩, h4⟩ := h
  have hm : d.length ≤ 9223372036854775807 := by unfold maxLen at h2; omega
  obtain ⟨W, hW⟩ : ∃ W, W = w.alloc (.cells #[.slice a d.length cap] 23) := ⟨_, rfl⟩
  obtain ⟨X, hX⟩ : ∃ X, X = w.heap.size := ⟨_, rfl⟩
  have HBW : Hid (Below w.heap.size w W) := by show Below _ _ _; rw [hW]; exact (Below.refl _ _).alloc (Nat.le_refl _) _
  have cx : W.cell? ⟨X, 0, none⟩ = some (.slice a d.length cap) := by rw [hW, hX]; simp
  have H3 : Hid (∀ i, i < d.length → ∃ b off, a = some ⟨b, off, none⟩ ∧ W.cell? ⟨b, off + i, none⟩ = some (vs i)) := fun i hi => by obtain ⟨b, off, e, hc⟩ := h3 i hi; exact ⟨b, off, e, cell_keep HBW.out hc⟩
  have H4 : Hid (∀ i, i < d.length → SI W (vs i) (ri d i)) := fun i hi => (h4 i hi).keep HBW.out
  have HCF := Lib.hid (containsFunc_row (.func (.func 57) #[] #[.pointer (some ⟨X, 0, none⟩)]) (.slice a d.length cap) (fun r => decide (r.length ≠ d.length)) d W (h0.keep HBW.out)
    ⟨_, _, rfl, enter_dist1, fun u row n hs => (dist1_any u row a d.length cap X (W.drewN n) (hs.drewN n) cx).mono fun e w' ⟨he, m, hw⟩ => ⟨he, n + m, by rw [hw, World.drewN_drewN]⟩⟩)
  have HD2 : Hid (∀ i m, i < d.length → Calls Tryz.prog 58 #[vs i, .func (.func 59) #[] #[]] (W.drewN m) fun e w' => e = .returned (.bool ((ri d i).any wideB)) ∧ ∃ q, w' = (W.drewN m).drewN q) := fun i m hi =>
    containsFunc_int _ _ (fun _ => True) wideB (ri d i) (W.drewN m) ((H4.out i hi).drewN m) ⟨_, _, rfl, enter_dist2, fun x n _ => (dist2_any x _).mono fun e w' ⟨he, q, hw⟩ => ⟨he, n + q, by rw [hw, World.drewN_drewN]⟩⟩ (fun _ _ => trivial)
  clear h0 h3 h4
  have HDE : Hid (distE d = if (d.any fun r => decide (r.length ≠ d.length)) = true then 17 else if (d.any fun r => r.any wideB) = true then 9 else if allU d d.length = true then 0 else 17) := rfl
  go_enter Tryz.func39, Tryz.ntmps39
  go_wp2_with fail
  rw [← hW, ← hX]
  clear hW hX
  refine HCF.out.mono ?_
  rintro e w1 ⟨rfl, m1, rfl⟩
  cases hs : (d.any fun r => decide (r.length ≠ d.length))
  · have HL : Hid (∀ i, i < d.length → (ri d i).length = d.length) := fun i hi => by
      have := List.any_eq_false.1 hs (ri d i) (ri_mem hi)
      simpa using this
    have HDE2 : Hid (distE d = if (d.any fun r => r.any wideB) = true then 9 else if allU d d.length = true then 0 else 17) := by show _ = _; rw [HDE.out, hs]; rfl
    clear hs HDE
    go_wp2_with fail
    go_loopw [14] (fun i wr => ∃ k : Nat, k ≤ d.length ∧ i = .int .i64 k ∧ (∃ m, wr = W.drewN m) ∧ Hid (∀ j, j < k → (ri d j).any wideB = false)) (fun i _ => d.length - (intOf i).toNat)
    case atStart => exact ⟨0, Nat.zero_le _, rfl, ⟨_, rfl⟩, fun j hj => by omega⟩
    case round =>
      obtain ⟨k, hk, rfl, ⟨m, rfl⟩, hj⟩ := hrel
      by_cases hlt : k < d.length
      · obtain ⟨b, off, ha, hc⟩ := H3.out k hlt
        have HC2 := Lib.hid (HD2.out k m hlt)
        rw [ha]
        cases hy : (ri d k).any wideB
        · rw [hy] at HC2
          have HJ : Hid (∀ j, j < k + 1 → (ri d j).any wideB = false) := upto (q := fun j => (ri d j).any wideB = false) hj.out hy
          clear hy
          go_wp2_with fail
          refine HC2.out.mono ?_
          rintro e w2 ⟨rfl, q, rfl⟩
          go_wp2_with fail
          go_roundw
          case rel => exact ⟨k + 1, by omega, by go_num, (by first | exact ⟨_, rfl⟩ | exact dn2 _ _ _), HJ.out⟩
          case measure => simp [intOf]; omega
        · rw [hy] at HC2
          have HR : Hid (distE d = 9) := by show _ = _; rw [HDE2.out, any_wide_at hlt hy]; rfl
          clear hy
          go_wp2_with fail
          refine HC2.out.mono ?_
          rintro e w2 ⟨rfl, q, rfl⟩
          go_wp2_with fail
          go_ret
          exact ⟨ret_int HR.out.symm, below_drewN' HBW.out _⟩
      · have HW : Hid (distE d = if allU d d.length = true then 0 else 17) := by
          have : (d.any fun r => r.any wideB) = false := by
            rw [List.any_eq_false]
            intro r hr
            obtain ⟨i, hi, rfl⟩ := mem_ri hr
            rw [hj.out i (by omega)]; decide
          show _ = _; rw [HDE2.out, this]; rfl
        clear HDE2 hj HD2 HCF
        go_wp2_with fail
        go_loopw [23] (fun i wr => ∃ k : Nat, k ≤ d.length ∧ i = .int .i64 k ∧ (∃ m, wr = W.drewN m) ∧ Hid (allU d k = true)) (fun i _ => d.length - (intOf i).toNat)
        case atStart => exact ⟨0, Nat.zero_le _, rfl, by first | exact ⟨_, rfl⟩ | exact dn2 _ _ _, rfl⟩
        case round =>
          obtain ⟨k, hk, rfl, ⟨m, rfl⟩, hj⟩ := hrel
          by_cases hlt : k < d.length
          · obtain ⟨b, off, ha, hc⟩ := H3.out k hlt
            have hln := HL.out k hlt
            obtain ⟨ra, rc, er, n1, n2, n3⟩ := H4.out k hlt
            rw [er] at hc
            rw [hln] at hc n1 n3
            have N3 := Lib.hid n3
            rw [ha]
            clear er n3
            go_wp2_with fail
            go_loopw [30] (fun i wr => ∃ j : Nat, j ≤ d.length ∧ i = .int .i64 j ∧ (∃ m, wr = W.drewN m) ∧ Hid (symU d k j = true)) (fun i _ => d.length - (intOf i).toNat)
            case atStart => exact ⟨0, Nat.zero_le _, rfl, by first | exact ⟨_, rfl⟩ | exact dn2 _ _ _, rfl⟩
            case round =>
              obtain ⟨j, hj2, rfl, ⟨m2, rfl⟩, hs⟩ := hrel
              by_cases hlt2 : j < d.length
              · obtain ⟨b2, off2, ha2, hc2⟩ := N3.out j hlt2
                obtain ⟨b', off', ha', hc3⟩ := H3.out j hlt2
                have ha'' := ha'.symm.trans ha
                simp only [Option.some.injEq, Addr.mk.injEq] at ha''
                obtain ⟨rfl, rfl, _⟩ := ha''
                obtain ⟨qa, qc, eq, o1, o2, o3⟩ := H4.out j hlt2
                rw [eq] at hc3
                rw [HL.out j hlt2] at hc3 o1 o3
                obtain ⟨b4, off4, ha4, hc4⟩ := o3 k hlt
                replace hc4 : W.cell? ⟨b4, off4 + k, none⟩ = some (.int .i64 (gi (ri d j) k)) := hc4
                rw [ha2] at hc ⊢
                rw [ha4] at hc3
                have HS := Lib.hid (symU_succ d k j)
                generalize gi (ri d k) j = x at *
                generalize gi (ri d j) k = y at *
                clear o3 eq ha' ha2 ha4
                have nx : (k = j → x = 0) → x = y → symU d k (j + 1) = true := fun e1 e2 => by
                  rw [HS.out, hs.out, e2]
                  by_cases e : k = j
                  · have := e1 e; rw [← e2, this]; simp
                  · simp [e]
                have bad : (k = j ∧ x ≠ 0) ∨ x ≠ y → distE d = 17 := fun hb => by
                  have e1 : symU d k (j + 1) = false := by
                    rw [HS.out, hs.out]
                    rcases hb with ⟨e, h⟩ | h
                    · simp [e, h]
                    · simp [h]
                  have e2 := symU_le e1 (show j + 1 ≤ d.length by omega)
                  have e3 : allU d (k + 1) = false := by rw [allU_succ, symB_eq, e2, Bool.and_false]
                  rw [HW.out, allU_le e3 (show k + 1 ≤ d.length by omega)]; rfl
                have NX := Lib.hid nx
                have BAD := Lib.hid bad
                clear nx bad HS
                by_cases hxy : x = y
                · have hb3 : (x != y) = false := by simpa using hxy
                  by_cases hkj : k = j
                  · have hb1 : ((k : Int) == (j : Int)) = true := by rw [beq_iff_eq]; omega
                    by_cases hx0 : x = 0
                    · have hb2 : (x != 0) = false := by simpa using hx0
                      have HN := Lib.hid (NX.out (fun _ => hx0) hxy)
                      clear hkj hx0 hxy NX BAD
                      go_wp2_with fail
                      go_roundw
                      case rel => exact ⟨j + 1, by omega, by go_num, (by first | exact ⟨_, rfl⟩ | exact dn2 _ _ _), HN.out⟩
                      case measure => simp [intOf]; omega
                    · have hb2 : (x != 0) = true := by simpa using hx0
                      have HR := Lib.hid (BAD.out (.inl ⟨hkj, hx0⟩))
                      clear hkj hx0 hxy NX BAD
                      go_wp2_with fail
                      go_ret
                      exact ⟨ret_int HR.out.symm, below_drewN' HBW.out _⟩
                  · have hb1 : ((k : Int) == (j : Int)) = false := by rw [beq_eq_false_iff_ne]; omega
                    have HN := Lib.hid (NX.out (fun e => absurd e hkj) hxy)
                    clear hkj hxy NX BAD
                    go_wp2_with fail
                    go_roundw
                    case rel => exact ⟨j + 1, by omega, by go_num, (by first | exact ⟨_, rfl⟩ | exact dn2 _ _ _), HN.out⟩
                    case measure => simp [intOf]; omega
                · have hb3 : (x != y) = true := by simpa using hxy
                  have HR := Lib.hid (BAD.out (.inr hxy))
                  clear hxy NX BAD
                  cases hb1 : ((k : Int) == (j : Int))
                  · go_wp2_with fail
                    go_ret
                    exact ⟨ret_int HR.out.symm, below_drewN' HBW.out _⟩
                  · cases hb2 : (x != 0)
                    · go_wp2_with fail
                      go_ret
                      exact ⟨ret_int HR.out.symm, below_drewN' HBW.out _⟩
                    · go_wp2_with fail
                      go_ret
                      exact ⟨ret_int HR.out.symm, below_drewN' HBW.out _⟩
              · obtain rfl : j = d.length := by omega
                have HN : Hid (allU d (k + 1) = true) := by show _ = _; rw [allU_succ, hj.out, symB_eq, hs.out]; rfl
                go_wp2_with fail
                go_roundw
                case rel => exact ⟨k + 1, by omega, by go_num, (by first | exact ⟨_, rfl⟩ | exact dn2 _ _ _), HN.out⟩
                case measure => simp [intOf]; omega
          · obtain rfl : k = d.length := by omega
            have HR : Hid (distE d = 0) := by show _ = _; rw [HW.out, hj.out]; rfl
            go_wp2_with fail
            go_ret
            exact ⟨ret_int HR.out.symm, below_drewN' HBW.out _⟩
  · have HR : Hid (distE d = 17) := by show _ = _; rw [HDE.out, hs]; rfl
    clear hs
    go_wp2_with fail
    go_ret
    exact ⟨ret_int HR.out.symm, below_drewN' HBW.out _⟩
end Go.Proofs.YtpbmmdoodmbneaaGreatDoor

/- Contract: CheckYard of transport. -/
namespace Go.Proofs.YtpbmmdoodmbneaaGreatDoor
open Go.RowKit Go.Sort

/-- the name before place k -/
def pvN (tr : List Trk) (k : Nat) : Option (List UInt8) := if k = 0 then none else some (tki tr (k - 1)).name
theorem trkE_at {tr : List Trk} {k : Nat} (h : k < tr.length) : trkE (pvN tr k) (tr.drop k) =
    if nameB (tki tr k).name = false then 6 else if (tki tr k).load < 1 ∨ 1099511627776 < (tki tr k).load ∨ (tki tr k).hours < 1 ∨ 100 < (tki tr k).hours then 9
    else if notB (pvN tr k) (tki tr k).name = true then 11 else trkE (pvN tr (k + 1)) (tr.drop (k + 1)) := by
  rw [List.drop_eq_getElem_cons h, ← tki_lt h]
  show (if nameB (tki tr k).name = false then (6 : Int) else _) = _
  unfold pvN
  rw [if_neg (Nat.succ_ne_zero k), Nat.add_sub_cancel]
theorem trkE_end (p : Option (List UInt8)) (tr : List Trk) {k : Nat} (h : tr.length ≤ k) : trkE p (tr.drop k) = 0 := by
  rw [List.drop_eq_nil_of_le h]; rfl
set_option maxHeartbeats 2000000 in
theorem CheckYard_any (v dv : Value) (tr : List Trk) (d : List (List Int)) (w : World) (h : SK w v tr) (hd : SS w dv d) (hz : ∀ t ∈ tr, t.name.length ≤ maxLen) :
    Calls Tryz.prog 13 #[v, dv] w (Ret w (.int .i64 (yardE tr d))) := by
  obtain ⟨a, cap, rfl, h1, h2, h3⟩ := h
  have HD := Lib.hid hd
  obtain ⟨da, dn, dc, rfl⟩ : ∃ a n c, dv = .slice a n c := by obtain ⟨_, ⟨a, cap, rfl, _⟩, _⟩ := hd; exact ⟨_, _, _, rfl⟩
  have hdn : dn = d.length := by obtain ⟨_, ⟨a, cap, e, _⟩, _⟩ := hd; simp at e; exact e.2.1
  subst hdn
  have H3 := Lib.hid h3
  have HZ := Lib.hid hz
  clear h3 hd hz
  by_cases g1 : 8 < tr.length ∨ 32 < d.length
  · have HR : Hid (yardE tr d = 4) := by show _ = _; unfold yardE; rw [if_pos g1]
    by_cases g : 8 < tr.length
    · clear g1
      go_enter Tryz.func13, Tryz.ntmps13
      go_wp2_with fail
      go_ret
      exact ⟨ret_int HR.out.symm, Below.refl _ _⟩
    · have g' : 32 < d.length := by omega
      clear g1
      go_enter Tryz.func13, Tryz.ntmps13
      go_wp2_with fail
      go_ret
      exact ⟨ret_int HR.out.symm, Below.refl _ _⟩
  by_cases g2 : tr.length = 0 ∨ d.length = 0
  · have HR : Hid (yardE tr d = 3) := by show _ = _; unfold yardE; rw [if_neg g1, if_pos g2]
    have b1 : tr.length ≤ 8 := by omega
    have b2 : d.length ≤ 32 := by omega
    clear g1
    by_cases g : tr.length = 0
    · have b3 : ((tr.length : Int) == 0) = true := by rw [beq_iff_eq]; omega
      clear g2 g
      go_enter Tryz.func13, Tryz.ntmps13
      go_wp2_with fail
      go_ret
      exact ⟨ret_int HR.out.symm, Below.refl _ _⟩
    · have b3 : ((tr.length : Int) == 0) = false := by rw [beq_eq_false_iff_ne]; omega
      have b4 : ((d.length : Int) == 0) = true := by rw [beq_iff_eq]; omega
      clear g2 g
      go_enter Tryz.func13, Tryz.ntmps13
      go_wp2_with fail
      go_ret
      exact ⟨ret_int HR.out.symm, Below.refl _ _⟩
  have HY : Hid (yardE tr d = if trkE none tr ≠ 0 then trkE none tr else distE d) := by show _ = _; unfold yardE; rw [if_neg g1, if_neg g2]
  have b1 : decide (8 < tr.length) = false := by rw [decide_eq_false_iff_not]; omega
  have b2 : decide (32 < d.length) = false := by rw [decide_eq_false_iff_not]; omega
  have b3 : ((tr.length : Int) == 0) = false := by rw [beq_eq_false_iff_ne]; omega
  have b4 : ((d.length : Int) == 0) = false := by rw [beq_eq_false_iff_ne]; omega
  have n1 : 0 < tr.length := by omega
  have n2 : tr.length ≤ 8 := by omega
  have n3 : d.length ≤ 32 := by omega
  clear g1 g2
  go_enter Tryz.func13, Tryz.ntmps13
  go_wp2_with fail
  go_loopw [25] (fun i wr => ∃ k : Nat, k ≤ tr.length ∧ i = .int .i64 k ∧ Hid (Below w.heap.size w wr) ∧ Hid (trkE none tr = trkE (pvN tr k) (tr.drop k))) (fun i _ => tr.length - (intOf i).toNat)
  case atStart => exact ⟨0, Nat.zero_le _, rfl, Lib.hid (Below.refl _ _), rfl⟩
  case round =>
    obtain ⟨k, hk, rfl, hb, hE⟩ := hrel
    by_cases hlt : k < tr.length
    · obtain ⟨b, off, ha, hc⟩ := H3.out k hlt
      subst ha
      have hc' := hc.keep hb.out
      have hnz := HZ.out _ (tki_mem hlt)
      have HT := Lib.hid (trkE_at hlt)
      generalize tki tr k = t at *
      obtain ⟨c0, c1, c2⟩ := hc'
      clear hc
      go_wp2_with fail
      refine (IsName_any (bs t.name) _ (by rw [bs_size]; exact hnz)).mono ?_
      rintro e w1 ⟨rfl, hb1⟩
      rw [bs_list]
      have g0 := cell_keep hb1 (p := ⟨wr.heap.size, 0, none⟩) (v := .string (bs t.name)) (by go_simp)
      have g1 := cell_keep hb1 (p := ⟨wr.heap.size, 1, none⟩) (v := .int .i64 t.load) (by go_simp)
      have g2 := cell_keep hb1 (p := ⟨wr.heap.size, 2, none⟩) (v := .int .i64 t.hours) (by go_simp)
      have HB1 := Lib.hid (ext_trans (below_alloc hb.out _) hb1)
      clear hb1 hnz
      cases hn : nameB t.name
      · rw [if_pos hn] at HT
        go_wp2_with fail
        go_ret
        exact ⟨ret_int (by rw [HY.out, hE.out, HT.out]; rfl), HB1.out⟩
      · rw [if_neg (by rw [hn]; decide)] at HT
        clear hn
        by_cases hr : t.load < 1 ∨ 1099511627776 < t.load ∨ t.hours < 1 ∨ 100 < t.hours
        · rw [if_pos hr] at HT
          have HR : Hid (yardE tr d = 9) := by show _ = _; rw [HY.out, hE.out, HT.out]; rfl
          clear HT HY hE
          cases hl : btw t.load 1 1099511627776
          · go_wp2_with fail
            refine (between_any _ _ _ _).mono ?_
            rintro e w2 ⟨rfl, rfl⟩
            go_wp2_with fail
            go_ret
            exact ⟨ret_int HR.out.symm, HB1.out⟩
          · have hh : btw t.hours 1 100 = false := by rw [btw_no]; rw [btw_yes] at hl; omega
            go_wp2_with fail
            refine (between_any _ _ _ _).mono ?_
            rintro e w2 ⟨rfl, rfl⟩
            go_wp2_with fail
            refine (between_any _ _ _ _).mono ?_
            rintro e w2 ⟨rfl, rfl⟩
            go_wp2_with fail
            go_ret
            exact ⟨ret_int HR.out.symm, HB1.out⟩
        · rw [if_neg hr] at HT
          have hl : btw t.load 1 1099511627776 = true := by rw [btw_yes]; omega
          have hh : btw t.hours 1 100 = true := by rw [btw_yes]; omega
          clear hr
          go_wp2_with fail
          refine (between_any _ _ _ _).mono ?_
          rintro e w2 ⟨rfl, rfl⟩
          go_wp2_with fail
          refine (between_any _ _ _ _).mono ?_
          rintro e w2 ⟨rfl, rfl⟩
          have HNB : Hid (trkE none tr = if notB (pvN tr k) t.name = true then 11 else trkE (pvN tr (k + 1)) (tr.drop (k + 1))) := by show _ = _; rw [hE.out, HT.out]
          clear HT hE
          by_cases hk0 : k = 0
          · subst hk0
            have HN : Hid (trkE none tr = trkE (pvN tr (0 + 1)) (tr.drop (0 + 1))) := by show _ = _; rw [HNB.out]; unfold pvN notB; rfl
            clear HNB
            go_wp2_with fail
            go_quiet (fail)
            go_wp2_with fail
            go_roundw
            case rel => exact ⟨0 + 1, by omega, by go_num, below_drewN' HB1.out _, HN.out⟩
            case measure => simp [intOf]; omega
          · obtain ⟨p, rfl⟩ : ∃ p, k = p + 1 := ⟨k - 1, by omega⟩
            have hkb : decide ((0 : Int) < ((p + 1 : Nat) : Int)) = true := by rw [decide_eq_true_eq]; omega
            have hw : IntKind.i64.wrap (((p + 1 : Nat) : Int) - 1) = (p : Int) := by rw [IntWalk.i64_in _ (by omega)]; omega
            obtain ⟨b', off', ha', hcp⟩ := H3.out p (by omega)
            have ha' := Option.some.inj ha'
            simp only [Addr.mk.injEq] at ha'
            obtain ⟨rfl, rfl, _⟩ := ha'
            have e0 := (hcp.keep HB1.out).c0
            clear hcp
            have HP : Hid (notB (pvN tr (p + 1)) t.name = decide (bytesC t.name (tki tr p).name ≤ 0)) := by
              show _ = _; unfold pvN; rw [if_neg (Nat.succ_ne_zero p), Nat.add_sub_cancel]; rfl
            have hle := le_str t.name (tki tr p).name
            generalize (tki tr p).name = pn at *
            have i1 : (0 : Int) ≤ p := by omega
            have i2 : (p : Int) < tr.length := by omega
            have i3 : (p : Int) < cap := by omega
            cases hq : decide (bytesC t.name pn ≤ 0)
            · rw [hq] at hle
              have HN : Hid (trkE none tr = trkE (pvN tr (p + 1 + 1)) (tr.drop (p + 1 + 1))) := by show _ = _; rw [HNB.out, HP.out, hq]; rfl
              clear HNB HP hq
              go_wp2_with fail
              go_quiet (fail)
              go_wp2_with fail
              go_roundw
              case rel => exact ⟨p + 1 + 1, by omega, by go_num, below_drewN' HB1.out _, HN.out⟩
              case measure => simp [intOf]; omega
            · rw [hq] at hle
              have HR : Hid (yardE tr d = 11) := by show _ = _; rw [HY.out, HNB.out, HP.out, hq]; rfl
              clear HNB HP hq
              go_wp2_with fail
              go_quiet (fail)
              go_wp2_with fail
              go_ret
              exact ⟨ret_int HR.out.symm, below_drewN' HB1.out _⟩
    · have HR : Hid (yardE tr d = distE d) := by show _ = _; rw [HY.out, hE.out, trkE_end _ _ (by omega)]; rfl
      clear HY hE
      go_wp2_with fail
      refine (distances_any _ d _ (HD.out.keep hb.out)).mono ?_
      rintro e w1 ⟨rfl, hb1⟩
      have HB1 := Lib.hid (ext_trans hb.out hb1)
      clear hb1
      go_wp2_with fail
      go_ret
      exact ⟨ret_int HR.out.symm, HB1.out⟩
end Go.Proofs.YtpbmmdoodmbneaaGreatDoor

/- Contracts: Hours and empty of transport. -/
namespace Go.Proofs.YtpbmmdoodmbneaaGreatDoor
open Go.RowKit Go.Sort

/-- rows in memory, opened -/
theorem SS.open {w : World} {v : Value} {d : List (List Int)} (h : SS w v d) : ∃ a cap, v = .slice a d.length cap ∧ d.length ≤ cap ∧ d.length ≤ 9223372036854775807 ∧
    ∀ i, i < d.length → ∃ b off ra rc, a = some ⟨b, off, none⟩ ∧ w.cell? ⟨b, off + i, none⟩ = some (.slice ra (ri d i).length rc) ∧ (ri d i).length ≤ rc ∧ (ri d i).length ≤ 9223372036854775807 ∧
      ∀ j, j < (ri d i).length → ∃ b' off', ra = some ⟨b', off', none⟩ ∧ w.cell? ⟨b', off' + j, none⟩ = some (.int .i64 (gi (ri d i) j)) := by
  obtain ⟨vs, ⟨a, cap, rfl, h1, h2, h3⟩, h4⟩ := h
  unfold maxLen at h2
  refine ⟨a, cap, rfl, h1, by omega, fun i hi => ?_⟩
  obtain ⟨b, off, e, hc⟩ := h3 i hi
  obtain ⟨ra, rc, er, n1, n2, n3⟩ := h4 i hi
  unfold maxLen at n2
  exact ⟨b, off, ra, rc, e, by rw [hc, er], n1, by omega, n3⟩
set_option maxHeartbeats 2000000 in
theorem Hours_any (t : Trk) (v : Value) (d : List (List Int)) (f to : Int) (w : World) (h : SS w v d) :
    Calls Tryz.prog 14 #[.agg #[.string (bs t.name), .int .i64 t.load, .int .i64 t.hours], v, .int .i64 f, .int .i64 to] w (Ret w (.int .i64 (hoursV t d f to))) := by
  obtain ⟨a, cap, rfl, h1, h2, h3⟩ := h.open
  clear h
  have H3 := Lib.hid h3
  clear h3
  have HB : Hid (Below w.heap.size w (w.alloc (.cells #[.string (bs t.name), .int .i64 t.load, .int .i64 t.hours] 36))) := (Below.refl _ _).alloc (Nat.le_refl _) _
  cases c1 : btw t.hours 1 100
  · have HR : Hid (hoursV t d f to = 0) := by
      rw [btw_no] at c1; show _ = _; unfold hoursV; rw [if_pos (by omega)]
    go_enter Tryz.func14, Tryz.ntmps14
    go_wp2_with fail
    refine (between_any _ _ _ _).mono ?_
    rintro e w2 ⟨rfl, rfl⟩
    go_wp2_with fail
    go_ret
    exact ⟨ret_int HR.out.symm, HB.out⟩
  have hh := (btw_yes _ _ _).1 c1
  cases c2 : btw f 0 ((d.length : Int) - 1)
  · have HR : Hid (hoursV t d f to = 0) := by
      rw [btw_no] at c2; show _ = _; unfold hoursV; rw [if_pos (by omega)]
    go_enter Tryz.func14, Tryz.ntmps14
    go_wp2_with fail
    refine (between_any _ _ _ _).mono ?_
    rintro e w2 ⟨rfl, rfl⟩
    go_wp2_with fail
    refine (between_any _ _ _ _).mono ?_
    rintro e w2 ⟨rfl, rfl⟩
    go_wp2_with fail
    go_ret
    exact ⟨ret_int HR.out.symm, HB.out⟩
  have hf := (btw_yes _ _ _).1 c2
  obtain ⟨i, rfl⟩ : ∃ i : Nat, f = i := ⟨f.toNat, by omega⟩
  have hi : i < d.length := by omega
  obtain ⟨b, off, ra, rc, rfl, k1, n1, n2, n3⟩ := H3.out i hi
  have N3 := Lib.hid n3
  have hbl : b < w.heap.size := World.block_lt_of_cell? w _ k1
  clear n3
  cases c3 : btw to 0 (((ri d i).length : Int) - 1)
  · have HR : Hid (hoursV t d i to = 0) := by
      rw [btw_no] at c3; show _ = _; unfold hoursV; rw [if_pos (by rw [Int.toNat_natCast]; omega)]
    go_enter Tryz.func14, Tryz.ntmps14
    go_wp2_with fail
    refine (between_any _ _ _ _).mono ?_
    rintro e w2 ⟨rfl, rfl⟩
    go_wp2_with fail
    refine (between_any _ _ _ _).mono ?_
    rintro e w2 ⟨rfl, rfl⟩
    go_wp2_with fail
    refine (between_any _ _ _ _).mono ?_
    rintro e w2 ⟨rfl, rfl⟩
    go_wp2_with fail
    go_ret
    exact ⟨ret_int HR.out.symm, HB.out⟩
  have ht := (btw_yes _ _ _).1 c3
  obtain ⟨j, rfl⟩ : ∃ j : Nat, to = j := ⟨to.toNat, by omega⟩
  have hj : j < (ri d i).length := by omega
  obtain ⟨b2, off2, rfl, k2⟩ := N3.out j hj
  have hbl2 : b2 < w.heap.size := World.block_lt_of_cell? w _ k2
  have HV : Hid (hoursV t d i j = if wideB (gi (ri d i) j) = true then 0 else max (t.hours * gi (ri d i) j) 1) := by
    show _ = _; unfold hoursV; rw [Int.toNat_natCast, Int.toNat_natCast, if_neg (by omega)]
  generalize gi (ri d i) j = x at *
  generalize (ri d i).length = m at *
  cases c4 : btw x 0 10000
  · have HR : Hid (hoursV t d i j = 0) := by
      rw [btw_no] at c4; show _ = _; rw [HV.out, if_pos (by unfold wideB; simp; omega)]
    clear HV
    go_enter Tryz.func14, Tryz.ntmps14
    go_wp2_with fail
    refine (between_any _ _ _ _).mono ?_
    rintro e w2 ⟨rfl, rfl⟩
    go_wp2_with fail
    refine (between_any _ _ _ _).mono ?_
    rintro e w2 ⟨rfl, rfl⟩
    go_wp2_with fail
    refine (between_any _ _ _ _).mono ?_
    rintro e w2 ⟨rfl, rfl⟩
    go_wp2_with fail
    refine (between_any _ _ _ _).mono ?_
    rintro e w2 ⟨rfl, rfl⟩
    go_wp2_with fail
    go_ret
    exact ⟨ret_int HR.out.symm, HB.out⟩
  · have hx := (btw_yes _ _ _).1 c4
    have HR : Hid (hoursV t d i j = max (t.hours * x) 1) := by
      show _ = _; rw [HV.out, if_neg (by unfold wideB; simp; omega)]
    have hm2 : t.hours * x ≤ 100 * 10000 := Int.mul_le_mul hh.2 hx.2 hx.1 (by omega)
    have hm3 : 0 ≤ t.hours * x := Int.mul_nonneg (by omega) hx.1
    have hwr : IntKind.i64.wrap (t.hours * x) = t.hours * x := IntWalk.i64_in _ (by omega)
    clear HV
    go_enter Tryz.func14, Tryz.ntmps14
    go_wp2_with fail
    refine (between_any _ _ _ _).mono ?_
    rintro e w2 ⟨rfl, rfl⟩
    go_wp2_with fail
    refine (between_any _ _ _ _).mono ?_
    rintro e w2 ⟨rfl, rfl⟩
    go_wp2_with fail
    refine (between_any _ _ _ _).mono ?_
    rintro e w2 ⟨rfl, rfl⟩
    go_wp2_with fail
    refine (between_any _ _ _ _).mono ?_
    rintro e w2 ⟨rfl, rfl⟩
    go_wp2_with fail
    go_region
    go_wp2_with fail
    go_ret
    exact ⟨ret_int HR.out.symm, below_drewN' HB.out _⟩
theorem empty_gr (t : Trk) (v : Value) (d : List (List Int)) (i j : Nat) (w : World) (h : SS w v d) (hh : 1 ≤ t.hours ∧ t.hours ≤ 100) (hi : i < d.length) (hj : j < (ri d i).length) (hx : 0 ≤ gi (ri d i) j ∧ gi (ri d i) j ≤ 10000) :
    Calls Tryz.prog 22 #[.agg #[.string (bs t.name), .int .i64 t.load, .int .i64 t.hours], v, .int .i64 i, .int .i64 j] w fun e w' => e = .returned (.int .i64 (emptyV t d i j)) ∧ GR w w' := by
  obtain ⟨a, cap, rfl, h1, h2, h3⟩ := h.open
  clear h
  have HB : Hid (GR w (w.alloc (.cells #[.string (bs t.name), .int .i64 t.load, .int .i64 t.hours] 36))) := (GR.refl w).alloc _
  obtain ⟨b, off, ra, rc, rfl, k1, n1, n2, n3⟩ := h3 i hi
  obtain ⟨b2, off2, rfl, k2⟩ := n3 j hj
  have hbl : b < w.heap.size := World.block_lt_of_cell? w _ k1
  have hbl2 : b2 < w.heap.size := World.block_lt_of_cell? w _ k2
  clear h3 n3
  have HR : Hid (emptyV t d i j = (t.hours * gi (ri d i) j + 1) / 2) := by show _ = _; unfold emptyV; rw [Int.toNat_natCast, Int.toNat_natCast]
  generalize gi (ri d i) j = x at *
  generalize (ri d i).length = m at *
  have hm2 : t.hours * x ≤ 100 * 10000 := Int.mul_le_mul hh.2 hx.2 hx.1 (by omega)
  have hm3 : 0 ≤ t.hours * x := Int.mul_nonneg (by omega) hx.1
  have hwr : IntKind.i64.wrap (t.hours * x) = t.hours * x := IntWalk.i64_in _ (by omega)
  have hw2 : IntKind.i64.wrap (t.hours * x + 1) = t.hours * x + 1 := IntWalk.i64_in _ (by omega)
  have hq : (t.hours * x + 1).tdiv 2 = (t.hours * x + 1) / 2 := Int.tdiv_eq_ediv_of_nonneg (by omega)
  have hw3 : IntKind.i64.wrap ((t.hours * x + 1) / 2) = (t.hours * x + 1) / 2 := IntWalk.i64_in _ (by omega)
  have i1 : (0 : Int) ≤ i := by omega
  have i2 : (i : Int) < d.length := by omega
  have i3 : (i : Int) < cap := by omega
  have j1 : (0 : Int) ≤ j := by omega
  have j2 : (j : Int) < m := by omega
  have j3 : (j : Int) < rc := by omega
  go_enter Tryz.func22, Tryz.ntmps22
  go_wp2_with fail
  go_region
  go_wp2_with fail
  go_ret
  exact ⟨ret_int HR.out.symm, HB.out.drew⟩
theorem empty_any (t : Trk) (v : Value) (d : List (List Int)) (i j : Nat) (w : World) (h : SS w v d) (hh : 1 ≤ t.hours ∧ t.hours ≤ 100) (hi : i < d.length) (hj : j < (ri d i).length) (hx : 0 ≤ gi (ri d i) j ∧ gi (ri d i) j ≤ 10000) :
    Calls Tryz.prog 22 #[.agg #[.string (bs t.name), .int .i64 t.load, .int .i64 t.hours], v, .int .i64 i, .int .i64 j] w (Ret w (.int .i64 (emptyV t d i j))) :=
  (empty_gr t v d i j w h hh hi hj hx).mono fun _ _ ⟨h1, h2⟩ => ⟨h1, h2.below⟩
end Go.Proofs.YtpbmmdoodmbneaaGreatDoor

/- Contract: check of transport. -/
namespace Go.Proofs.YtpbmmdoodmbneaaGreatDoor
open Go.RowKit Go.Sort

theorem findG_any {α : Type} (p : α → Bool) (xs : List α) : decide (0 ≤ findG p xs) = xs.any p := by
  rw [Bool.eq_iff_iff, decide_eq_true_eq]
  simp only [findG]
  cases hh : xs.findIdx? p with
  | none => rw [List.findIdx?_eq_none_iff] at hh; simp; intro x hx; simpa using hh x hx
  | some i => rw [List.findIdx?_eq_some_iff_getElem] at hh; obtain ⟨h1, h2, _⟩ := hh; simp; exact ⟨_, List.getElem_mem h1, h2⟩
theorem findG_contains (x : List UInt8) (l : List Mov) : decide (0 ≤ findG (fun m => m.item == x) l) = (l.map Mov.item).contains x := by
  rw [findG_any, Bool.eq_iff_iff, List.any_eq_true, List.contains_iff_mem, List.mem_map]
  constructor
  · rintro ⟨m, hm, h⟩; exact ⟨m, hm, by simpa using h⟩
  · rintro ⟨m, hm, h⟩; exact ⟨m, hm, by simpa using h⟩
theorem movE_at {n : Nat} {ms : List Mov} {k : Nat} (h : k < ms.length) : movE n ((ms.take k).map Mov.item) (ms.drop k) =
    if idB (mvi ms k).item = false then 6 else if badM n (mvi ms k) = true then 9 else if ((ms.take k).map Mov.item).contains (mvi ms k).item = true then 7 else movE n ((ms.take (k + 1)).map Mov.item) (ms.drop (k + 1)) := by
  rw [List.drop_eq_getElem_cons h, ← mvi_lt h]
  show (if idB (mvi ms k).item = false then (6 : Int) else _) = _
  rw [take_mvi h, List.map_append]; rfl
theorem movE_end (n : Nat) (bs : List (List UInt8)) (ms : List Mov) {k : Nat} (h : ms.length ≤ k) : movE n bs (ms.drop k) = 0 := by
  rw [List.drop_eq_nil_of_le h]; rfl
theorem badM_btw (n : Nat) (m : Mov) : badM n m = (!btw m.frm 0 ((n : Int) - 1) || !btw m.to 0 ((n : Int) - 1) || !btw m.ready 0 1048576 || !btw m.mass 0 1099511627776) := by
  unfold badM btw
  rw [Bool.eq_iff_iff]
  simp only [Bool.or_eq_true, decide_eq_true_eq, Bool.not_eq_true', Bool.and_eq_false_iff, decide_eq_false_iff_not]
  omega
set_option maxHeartbeats 2000000 in
theorem check_any (mv v dv : Value) (ms : List Mov) (tr : List Trk) (d : List (List Int)) (w : World) (hm : SM w mv ms) (h : SK w v tr) (hd : SS w dv d) (hz : ∀ t ∈ tr, t.name.length ≤ maxLen) (hzm : ∀ m ∈ ms, m.item.length ≤ maxLen) (hM : MLen w) :
    Calls Tryz.prog 15 #[mv, v, dv] w (Ret w (.int .i64 (inE ms tr d))) := by
  have HM := Lib.hid hm
  have HZM := Lib.hid hzm
  have HML := Lib.hid hM
  have HCY := Lib.hid (CheckYard_any v dv tr d w h hd hz)
  obtain ⟨a, cap, rfl, h1, h2, h3⟩ := hm
  obtain ⟨da, dc, rfl, g1, g2, _⟩ := hd.open
  have H3 := Lib.hid h3
  have hm : ms.length ≤ 9223372036854775807 := by unfold maxLen at h2; omega
  clear hzm hM h hd hz h3
  have HIE : Hid (inE ms tr d = if yardE tr d ≠ 0 then yardE tr d else if 128 < ms.length then 4 else movE d.length [] ms) := rfl
  have HYD : Hid (yardE tr d = 0 → 1 ≤ d.length) := fun h => (yard_ok h).d1
  generalize yardE tr d = y at *
  by_cases hy : y = 0
  · subst hy
    have hd1 := HYD.out rfl
    have HI2 : Hid (inE ms tr d = if 128 < ms.length then 4 else movE d.length [] ms) := HIE.out
    clear HIE HYD
    by_cases hl : 128 < ms.length
    · have HR : Hid (inE ms tr d = 4) := by show _ = _; rw [HI2.out, if_pos hl]
      clear HI2
      go_enter Tryz.func15, Tryz.ntmps15
      go_wp2_with fail
      refine HCY.out.mono ?_
      rintro e w1 ⟨rfl, hb1⟩
      go_wp2_with fail
      go_ret
      exact ⟨ret_int HR.out.symm, hb1⟩
    · have HI3 : Hid (inE ms tr d = movE d.length [] ms) := by show _ = _; rw [HI2.out, if_neg hl]
      clear HI2
      have hl2 : ms.length ≤ 128 := by omega
      clear hl
      go_enter Tryz.func15, Tryz.ntmps15
      go_wp2_with fail
      refine HCY.out.mono ?_
      rintro e w1 ⟨rfl, hb1⟩
      have HB0 := Lib.hid hb1
      clear hb1
      go_wp2_with fail
      go_loopw [21] (fun i wr => ∃ k : Nat, k ≤ ms.length ∧ i = .int .i64 k ∧ Hid (Below w.heap.size w wr) ∧ Hid (inE ms tr d = movE d.length ((ms.take k).map Mov.item) (ms.drop k))) (fun i _ => ms.length - (intOf i).toNat)
      case atStart => exact ⟨0, Nat.zero_le _, rfl, HB0, HI3.out⟩
      case round =>
        clear HB0 HI3 HCY
        obtain ⟨k, hk, rfl, hb, hE⟩ := hrel
        by_cases hlt : k < ms.length
        · obtain ⟨b, off, ha, hc⟩ := H3.out k hlt
          subst ha
          have hc' := hc.keep hb.out
          have hnz := HZM.out _ (mvi_mem hlt)
          have HT := Lib.hid (movE_at (n := d.length) hlt)
          have HST := Lib.hid ((HM.out.keep hb.out).take k (by omega))
          have HFC : Hid (∀ x, decide (0 ≤ findG (fun m => m.item == x) (ms.take k)) = ((ms.take k).map Mov.item).contains x) := fun x => findG_contains x _
          generalize mvi ms k = t at *
          obtain ⟨c0, c1, c2, c3, c4⟩ := hc'
          clear hc
          go_wp2_with fail
          refine (IsId_any (bs t.item) _ (by rw [bs_size]; exact hnz) (HML.out.keep (below_alloc hb.out _))).mono ?_
          rintro e w1 ⟨rfl, hb1⟩
          rw [bs_list]
          have q0 := cell_keep hb1 (p := ⟨wr.heap.size, 0, none⟩) (v := .string (bs t.item)) (by go_simp)
          have q1 := cell_keep hb1 (p := ⟨wr.heap.size, 1, none⟩) (v := .int .i64 t.frm) (by go_simp)
          have q2 := cell_keep hb1 (p := ⟨wr.heap.size, 2, none⟩) (v := .int .i64 t.to) (by go_simp)
          have q3 := cell_keep hb1 (p := ⟨wr.heap.size, 3, none⟩) (v := .int .i64 t.ready) (by go_simp)
          have q4 := cell_keep hb1 (p := ⟨wr.heap.size, 4, none⟩) (v := .int .i64 t.mass) (by go_simp)
          have HB1 := Lib.hid (ext_trans (below_alloc hb.out _) hb1)
          have HST1 := Lib.hid (HST.out.keep (ext_trans ((Below.refl _ _).alloc (Nat.le_refl _) _) hb1))
          clear hb1 hnz c0 c1 c2 c3 c4 HST
          cases hn : idB t.item
          · rw [if_pos hn] at HT
            go_wp2_with fail
            go_ret
            exact ⟨ret_int (by rw [hE.out, HT.out]), HB1.out⟩
          rw [if_neg (by rw [hn]; decide), badM_btw] at HT
          clear hn
          have stop : (!btw t.frm 0 ((d.length : Int) - 1) || !btw t.to 0 ((d.length : Int) - 1) || !btw t.ready 0 1048576 || !btw t.mass 0 1099511627776) = true → inE ms tr d = 9 := fun h => by rw [hE.out, HT.out, if_pos h]
          have STOP := Lib.hid stop
          clear stop
          cases b1 : btw t.frm 0 ((d.length : Int) - 1)
          · have HR := Lib.hid (STOP.out (by rw [b1]; rfl))
            clear STOP HT
            go_wp2_with fail
            refine (between_any _ _ _ _).mono ?_
            rintro e w2 ⟨rfl, rfl⟩
            go_wp2_with fail
            go_ret
            exact ⟨ret_int HR.out.symm, HB1.out⟩
          cases b2 : btw t.to 0 ((d.length : Int) - 1)
          · have HR := Lib.hid (STOP.out (by rw [b1, b2]; rfl))
            clear STOP HT
            go_wp2_with fail
            refine (between_any _ _ _ _).mono ?_
            rintro e w2 ⟨rfl, rfl⟩
            go_wp2_with fail
            refine (between_any _ _ _ _).mono ?_
            rintro e w2 ⟨rfl, rfl⟩
            go_wp2_with fail
            go_ret
            exact ⟨ret_int HR.out.symm, HB1.out⟩
          cases b3 : btw t.ready 0 1048576
          · have HR := Lib.hid (STOP.out (by rw [b1, b2, b3]; rfl))
            clear STOP HT
            go_wp2_with fail
            refine (between_any _ _ _ _).mono ?_
            rintro e w2 ⟨rfl, rfl⟩
            go_wp2_with fail
            refine (between_any _ _ _ _).mono ?_
            rintro e w2 ⟨rfl, rfl⟩
            go_wp2_with fail
            refine (between_any _ _ _ _).mono ?_
            rintro e w2 ⟨rfl, rfl⟩
            go_wp2_with fail
            go_ret
            exact ⟨ret_int HR.out.symm, HB1.out⟩
          cases b4 : btw t.mass 0 1099511627776
          · have HR := Lib.hid (STOP.out (by rw [b1, b2, b3, b4]; rfl))
            clear STOP HT
            go_wp2_with fail
            refine (between_any _ _ _ _).mono ?_
            rintro e w2 ⟨rfl, rfl⟩
            go_wp2_with fail
            refine (between_any _ _ _ _).mono ?_
            rintro e w2 ⟨rfl, rfl⟩
            go_wp2_with fail
            refine (between_any _ _ _ _).mono ?_
            rintro e w2 ⟨rfl, rfl⟩
            go_wp2_with fail
            refine (between_any _ _ _ _).mono ?_
            rintro e w2 ⟨rfl, rfl⟩
            go_wp2_with fail
            go_ret
            exact ⟨ret_int HR.out.symm, HB1.out⟩
          · have HT2 : Hid (inE ms tr d = if ((ms.take k).map Mov.item).contains t.item = true then 7 else movE d.length ((ms.take (k + 1)).map Mov.item) (ms.drop (k + 1))) := by
              show _ = _; rw [hE.out, HT.out, b1, b2, b3, b4]; rfl
            clear STOP HT hE
            have HF := Lib.hid (HFC.out t.item)
            clear HFC
            have s1 : (k : Int) ≤ cap := by omega
            go_wp2_with fail
            refine (between_any _ _ _ _).mono ?_
            rintro e w2 ⟨rfl, rfl⟩
            go_wp2_with fail
            refine (between_any _ _ _ _).mono ?_
            rintro e w2 ⟨rfl, rfl⟩
            go_wp2_with fail
            refine (between_any _ _ _ _).mono ?_
            rintro e w2 ⟨rfl, rfl⟩
            go_wp2_with fail
            refine (between_any _ _ _ _).mono ?_
            rintro e w2 ⟨rfl, rfl⟩
            go_wp2_with fail
            clear b1 b2 b3 b4
            go_region_with (refine (find_M _ _ _ _ (HST1.out.keep (Below.refl _ _).drew)).mono ?_; rintro e w3 ⟨rfl, hb3⟩)
            have HB3 := Lib.hid (ext_trans HB1.out (ext_trans (Below.refl _ _).drew hb3))
            clear hb3
            cases hq : ((ms.take k).map Mov.item).contains t.item
            · have HN : Hid (inE ms tr d = movE d.length ((ms.take (k + 1)).map Mov.item) (ms.drop (k + 1))) := by show _ = _; rw [HT2.out, hq]; rfl
              have hf := HF.out
              rw [hq, decide_eq_false_iff_not] at hf
              clear hq HT2
              go_wp2_with fail
              go_roundw
              case rel => exact ⟨k + 1, by omega, by go_num, HB3, HN⟩
              case measure => simp [intOf]; omega
            · have HR : Hid (inE ms tr d = 7) := by show _ = _; rw [HT2.out, hq]; rfl
              have hf := HF.out
              rw [hq, decide_eq_true_eq] at hf
              clear hq HT2
              go_wp2_with fail
              go_ret
              exact ⟨ret_int HR.out.symm, HB3.out⟩
        · have HR : Hid (inE ms tr d = 0) := by show _ = _; rw [hE.out, movE_end _ _ _ (by omega)]
          clear hE
          go_wp2_with fail
          go_ret
          exact ⟨ret_int HR.out.symm, hb.out⟩
  · have HR : Hid (inE ms tr d = y) := by show _ = _; rw [HIE.out, if_pos hy]
    have hyb : (y != 0) = true := by simpa using hy
    clear HIE HYD hy
    go_enter Tryz.func15, Tryz.ntmps15
    go_wp2_with fail
    refine HCY.out.mono ?_
    rintro e w1 ⟨rfl, hb1⟩
    go_wp2_with fail
    go_ret
    exact ⟨ret_int HR.out.symm, hb1⟩
end Go.Proofs.YtpbmmdoodmbneaaGreatDoor
