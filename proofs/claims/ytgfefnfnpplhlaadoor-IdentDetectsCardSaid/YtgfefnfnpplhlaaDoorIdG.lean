/- Contracts: IsId, Split, Join, Same of the reference of ident. -/
import Derived.Test.YtgfefnfnpplhlaaDoorIdF
namespace Go.Proofs.YtgfefnfnpplhlaaDoor
open Go.RowKit

theorem idB_parts {l : List UInt8} {ss : List ByteArray} (h : bl ss = cutL l) (h64 : l.length ≤ 64) (h8 : ss.length ≤ 8) (ha : ∀ j, j < ss.length → nameB (zi ss j).data.toList = true) : idB l = true := by
  unfold idB
  rw [← h, all_names ha, bl_length]
  simp; omega
theorem idB_many {l : List UInt8} {ss : List ByteArray} (h : bl ss = cutL l) (h8 : 8 < ss.length) : idB l = false := by
  unfold idB
  rw [← h, bl_length]
  have : decide (ss.length ≤ 8) = false := by rw [decide_eq_false_iff_not]; omega
  rw [this]; simp
theorem idB_bad {l : List UInt8} {ss : List ByteArray} (h : bl ss = cutL l) {j : Nat} (hj : j < ss.length) (hn : nameB (zi ss j).data.toList = false) : idB l = false := by
  rw [idB_names, ← h]; exact namesB_no hj hn

set_option maxHeartbeats 1000000 in
theorem rIsId_any (s : ByteArray) (w : World) (hs : s.size ≤ 1000000) : Calls Tryd.prog 15 #[.string s] w (Ret w (.bool (idB s.data.toList))) := by
  have hls := size_data s
  have HLS := Lib.hid hls
  clear hls
  go_enter Tryd.func15, Tryd.ntmps15
  go_wp2_with fail
  refine (rparts_any s _ hs).mono ?_
  rintro e w1 ⟨v, ss, rfl, hbl, hz, hsl, hb⟩
  have HB1 := Lib.hid hb
  have HZ1 := Lib.hid hz
  have HBL := Lib.hid hbl
  have HPL := Lib.hid (pieces_le hbl)
  obtain ⟨a, cap, e1, h1, h2, h3⟩ := hz
  subst e1
  have H3 := Lib.hid h3
  clear hb hbl h3
  by_cases h64 : 64 < s.size
  · have b1 : decide ((64 : Int) < s.size) = true := by rw [decide_eq_true_eq]; omega
    have HN := Lib.hid (idB_long h64)
    go_wp2_with fail
    go_ret
    exact ⟨ret_bool HN.out.symm, HB1.out⟩
  have b1 : decide ((64 : Int) < s.size) = false := by rw [decide_eq_false_iff_not]; omega
  by_cases h8 : 8 < ss.length
  · have b2 : decide ((8 : Int) < ss.length) = true := by rw [decide_eq_true_eq]; omega
    have HN := Lib.hid (idB_many HBL.out h8)
    go_wp2_with fail
    go_ret
    exact ⟨ret_bool HN.out.symm, HB1.out⟩
  have b2 : decide ((8 : Int) < ss.length) = false := by rw [decide_eq_false_iff_not]; omega
  go_wp2_with fail
  go_loopw [4] (fun i wr => ∃ k : Nat, k ≤ ss.length ∧ i = .int .i64 k ∧ (∃ m, wr = w1.drewN m) ∧ Hid (∀ j, j < k → nameB (zi ss j).data.toList = true)) (fun i _ => ss.length - (intOf i).toNat)
  case atStart => exact ⟨0, Nat.zero_le _, rfl, ⟨0, rfl⟩, fun j hj => by omega⟩
  case round =>
    obtain ⟨k, hk, rfl, ⟨m, rfl⟩, hj⟩ := hrel
    by_cases hlt : k < ss.length
    · obtain ⟨b, off, ha, hc⟩ := H3.out k hlt
      try dsimp only at hc
      subst ha
      have HYES : Hid (nameB (zi ss k).data.toList = true → ∀ j, j < k + 1 → nameB (zi ss j).data.toList = true) := fun h => upto hj.out h
      have HNO : Hid (nameB (zi ss k).data.toList = false → idB s.data.toList = false) := fun h => idB_bad HBL.out hlt h
      have hsz := HPL.out _ (zi_mem hlt)
      rw [HLS.out] at hsz
      obtain ⟨y, hy⟩ : ∃ y, zi ss k = y := ⟨_, rfl⟩
      rw [hy] at hc HYES HNO hsz
      clear hy hj
      go_wp2_with fail
      refine (rIsName_any y _ (by unfold maxLen; omega)).mono ?_
      rintro e w2 ⟨rfl, m2, rfl⟩
      cases hn : nameB y.data.toList
      · have HR := Lib.hid (HNO.out hn)
        clear hn
        go_wp2_with fail
        go_ret
        exact ⟨ret_bool HR.out.symm, below_drewN' HB1.out _⟩
      · have HR := Lib.hid (HYES.out hn)
        clear hn
        go_wp2_with fail
        go_roundw
        case rel => exact ⟨k + 1, by omega, by go_num, ⟨_, rfl⟩, HR.out⟩
        case measure => simp [intOf]; omega
    · have HN := Lib.hid (idB_parts HBL.out (by rw [HLS.out]; omega) (by omega) (fun j h => hj.out j (by omega)))
      go_wp2_with fail
      go_ret
      exact ⟨ret_bool HN.out.symm, below_drewN' HB1.out _⟩

theorem rSplit_any (s : ByteArray) (w : World) (hs : s.size ≤ 1000000) : Calls Tryd.prog 17 #[.string s] w (SplitR w s.data.toList) := by
  go_enter Tryd.func17, Tryd.ntmps17
  go_wp2_with fail
  refine (rIsId_any s _ hs).mono ?_
  rintro e w1 ⟨rfl, hb1⟩
  have HB1 := Lib.hid hb1
  clear hb1
  cases hi : idB s.data.toList
  · have HI := Lib.hid hi
    clear hi
    go_wp2_with fail
    go_ret2
    exact splitR_no HI.out rfl HB1.out
  · have HI := Lib.hid hi
    clear hi
    go_wp2_with fail
    refine (rparts_any s _ hs).mono ?_
    rintro e w2 ⟨v, ss, rfl, hbl, hz, hsl, hb2⟩
    have HB2 := Lib.hid (ext_trans HB1.out hb2)
    have HZ := Lib.hid hz
    have HBL := Lib.hid hbl
    obtain ⟨a, c, e1, _⟩ : ∃ a c, v = .slice a ss.length c ∧ ss.length ≤ c := by obtain ⟨a, c, e, h, _⟩ := hz; exact ⟨a, c, e, h⟩
    subst e1
    clear hb2 hz hbl
    go_wp2_with fail
    go_ret2
    exact splitR_yes HI.out rfl HZ.out HBL.out HB2.out

/-! Join: from the left -/
def jPre (ss : List ByteArray) (k : Nat) : List UInt8 := if k = 0 then (zi ss 0).data.toList else joinL ((bl ss).take k)
theorem joinL_snoc {xs : List (List UInt8)} (h : xs ≠ []) (y : List UInt8) : joinL (xs ++ [y]) = joinL xs ++ 46 :: y := by
  induction xs with
  | nil => exact absurd rfl h
  | cons x xs ih =>
    cases xs with
    | nil => rfl
    | cons z zs =>
      have e1 := joinL_cons (x := x) (xs := z :: zs ++ [y]) (by simp)
      have e2 := joinL_cons (x := x) (xs := z :: zs) (by simp)
      rw [List.cons_append, e1, ih (by simp), e2]; simp
theorem jPre_succ {ss : List ByteArray} {k : Nat} (h : k < ss.length) : jPre ss (k + 1) = if k = 0 then jPre ss 0 else jPre ss k ++ 46 :: (zi ss k).data.toList := by
  unfold jPre
  have hk : k < (bl ss).length := by rw [bl_length]; exact h
  have e : (bl ss)[k] = (zi ss k).data.toList := by simp [bl, zi_lt h]
  rw [if_neg (by omega), List.take_succ_eq_append_getElem hk, e]
  by_cases h0 : k = 0
  · subst h0; rw [if_pos rfl, if_pos rfl]; rfl
  · rw [if_neg h0, if_neg h0, joinL_snoc]
    intro e2
    have := congrArg List.length e2
    simp only [List.length_take, bl_length, List.length_nil] at this
    omega
theorem jPre_all {ss : List ByteArray} (h : 0 < ss.length) : jPre ss ss.length = joinL (bl ss) := by
  unfold jPre; rw [if_neg (by omega), List.take_of_length_le (by rw [bl_length]; exact Nat.le_refl _)]
theorem jPre_len {ss : List ByteArray} (hn : ∀ x ∈ ss, x.size ≤ 1000) {k : Nat} (hk : k ≤ ss.length) (h0 : 0 < ss.length) : (jPre ss k).length ≤ 1000 + k * 1001 := by
  induction k with
  | zero =>
    have := hn _ (zi_mem h0)
    unfold jPre; rw [if_pos rfl, size_data]; omega
  | succ k ih =>
    have h1 := ih (by omega)
    have h2 := hn _ (zi_mem (show k < ss.length by omega))
    rw [jPre_succ (by omega)]
    split
    · have h3 := hn _ (zi_mem h0)
      unfold jPre; rw [if_pos rfl, size_data]; omega
    · rw [List.length_append, List.length_cons, size_data]; omega
theorem namesB_final {ss : List ByteArray} (h1 : 1 ≤ ss.length) (h8 : ss.length ≤ 8) (ha : ∀ j, j < ss.length → nameB (zi ss j).data.toList = true) : namesB (bl ss) = decide ((joinL (bl ss)).length ≤ 64) := by
  unfold namesB
  rw [all_names ha, bl_length]
  have e1 : decide (1 ≤ ss.length) = true := by rw [decide_eq_true_eq]; exact h1
  have e2 : decide (ss.length ≤ 8) = true := by rw [decide_eq_true_eq]; exact h8
  rw [e1, e2]; rfl
theorem namesB_count {ss : List ByteArray} (h : ss.length < 1 ∨ 8 < ss.length) : namesB (bl ss) = false := by
  unfold namesB
  rw [bl_length]
  rcases h with h | h
  · have : decide (1 ≤ ss.length) = false := by rw [decide_eq_false_iff_not]; omega
    rw [this]; simp
  · have : decide (ss.length ≤ 8) = false := by rw [decide_eq_false_iff_not]; omega
    rw [this]; simp
theorem bytes_of (s : ByteArray) : s = ⟨s.data.toList.toArray⟩ := by cases s; simp

set_option maxHeartbeats 1000000 in
theorem rJoin_any (v : Value) (ss : List ByteArray) (w : World) (h : SZ w v ss) (hz : ∀ x ∈ ss, x.size ≤ 1000) : Calls Tryd.prog 20 #[v] w (JoinR w (bl ss)) := by
  obtain ⟨a, cap, rfl, h1, h2, h3⟩ := h
  have H3 := Lib.hid h3
  have HZ := Lib.hid hz
  have hm : ss.length ≤ 9223372036854775807 := by unfold maxLen at h2; omega
  clear h3 hz
  by_cases hc : ss.length < 1 ∨ 8 < ss.length
  · have HN := Lib.hid (namesB_count hc)
    have hb : decide ((ss.length : Int) < 1) = true ∨ decide ((ss.length : Int) < 1) = false ∧ decide ((8 : Int) < ss.length) = true := by
      by_cases h0 : ss.length < 1
      · left; rw [decide_eq_true_eq]; omega
      · right; exact ⟨by rw [decide_eq_false_iff_not]; omega, by rw [decide_eq_true_eq]; omega⟩
    clear hc
    go_enter Tryd.func20, Tryd.ntmps20
    rcases hb with hb | ⟨hb, hb2⟩
    all_goals
      go_wp2_with fail
      go_ret2
      exact joinR_no HN.out rfl (Below.refl _ _)
  have hb1 : decide ((ss.length : Int) < 1) = false := by rw [decide_eq_false_iff_not]; omega
  have hb2 : decide ((8 : Int) < ss.length) = false := by rw [decide_eq_false_iff_not]; omega
  have hl1 : 1 ≤ ss.length := by omega
  have hl8 : ss.length ≤ 8 := by omega
  clear hc
  obtain ⟨b, off, ha, hc0⟩ := H3.out 0 (by omega)
  have hA := ha
  subst ha
  try dsimp only at hc0
  rw [Nat.add_zero] at hc0
  have i1 : (0 : Int) < ss.length := by omega
  have i2 : (0 : Int) < cap := by omega
  have i3 : 0 < cap := by omega
  go_enter Tryd.func20, Tryd.ntmps20
  go_wp2_with fail
  go_loopw [4, 5] (fun t i wr => ∃ (k : Nat) (s : ByteArray), k ≤ ss.length ∧ i = .int .i64 k ∧ t = .string s ∧ Hid (s.data.toList = jPre ss k) ∧ (∃ m, wr = w.drewN m) ∧ Hid (∀ j, j < k → nameB (zi ss j).data.toList = true)) (fun _ i _ => ss.length - (intOf i).toNat)
  case atStart => exact ⟨0, _, Nat.zero_le _, rfl, rfl, by show _ = _; unfold jPre; rw [if_pos rfl], ⟨0, rfl⟩, fun j hj => by omega⟩
  case round =>
    obtain ⟨k, s, hk, rfl, rfl, hp, ⟨m, rfl⟩, hj⟩ := hrel
    by_cases hlt : k < ss.length
    · obtain ⟨b', off', ha', hc⟩ := H3.out k hlt
      simp at ha'
      obtain ⟨rfl, rfl⟩ := ha'
      try dsimp only at hc
      have HYES : Hid (nameB (zi ss k).data.toList = true → ∀ j, j < k + 1 → nameB (zi ss j).data.toList = true) := fun h => upto hj.out h
      have HNO : Hid (nameB (zi ss k).data.toList = false → namesB (bl ss) = false) := fun h => namesB_no hlt h
      have hsz := HZ.out _ (zi_mem hlt)
      have HJ := Lib.hid (jPre_succ hlt)
      have hpl := jPre_len HZ.out hk (by omega)
      have hps := congrArg List.length hp.out
      rw [size_data] at hps
      obtain ⟨y, hy⟩ : ∃ y, zi ss k = y := ⟨_, rfl⟩
      rw [hy] at hc HYES HNO hsz HJ
      have hss : s.size ≤ 10000 := by omega
      clear hy hj hps hpl hc0
      go_wp2_with fail
      refine (rIsName_any y _ (by unfold maxLen; omega)).mono ?_
      rintro e w2 ⟨rfl, m2, rfl⟩
      cases hn : nameB y.data.toList
      · have HR := Lib.hid (HNO.out hn)
        clear hn
        go_wp2_with fail
        go_ret2
        exact joinR_no HR.out rfl (below_drewN' (Below.refl _ _) _)
      · have HR := Lib.hid (HYES.out hn)
        clear hn
        by_cases h0 : k = 0
        · have b0 : decide ((0 : Int) < k) = false := by rw [decide_eq_false_iff_not]; omega
          have b00 : decide (0 < k) = false := by rw [decide_eq_false_iff_not]; omega
          have HP : Hid (s.data.toList = jPre ss (k + 1)) := by show _ = _; rw [HJ.out, if_pos h0, hp.out, h0]
          clear h0
          go_wp2_with fail
          go_roundw
          case rel => exact ⟨k + 1, s, by omega, by go_num, rfl, HP, ⟨_, rfl⟩, HR.out⟩
          case measure => simp [intOf]; omega
        · have b0 : decide ((0 : Int) < k) = true := by rw [decide_eq_true_eq]; omega
          have b00 : decide (0 < k) = true := by rw [decide_eq_true_eq]; omega
          have HP : Hid (((s ++ (⟨#[46]⟩ : ByteArray)) ++ y).data.toList = jPre ss (k + 1)) := by
            show _ = _
            rw [HJ.out, if_neg h0, ← hp.out]; simp
          clear h0
          go_wp2_with fail
          go_roundw
          case rel => exact ⟨k + 1, (s ++ (⟨#[46]⟩ : ByteArray)) ++ y, by omega, by go_num, rfl, HP, ⟨_, rfl⟩, HR.out⟩
          case measure => simp [intOf]; omega
    · obtain rfl : k = ss.length := by omega
      have HF := Lib.hid (namesB_final hl1 hl8 hj.out)
      have hps := hp.out
      rw [jPre_all (by omega)] at hps
      have HP := Lib.hid hps
      have hsz := congrArg List.length hps
      rw [size_data] at hsz
      by_cases h64 : 64 < s.size
      · have b1 : decide ((64 : Int) < s.size) = true := by rw [decide_eq_true_eq]; omega
        have HN : Hid (namesB (bl ss) = false) := by show _ = _; rw [HF.out, decide_eq_false_iff_not] <;> omega
        clear hsz hps hj
        go_wp2_with fail
        go_ret2
        exact joinR_no HN.out rfl (below_drewN' (Below.refl _ _) _)
      · have b1 : decide ((64 : Int) < s.size) = false := by rw [decide_eq_false_iff_not]; omega
        have HN : Hid (namesB (bl ss) = true) := by show _ = _; rw [HF.out, decide_eq_true_eq] <;> omega
        have HS : Hid (s = ⟨(joinL (bl ss)).toArray⟩) := by show _ = _; rw [← HP.out]
        clear hsz hps hj
        go_wp2_with fail
        go_ret2
        exact joinR_yes HN.out (by rw [← HS.out]; rfl) (below_drewN' (Below.refl _ _) _)

set_option maxHeartbeats 1000000 in
theorem rSame_any (v u : Value) (xs ys : List ByteArray) (w : World) (h : SZ w v xs) (g : SZ w u ys) :
    Calls Tryd.prog 18 #[v, u] w fun e w' => e = .returned (.bool (decide (bl xs = bl ys))) ∧ ∃ m, w' = w.drewN m := by
  obtain ⟨a, cap, rfl, h1, h2, h3⟩ := h
  obtain ⟨a', cap', rfl, g1, g2, g3⟩ := g
  have H3 := Lib.hid h3
  have G3 := Lib.hid g3
  have hm : xs.length ≤ 9223372036854775807 := by unfold maxLen at h2; omega
  have hm' : ys.length ≤ 9223372036854775807 := by unfold maxLen at g2; omega
  clear h3 g3
  by_cases c0 : xs.length = ys.length
  rotate_left
  · have hb : ((xs.length : Int) != (ys.length : Int)) = true := by rw [bne_iff_ne]; omega
    have hf := Lib.hid (show decide (bl xs = bl ys) = false by rw [decide_eq_false_iff_not]; intro e; have := congrArg List.length e; rw [bl_length, bl_length] at this; exact c0 this)
    clear c0
    go_enter Tryd.func18, Tryd.ntmps18
    go_wp2_with fail
    go_ret
    exact ⟨ret_bool hf.out.symm, 0, rfl⟩
  have hb : ((xs.length : Int) != (ys.length : Int)) = false := by rw [bne_eq_false_iff_eq]; omega
  have hle : xs.length ≤ ys.length := by omega
  have C0 := Lib.hid c0
  clear c0
  go_enter Tryd.func18, Tryd.ntmps18
  go_wp2_with fail
  go_loopw [5] (fun i wr => ∃ k : Nat, k ≤ xs.length ∧ i = .int .i64 k ∧ (∃ m, wr = w.drewN m) ∧ Hid (∀ j, j < k → zi xs j = zi ys j)) (fun i _ => xs.length - (intOf i).toNat)
  case atStart => exact ⟨0, Nat.zero_le _, rfl, ⟨0, rfl⟩, fun j hj => by omega⟩
  case round =>
    obtain ⟨k, hk, rfl, ⟨m, rfl⟩, hj⟩ := hrel
    by_cases hlt : k < xs.length
    · obtain ⟨b, off, ha, hc⟩ := H3.out k hlt
      obtain ⟨b2, off2, ha2, hc2⟩ := G3.out k (by omega)
      try dsimp only at hc
      try dsimp only at hc2
      subst ha ha2
      have i1 : (0 : Int) ≤ k := by omega
      have i2 : (k : Int) < xs.length := by omega
      have i3 : (k : Int) < ys.length := by omega
      have i4 : (k : Int) < cap := by omega
      have i5 : (k : Int) < cap' := by omega
      have HYES : Hid (zi xs k = zi ys k → ∀ j, j < k + 1 → zi xs j = zi ys j) := fun h => upto hj.out h
      have HNO : Hid (zi xs k ≠ zi ys k → decide (bl xs = bl ys) = false) := fun h => by
        rw [decide_eq_false_iff_not]
        intro e
        apply h
        have e2 : (bl xs)[k]? = (bl ys)[k]? := by rw [e]
        unfold bl at e2
        rw [List.getElem?_map, List.getElem?_map, List.getElem?_eq_getElem hlt, List.getElem?_eq_getElem (show k < ys.length by omega)] at e2
        simp only [Option.map_some, Option.some.injEq] at e2
        rw [zi_lt hlt, zi_lt (show k < ys.length by omega)]
        rw [bytes_of xs[k], bytes_of ys[k], e2]
      obtain ⟨x, hx⟩ : ∃ x, zi xs k = x := ⟨_, rfl⟩
      obtain ⟨y, hy⟩ : ∃ y, zi ys k = y := ⟨_, rfl⟩
      rw [hx] at hc HYES HNO
      rw [hy] at hc2 HYES HNO
      clear hx hy hj
      by_cases hxy : x = y
      · have HR := Lib.hid (HYES.out hxy)
        have b2 : (x.toList == y.toList) = true := by rw [hxy]; simp
        have b1 : (x.toList != y.toList) = false := by rw [hxy]; simp
        clear hxy
        go_wp2_with fail
        go_quiet (fail)
        go_wp2_with fail
        go_roundw
        case rel => exact ⟨k + 1, by omega, by go_num, (by first | exact ⟨_, rfl⟩ | exact dn2 _ _ _), HR.out⟩
        case measure => simp [intOf]; omega
      · have HR := Lib.hid (HNO.out hxy)
        have hne : x.toList ≠ y.toList := fun e => hxy (by rw [bytes_of x, bytes_of y, ← toList_data, ← toList_data, e])
        have b1 : (x.toList != y.toList) = true := by rw [bne_iff_ne]; exact hne
        have b2 : (x.toList == y.toList) = false := by rw [beq_eq_false_iff_ne]; exact hne
        clear hxy hne
        go_wp2_with fail
        go_quiet (fail)
        go_wp2_with fail
        go_ret
        exact ⟨ret_bool HR.out.symm, (by first | exact ⟨_, rfl⟩ | exact dn2 _ _ _)⟩
    · have HF : Hid (decide (bl xs = bl ys) = true) := by
        show _ = _
        rw [decide_eq_true_eq]
        congr 1
        apply List.ext_getElem C0.out
        intro i h1 h2
        have := hj.out i (by omega)
        rwa [zi_lt h1, zi_lt h2] at this
      go_wp2_with fail
      go_ret
      exact ⟨ret_bool HF.out.symm, _, rfl⟩
end Go.Proofs.YtgfefnfnpplhlaaDoor
