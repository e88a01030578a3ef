/- Contracts: digits, number, cutOf, Parse of certify's reference. -/
import Derived.Test.YtehbnckdllbmgaaGreatDoorCerY
import Derived.Test.YtehbnckdllbmgaaGreatDoorCerT
import Derived.Test.YtehbnckdllbmgaaGreatDoorCerP
set_option linter.unusedSimpArgs false
set_option linter.unusedVariables false
namespace Go.Proofs.YtehbnckdllbmgaaGreatDoor
open Go.RowKit

def bi (s : ByteArray) (j : Nat) : UInt8 := s.data.toList.getD j 0
theorem bi_eq (s : ByteArray) {j : Nat} (h : j < s.size) : s[j] = bi s j := by
  have h' : j < s.data.toList.length := by simpa using h
  unfold bi
  rw [List.getD_eq_getElem?_getD, List.getElem?_eq_getElem h']; rfl
theorem takeWhile_at (p : UInt8 → Bool) : ∀ (l : List UInt8) (k : Nat), k ≤ l.length → (∀ j, j < k → p (l.getD j 0) = true) → (k < l.length → p (l.getD k 0) = false) → (l.takeWhile p).length = k
  | [], k, h, _, _ => by simp at h; subst h; rfl
  | c :: l, 0, _, _, h3 => by
    have := h3 (by simp)
    simp at this
    simp [List.takeWhile, this]
  | c :: l, k + 1, h1, h2, h3 => by
    have h0 := h2 0 (by omega)
    simp at h0
    rw [List.takeWhile_cons, if_pos h0, List.length_cons]
    rw [takeWhile_at p l k (by simpa using h1) (fun j hj => by have := h2 (j + 1) (by omega); simpa using this) (fun hk => by have := h3 (by simpa using hk); simpa using this)]
theorem dgL_at {s : ByteArray} {k : Nat} (h : k ≤ s.size) (h2 : ∀ j, j < k → digC (bi s j) = true) (h3 : k < s.size → digC (bi s k) = false) : (dgL s.data.toList).length = k :=
  takeWhile_at digC _ k (by rw [size_data]; exact h) h2 (fun hk => h3 (by rw [← size_data]; exact hk))

set_option maxHeartbeats 1000000 in
theorem digits_any (s : ByteArray) (w : World) (hs : s.size ≤ 1000000) : Calls Tryz.prog 86 #[.string s] w fun e w' => e = .returned (.int .i64 ((dgL s.data.toList).length : Nat)) ∧ ∃ m, w' = w.drewN m := by
  go_enter Tryz.func86, Tryz.ntmps86
  go_wp2_with fail
  go_loop [3] (fun i => ∃ k : Nat, k ≤ s.size ∧ i = .int .i64 k ∧ Hid (∀ j, j < k → digC (bi s j) = true)) (fun i => s.size - (intOf i).toNat)
  case atStart => exact ⟨0, Nat.zero_le _, rfl, fun j hj => by omega⟩
  case round =>
    obtain ⟨k, hk, rfl, hj⟩ := hrel
    by_cases hlt : k < s.size
    · have hbi := bi_eq s hlt
      have i1 : (k : Int) < s.size := by omega
      obtain ⟨n, hn⟩ : ∃ n, (bi s k).toNat = n := ⟨_, rfl⟩
      have HD : Hid (digC (bi s k) = (decide (48 ≤ n) && decide (n ≤ 57))) := by show _ = _; unfold digC; rw [hn]
      by_cases c1 : 48 ≤ n
      · by_cases c2 : n ≤ 57
        · have d1 : (48 : Int) ≤ n := by omega
          have d2 : (n : Int) ≤ 57 := by omega
          have HN := Lib.hid (show digC (bi s k) = true by rw [HD.out, decide_eq_true c1, decide_eq_true c2]; rfl)
          clear c1 c2
          go_wp2_with fail
          go_round
          case rel => exact ⟨k + 1, by omega, by go_num, upto hj.out HN.out⟩
          case measure => simp [intOf]; omega
        · have d1 : (48 : Int) ≤ n := by omega
          have d2 : ¬ (n : Int) ≤ 57 := by omega
          have HN := Lib.hid (dgL_at hk hj.out fun _ => by rw [HD.out, decide_eq_false c2, Bool.and_false])
          clear c1 c2
          go_wp2_with fail
          go_ret
          exact ⟨by rw [HN.out]; rfl, 0, rfl⟩
      · have d1 : ¬ (48 : Int) ≤ n := by omega
        have HN := Lib.hid (dgL_at hk hj.out fun _ => by rw [HD.out, decide_eq_false c1, Bool.false_and])
        clear c1
        go_wp2_with fail
        go_ret
        exact ⟨by rw [HN.out]; rfl, 0, rfl⟩
    · have d1 : ¬ (k : Int) < s.size := by omega
      have HN := Lib.hid (dgL_at hk hj.out fun h => absurd h hlt)
      go_wp2_with fail
      go_ret
      exact ⟨by rw [HN.out]; rfl, 0, rfl⟩

theorem numL_take {x : List UInt8} {k : Nat} (h : k < x.length) : numL (x.take (k + 1)) = 10 * numL (x.take k) + ((x.getD k 0).toNat - 48) := by
  rw [List.take_succ_eq_append_getElem h]
  unfold numL
  rw [List.foldl_append]
  simp [h]
theorem numL_lt : ∀ (k : Nat) {x : List UInt8}, x.length = k → x.all digC = true → numL x < 10 ^ k
  | 0, x, h, _ => by rw [List.eq_nil_of_length_eq_zero h]; decide
  | k + 1, x, h, ha => by
    have h1 : x = x.take k ++ [x.getD k 0] := by
      have h2 := List.take_succ_eq_append_getElem (show k < x.length by omega)
      rw [List.take_of_length_le (by omega)] at h2
      rw [List.getD_eq_getElem?_getD, List.getElem?_eq_getElem (by omega)]
      exact h2
    rw [h1] at ha
    rw [List.all_append, Bool.and_eq_true] at ha
    have h2 := numL_lt k (x := x.take k) (by simp; omega) ha.1
    have h3 := digC_range (c := x.getD k 0) (by simpa using ha.2)
    rw [h1, numL_snoc, Nat.pow_succ]
    omega

set_option maxHeartbeats 1000000 in
theorem rnumber_any (s : ByteArray) (w : World) (hs : s.size ≤ 1000000) : Calls Tryz.prog 87 #[.string s] w fun e w' => e = .returned (.tuple #[.int .i64 (numR s.data.toList).1, .int .i64 ((numR s.data.toList).2.1 : Nat), .bool (numR s.data.toList).2.2]) ∧ ∃ m, w' = w.drewN m := by
  obtain ⟨ds, hds⟩ : ∃ ds, ds = dgL s.data.toList := ⟨_, rfl⟩
  have HDS := Lib.hid hds
  have HR : Hid (numR s.data.toList = if ds = [] ∨ (1 < ds.length ∧ s.data.toList.headD 0 = 48) ∨ 15 < ds.length then (0, 0, false) else ((numL ds : Int), ds.length, decide (numL ds ≤ 1099511627776))) := by rw [hds]; rfl
  have hle : ds.length ≤ s.size := by rw [hds, ← size_data]; exact dgL_len _
  have HALL := Lib.hid (show ds.all digC = true by rw [hds]; exact dgL_all _)
  have HAT : Hid (∀ j, j < ds.length → ds.getD j 0 = bi s j) := fun j hj => by
    have h1 := dgL_eq s.data.toList
    rw [← hds] at h1
    unfold bi
    rw [← h1, List.getD_eq_getElem?_getD, List.getD_eq_getElem?_getD, List.getElem?_append_left hj]
  clear hds
  go_enter Tryz.func87, Tryz.ntmps87
  go_wp2_with fail
  refine (digits_any s w hs).mono ?_
  rintro e w1 ⟨rfl, m1, rfl⟩
  rw [← HDS.out]
  obtain ⟨k, hk⟩ : ∃ k, k = ds.length := ⟨_, rfl⟩
  rw [← hk] at hle ⊢
  have HK := Lib.hid hk
  by_cases h0 : k = 0
  · have hd : ((k : Int) == 0) = true := by rw [beq_iff_eq]; omega
    have HV : Hid (numR s.data.toList = (0, 0, false)) := by show _ = _; rw [HR.out, if_pos (.inl (List.eq_nil_of_length_eq_zero (by omega)))]
    clear h0 hk
    go_wp2_with fail
    refine bodyPost_ret (v := .tuple #[.int .i64 0, .int .i64 0, .bool false]) (by simp [results, Tryz.results87, go_sem]) rfl ?_
    exact ⟨by rw [HV.out]; rfl, by first | exact ⟨_, rfl⟩ | exact dn2 _ _ _⟩
  have hk1 : ((k : Int) == 0) = false := by rw [beq_eq_false_iff_ne]; omega
  have hpos : 0 < s.size := by omega
  have hb0 := bi_eq s hpos
  have HH : Hid (s.data.toList.headD 0 = bi s 0) := by
    show _ = _
    unfold bi
    cases s.data.toList <;> rfl
  obtain ⟨z, hz⟩ : ∃ z, z = (bi s 0 == (48 : UInt8)) := ⟨_, rfl⟩
  by_cases h48 : 1 < k ∧ (bi s 0).toNat = 48
  · have hd1 : decide ((1 : Int) < k) = true := by rw [decide_eq_true_eq]; omega
    have hd2 : (((bi s 0).toNat : Int) == 48) = true := by rw [beq_iff_eq]; omega
    have HV : Hid (numR s.data.toList = (0, 0, false)) := by
      show _ = _
      rw [HR.out, if_pos (.inr (.inl ⟨by omega, by rw [HH.out]; exact UInt8.toNat_inj.1 h48.2⟩))]
    clear h48 h0 hk hz
    go_wp2_with fail
    refine bodyPost_ret (v := .tuple #[.int .i64 0, .int .i64 0, .bool false]) (by simp [results, Tryz.results87, go_sem]) rfl ?_
    exact ⟨by rw [HV.out]; rfl, by first | exact ⟨_, rfl⟩ | exact dn2 _ _ _⟩
  have HNH : Hid (¬ (1 < ds.length ∧ s.data.toList.headD 0 = 48)) := fun h => h48 ⟨by omega, by rw [← HH.out, h.2]; rfl⟩
  have tail : ∀ c1 c2 : Bool, decide ((1 : Int) < k) = c1 → (((bi s 0).toNat : Int) == 48) = c2 → c1 = false ∨ c2 = false := fun c1 c2 e1 e2 => by
    by_cases e : 1 < k
    · right; rw [← e2, beq_eq_false_iff_ne]; intro h; exact h48 ⟨e, by omega⟩
    · left; rw [← e1, decide_eq_false_iff_not]; omega
  obtain ⟨c1, hc1⟩ : ∃ c, decide ((1 : Int) < k) = c := ⟨_, rfl⟩
  obtain ⟨c2, hc2⟩ : ∃ c, (((bi s 0).toNat : Int) == 48) = c := ⟨_, rfl⟩
  have htl := tail c1 c2 hc1 hc2
  clear tail h48 hz
  by_cases h15 : 15 < k
  · have hd3 : decide ((15 : Int) < k) = true := by rw [decide_eq_true_eq]; omega
    have HV : Hid (numR s.data.toList = (0, 0, false)) := by
      show _ = _
      rw [HR.out, if_pos (.inr (.inr (by omega)))]
    clear h0 hk h15
    cases c1 <;> cases c2
    case true.true => simp at htl
    all_goals
      clear htl
      go_wp2_with fail
      refine bodyPost_ret (v := .tuple #[.int .i64 0, .int .i64 0, .bool false]) (by simp [results, Tryz.results87, go_sem]) rfl ?_
      exact ⟨by rw [HV.out]; rfl, by first | exact ⟨_, rfl⟩ | exact dn2 _ _ _⟩
  · have hd3 : decide ((15 : Int) < k) = false := by rw [decide_eq_false_iff_not]; omega
    have HV : Hid (numR s.data.toList = ((numL ds : Int), ds.length, decide (numL ds ≤ 1099511627776))) := by
      show _ = _
      rw [HR.out, if_neg (by rintro (h | h | h)
                             · rw [h] at hk; exact h0 hk
                             · exact HNH.out h
                             · omega)]
    have HB : Hid (∀ i, i ≤ k → numL (ds.take i) < 1000000000000000) := fun i hi => by
      have h1 := numL_lt i (x := ds.take i) (by simp; omega) (by
        have := HALL.out
        rw [List.all_eq_true] at this ⊢
        exact fun c hc => this c (List.mem_of_mem_take hc))
      have h2 : 10 ^ i ≤ 10 ^ 15 := Nat.pow_le_pow_right (by omega) (by omega)
      have h3 : (10 : Nat) ^ 15 = 1000000000000000 := by decide
      omega
    have hk15 : k ≤ 15 := by omega
    clear h0 hk h15
    cases c1 <;> cases c2
    case true.true => simp at htl
    all_goals
      clear htl
      go_wp2_with fail
      go_loopw [6, 7] (fun nv i wr => ∃ j : Nat, j ≤ k ∧ i = .int .i64 j ∧ nv = .int .i64 ((numL (ds.take j) : Nat) : Int) ∧ (∃ m, wr = w.drewN m)) (fun _ i _ => k - (intOf i).toNat)
      case atStart => exact ⟨0, Nat.zero_le _, rfl, rfl, by first | exact ⟨_, rfl⟩ | exact dn2 _ _ _⟩
      case round =>
        obtain ⟨j, hj, rfl, rfl, ⟨m, rfl⟩⟩ := hrel
        by_cases hlt : j < k
        · have hjs : j < s.size := by omega
          have hbj := bi_eq s hjs
          have hd1 : (j : Int) < k := by omega
          have hds2 : (j : Int) < s.size := by omega
          obtain ⟨c, hc⟩ : ∃ c, c = (bi s j).toNat := ⟨_, rfl⟩
          have HDG : 48 ≤ c ∧ c ≤ 57 := by
            have h1 := HALL.out
            rw [List.all_eq_true] at h1
            have h2 := HAT.out j (by have := HK.out; omega)
            have h3 := h1 (ds.getD j 0) (by rw [List.getD_eq_getElem?_getD, List.getElem?_eq_getElem (by have := HK.out; omega)]; exact List.getElem_mem _)
            rw [h2] at h3
            rw [hc]; exact digC_range h3
          have HST : Hid (numL (ds.take (j + 1)) = 10 * numL (ds.take j) + (c - 48)) := by
            show _ = _
            rw [numL_take (by have := HK.out; omega), HAT.out j (by have := HK.out; omega), hc]
          have HBJ := HB.out j hj
          obtain ⟨d, hd⟩ : ∃ d, c = 48 + d := ⟨c - 48, by omega⟩
          have hw1 : ((bi s j).toNat : Int) - 48 = (d : Nat) := by rw [← hc]; omega
          have hd10 : d < 10 := by omega
          obtain ⟨q, hq⟩ : ∃ q, q = numL (ds.take j) := ⟨_, rfl⟩
          have HQ : Hid (numL (ds.take (j + 1)) = 10 * q + d) := by show _ = _; rw [HST.out, hq]; omega
          rw [← hq] at HBJ ⊢
          clear hq hc HST
          go_wp2_with fail
          go_roundw
          case rel => exact ⟨j + 1, by omega, by go_num, by rw [HQ.out]; rfl, (by first | exact ⟨_, rfl⟩ | exact dn2 _ _ _)⟩
          case measure => simp [intOf]; omega
        · obtain rfl : j = k := by omega
          have HTK : Hid (numL (ds.take j) = numL ds) := by show _ = _; rw [List.take_of_length_le (by have := HK.out; omega)]
          obtain ⟨q, hq⟩ : ∃ q, q = numL (ds.take j) := ⟨_, rfl⟩
          have HQ : Hid (q = numL ds) := hq.trans HTK.out
          rw [← hq]
          clear hq HTK
          go_wp2_with fail
          refine bodyPost_ret (v := .tuple #[.int .i64 q, .int .i64 j, .bool (decide ((q : Int) ≤ 1099511627776))]) (by simp [results, Tryz.results87, go_sem]) rfl ?_
          refine ⟨?_, (by first | exact ⟨_, rfl⟩ | exact dn2 _ _ _)⟩
          rw [HV.out, ← HQ.out, ← HK.out]
          have e : decide ((q : Int) ≤ 1099511627776) = decide (q ≤ 1099511627776) := by
            by_cases h : q ≤ 1099511627776
            · rw [decide_eq_true h, decide_eq_true (by omega)]
            · rw [decide_eq_false h, decide_eq_false (by omega)]
          rw [e]
end Go.Proofs.YtehbnckdllbmgaaGreatDoor
