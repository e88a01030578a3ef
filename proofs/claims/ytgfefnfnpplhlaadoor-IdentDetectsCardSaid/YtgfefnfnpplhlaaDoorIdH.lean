/- Contracts: element of ident; first, plain, bytes of its reference. -/
import Derived.Test.YtgfefnfnpplhlaaDoorIdG
import Derived.Test.YtgfefnfnpplhlaaDoorIdCmp
import Derived.Laws.Cover1
namespace Go.Proofs.YtgfefnfnpplhlaaDoor
open Go.RowKit

theorem while_len {p : UInt8 → Bool} {l : List UInt8} : ∀ {k : Nat}, k ≤ l.length → (∀ j, j < k → p (l.getD j 0) = true) → (k < l.length → p (l.getD k 0) = false) → (l.takeWhile p).length = k := by
  induction l with
  | nil => intro k hk _ _; simp at hk; subst hk; rfl
  | cons c l ih =>
    intro k hk h1 h2
    cases k with
    | zero =>
      have := h2 (by simp)
      rw [List.takeWhile_cons, if_neg (by simpa using this)]; rfl
    | succ k =>
      have e := h1 0 (by omega)
      rw [List.takeWhile_cons, if_pos (by simpa using e), List.length_cons, ih (k := k) (by simpa using hk) (fun j hj => by simpa using h1 (j + 1) (by omega)) (fun hk2 => by simpa using h2 (by simpa using hk2))]
theorem elem_is {s : ByteArray} {k : Nat} (hk : k ≤ s.size) (h1 : ∀ j, j < k → digC (s.data.toList.getD j 0) = true) (h2 : k < s.size → digC (s.data.toList.getD k 0) = false) : elemN s.data.toList = max k 1 := by
  unfold elemN
  rw [while_len (p := digC) (k := k) (by rw [size_data]; exact hk) h1 (fun h => h2 (by rw [size_data] at h; exact h))]
theorem compare_is (a b : List UInt8) : Lib.compareBytes a b = bytesC a b := by
  unfold bytesC
  induction a generalizing b with
  | nil => cases b <;> rfl
  | cons x a ih =>
    cases b with
    | nil => rfl
    | cons y b =>
      rw [lexI_cons]
      show (if x < y then (-1 : Int) else if y < x then 1 else Lib.compareBytes a b) = _
      rw [ih b]
      unfold cB cN
      have e1 : x < y ↔ x.toNat < y.toNat := UInt8.lt_iff_toNat_lt
      have e2 : y < x ↔ y.toNat < x.toNat := UInt8.lt_iff_toNat_lt
      by_cases h1 : x.toNat < y.toNat
      · rw [if_pos (e1.2 h1), if_pos h1, if_neg (by decide)]
      · by_cases h2 : y.toNat < x.toNat
        · rw [if_neg (fun h => h1 (e1.1 h)), if_pos (e2.2 h2), if_neg h1, if_pos h2, if_neg (by decide)]
        · rw [if_neg (fun h => h1 (e1.1 h)), if_neg (fun h => h2 (e2.1 h)), if_neg h1, if_neg h2, if_pos rfl]
theorem less_is (a b : List UInt8) : Op.bytesLess a b = decide (bytesC a b = -1) := by
  unfold bytesC
  induction a generalizing b with
  | nil => cases b <;> rfl
  | cons x a ih =>
    cases b with
    | nil => rfl
    | cons y b =>
      rw [lexI_cons]
      show (decide (x < y) || (x == y && Op.bytesLess a b)) = _
      rw [ih b]
      unfold cB cN
      have e1 : x < y ↔ x.toNat < y.toNat := UInt8.lt_iff_toNat_lt
      have e3 : x = y ↔ x.toNat = y.toNat := UInt8.toNat_inj.symm
      by_cases h1 : x.toNat < y.toNat
      · rw [if_pos h1, if_neg (by decide), decide_eq_true (e1.2 h1)]; rfl
      · have h1' : ¬ x < y := fun h => h1 (e1.1 h)
        by_cases h2 : y.toNat < x.toNat
        · have hne : (x == y) = false := by rw [beq_eq_false_iff_ne]; intro h; have := e3.1 h; omega
          rw [if_neg h1, if_pos h2, if_neg (by decide), decide_eq_false h1', hne]; rfl
        · have he : (x == y) = true := by rw [beq_iff_eq]; exact e3.2 (by omega)
          rw [if_neg h1, if_neg h2, if_pos rfl, decide_eq_false h1', he]; simp
theorem upto' {p : Nat → Bool} {k : Nat} (h : ∀ j, j < k → p j = true) (h2 : p k = true) : ∀ j, j < k + 1 → p j = true := by
  intro j hj
  by_cases e : j = k
  · subst e; exact h2
  · exact h j (by omega)

set_option maxHeartbeats 1000000 in
theorem element_any (s : ByteArray) (w : World) (hs : s.size ≤ maxLen) (h0 : 0 < s.size) : Calls Tryd.prog 33 #[.string s] w fun e w' => e = .returned (.tuple #[.string (s.extract 0 (elemN s.data.toList)), .string (s.extract (elemN s.data.toList) s.size)]) ∧ ∃ m, w' = w.drewN m := by
  unfold maxLen at hs
  go_enter Tryd.func33, Tryd.ntmps33
  go_wp2_with fail
  go_loopw [4] (fun i wr => ∃ k : Nat, k ≤ s.size ∧ i = .int .i64 k ∧ (∃ m, wr = w.drewN m) ∧ Hid (∀ j, j < k → digC (s.data.toList.getD j 0) = true)) (fun i _ => s.size - (intOf i).toNat)
  case atStart => exact ⟨0, Nat.zero_le _, rfl, ⟨0, rfl⟩, fun j hj => by omega⟩
  case round =>
    obtain ⟨k, hk, rfl, ⟨m, rfl⟩, hj⟩ := hrel
    have fin : (k < s.size → digC (s.data.toList.getD k 0) = false) → elemN s.data.toList = max k 1 := fun h => elem_is hk hj.out h
    by_cases hlt : k < s.size
    · have HGB := Lib.hid (getD_byte s hlt)
      obtain ⟨c, hc⟩ : ∃ c, s[k]'hlt = c := ⟨_, rfl⟩
      rw [hc] at HGB
      go_wp2_with fail
      refine (isDigit_any c _).mono ?_
      rintro e w2 ⟨rfl, m2, rfl⟩
      cases hd : digC c
      · have HF := Lib.hid (fin fun _ => by rw [HGB.out]; exact hd)
        clear hd fin hc
        by_cases hk0 : k = 0
        · subst hk0
          have HE : Hid (elemN s.data.toList = 1) := HF.out
          go_wp2_with fail
          go_quiet (fail)
          go_wp2_with fail
          go_ret2
          exact ⟨by rw [HE.out]; rfl, (by first | exact ⟨_, rfl⟩ | exact dn2 _ _ _)⟩
        · have HE : Hid (elemN s.data.toList = k) := by show _ = _; rw [HF.out]; omega
          have hk1 : max (k : Int) 1 = k := by omega
          go_wp2_with fail
          go_quiet (fail)
          go_wp2_with fail
          go_ret2
          exact ⟨by rw [HE.out]; rfl, (by first | exact ⟨_, rfl⟩ | exact dn2 _ _ _)⟩
      · have HR : Hid (∀ j, j < k + 1 → digC (s.data.toList.getD j 0) = true) := upto' (p := fun j => digC (s.data.toList.getD j 0)) hj.out (by show digC _ = true; rw [HGB.out]; exact hd)
        clear hd fin hc
        go_wp2_with fail
        go_roundw
        case rel => exact ⟨k + 1, by omega, by go_num, (by first | exact ⟨_, rfl⟩ | exact dn2 _ _ _), HR.out⟩
        case measure => simp [intOf]; omega
    · have HF := Lib.hid (fin fun h => absurd h hlt)
      have HE : Hid (elemN s.data.toList = k) := by show _ = _; rw [HF.out]; omega
      have hk1 : max (k : Int) 1 = k := by omega
      clear fin
      go_wp2_with fail
      go_quiet (fail)
      go_wp2_with fail
      go_ret2
      exact ⟨by rw [HE.out]; rfl, (by first | exact ⟨_, rfl⟩ | exact dn2 _ _ _)⟩

set_option maxHeartbeats 1000000 in
theorem first_any (s : ByteArray) (w : World) (hs : s.size ≤ maxLen) (h0 : 0 < s.size) : Calls Tryd.prog 36 #[.string s] w fun e w' => e = .returned (.string (s.extract 0 (elemN s.data.toList))) ∧ ∃ m, w' = w.drewN m := by
  unfold maxLen at hs
  go_enter Tryd.func36, Tryd.ntmps36
  go_wp2_with fail
  go_loopw [3] (fun i wr => ∃ k : Nat, k ≤ s.size ∧ i = .int .i64 k ∧ (∃ m, wr = w.drewN m) ∧ Hid (∀ j, j < k → digC (s.data.toList.getD j 0) = true)) (fun i _ => s.size - (intOf i).toNat)
  case atStart => exact ⟨0, Nat.zero_le _, rfl, ⟨0, rfl⟩, fun j hj => by omega⟩
  case round =>
    obtain ⟨k, hk, rfl, ⟨m, rfl⟩, hj⟩ := hrel
    have fin : (k < s.size → digC (s.data.toList.getD k 0) = false) → elemN s.data.toList = max k 1 := fun h => elem_is hk hj.out h
    by_cases hlt : k < s.size
    · have HGB := Lib.hid (getD_byte s hlt)
      obtain ⟨c, hc⟩ : ∃ c, s[k]'hlt = c := ⟨_, rfl⟩
      rw [hc] at HGB
      go_wp2_with fail
      refine (digit_any c _).mono ?_
      rintro e w2 ⟨rfl, m2, rfl⟩
      cases hd : digC c
      · have HF := Lib.hid (fin fun _ => by rw [HGB.out]; exact hd)
        clear hd fin hc
        by_cases hk0 : k = 0
        · subst hk0
          have HE : Hid (elemN s.data.toList = 1) := HF.out
          go_wp2_with fail
          go_ret
          exact ⟨by rw [HE.out]; rfl, (by first | exact ⟨_, rfl⟩ | exact dn2 _ _ _)⟩
        · have HE : Hid (elemN s.data.toList = k) := by show _ = _; rw [HF.out]; omega
          have hk1 : max (k : Int) 1 = k := by omega
          go_wp2_with fail
          go_ret
          exact ⟨by rw [HE.out]; rfl, (by first | exact ⟨_, rfl⟩ | exact dn2 _ _ _)⟩
      · have HR : Hid (∀ j, j < k + 1 → digC (s.data.toList.getD j 0) = true) := upto' (p := fun j => digC (s.data.toList.getD j 0)) hj.out (by show digC _ = true; rw [HGB.out]; exact hd)
        clear hd fin hc
        go_wp2_with fail
        go_roundw
        case rel => exact ⟨k + 1, by omega, by go_num, (by first | exact ⟨_, rfl⟩ | exact dn2 _ _ _), HR.out⟩
        case measure => simp [intOf]; omega
    · have HF := Lib.hid (fin fun h => absurd h hlt)
      have HE : Hid (elemN s.data.toList = k) := by show _ = _; rw [HF.out]; omega
      have hk1 : max (k : Int) 1 = k := by omega
      clear fin
      go_wp2_with fail
      go_ret
      exact ⟨by rw [HE.out]; rfl, (by first | exact ⟨_, rfl⟩ | exact dn2 _ _ _)⟩

theorem bytes_any (a b : ByteArray) (w : World) : Calls Tryd.prog 38 #[.string a, .string b] w fun e w' => e = .returned (.int .i64 (bytesC a.data.toList b.data.toList)) ∧ ∃ m, w' = w.drewN m := by
  have hl := less_is a.data.toList b.data.toList
  have hz := bytesC_zero (a := a.data.toList) (b := b.data.toList)
  have hr := bytesC_ok.rng a.data.toList b.data.toList
  have h00 : a.data.toList = b.data.toList → bytesC a.data.toList b.data.toList = 0 := fun h => by rw [h]; exact bytesC_ok.refl _
  rw [← toList_data, ← toList_data] at hl hz hr h00 ⊢
  obtain ⟨r, hrr⟩ : ∃ r, bytesC a.toList b.toList = r := ⟨_, rfl⟩
  rw [hrr] at hl hz hr h00 ⊢
  by_cases h1 : r = -1
  · have hb : Op.bytesLess a.toList b.toList = true := by rw [hl, h1]; rfl
    subst h1
    clear hl hz hr h00
    go_enter Tryd.func38, Tryd.ntmps38
    go_wp2_with fail
    go_ret
    exact ⟨rfl, 0, rfl⟩
  · have hb : Op.bytesLess a.toList b.toList = false := by rw [hl, decide_eq_false_iff_not]; exact h1
    by_cases h2 : r = 0
    · have he : (a.toList == b.toList) = true := by rw [beq_iff_eq]; exact hz h2
      subst h2
      clear hl hz hr h00 h1
      go_enter Tryd.func38, Tryd.ntmps38
      go_wp2_with fail
      go_ret
      exact ⟨rfl, 0, rfl⟩
    · have he : (a.toList == b.toList) = false := by rw [beq_eq_false_iff_ne]; exact fun h => h2 (h00 h)
      have h3 : r = 1 := by omega
      subst h3
      clear hl hz hr h00 h1 h2
      go_enter Tryd.func38, Tryd.ntmps38
      go_wp2_with fail
      go_ret
      exact ⟨rfl, 0, rfl⟩

theorem drop_zero_byte {l : List UInt8} (k : Nat) (h : k < l.length) (h0 : l.getD k 0 = 48) (hs : stripZ (l.drop k) = stripZ l) : stripZ (l.drop (k + 1)) = stripZ l := by
  rw [← hs, List.drop_eq_getElem_cons h]
  rw [List.getD_eq_getElem?_getD, List.getElem?_eq_getElem h] at h0
  unfold stripZ
  rw [List.dropWhile_cons, if_pos (by rw [show l[k] = 48 from h0]; rfl)]
theorem strip_stop {l : List UInt8} (h : l = [] ∨ l.headD 0 ≠ 48) : stripZ l = l := by
  cases l with
  | nil => rfl
  | cons c l =>
    unfold stripZ
    rcases h with h | h
    · cases h
    · rw [List.dropWhile_cons, if_neg (by simpa using h)]
set_option maxHeartbeats 1000000 in
theorem plain_any (s : ByteArray) (w : World) (hs : s.size ≤ maxLen) : Calls Tryd.prog 48 #[.string s] w fun e w' => e = .returned (.string ⟨(stripZ s.data.toList).toArray⟩) ∧ ∃ m, w' = w.drewN m := by
  unfold maxLen at hs
  go_enter Tryd.func48, Tryd.ntmps48
  go_wp2_with fail
  go_loopw [0] (fun i wr => ∃ t : ByteArray, t.size ≤ s.size ∧ i = .string t ∧ (∃ m, wr = w.drewN m) ∧ Hid (stripZ t.data.toList = stripZ s.data.toList)) (fun i _ => match i with | .string t => t.size | _ => 0)
  case atStart => exact ⟨s, Nat.le_refl _, rfl, ⟨0, rfl⟩, rfl⟩
  case round =>
    obtain ⟨t, ht, rfl, ⟨m, rfl⟩, hj⟩ := hrel
    by_cases h0 : 0 < t.size
    · have hb0 : decide ((0 : Int) < t.size) = true := by rw [decide_eq_true_eq]; omega
      have HGB := Lib.hid (getD_byte t h0)
      by_cases h48 : ((t[0]'h0).toNat : Int) = 48
      · have b1 : (((t[0]'h0).toNat : Int) == 48) = true := by rw [beq_iff_eq]; exact h48
        have HR : Hid (stripZ (t.extract 1 t.size).data.toList = stripZ s.data.toList) := by
          show _ = _
          rw [extract_list, List.take_of_length_le (by rw [size_data]; exact Nat.le_refl _), drop_zero_byte 0 (by rw [size_data]; exact h0) (by rw [HGB.out, ← UInt8.toNat_inj]; show _ = 48; omega) rfl, hj.out]
        have hsz : (t.extract 1 t.size).size = t.size - 1 := by simp
        clear h48
        go_wp2_with fail
        go_roundw
        case rel => exact ⟨t.extract 1 t.size, by omega, rfl, ⟨_, rfl⟩, HR.out⟩
        case measure => simp; omega
      · have b1 : (((t[0]'h0).toNat : Int) == 48) = false := by rw [beq_eq_false_iff_ne]; exact h48
        have HR : Hid (t = ⟨(stripZ s.data.toList).toArray⟩) := by
          show _ = _
          rw [← hj.out, strip_stop (.inr (by rw [List.headD_eq_head?_getD, List.head?_eq_getElem?, ← List.getD_eq_getElem?_getD, HGB.out]; intro h; rw [h] at h48; exact h48 rfl))]
        clear h48
        go_wp2_with fail
        go_ret
        exact ⟨by rw [← HR.out]; rfl, _, rfl⟩
    · have hb0 : decide ((0 : Int) < t.size) = false := by rw [decide_eq_false_iff_not]; omega
      have HR : Hid (t = ⟨(stripZ s.data.toList).toArray⟩) := by
        show _ = _
        rw [← hj.out, strip_stop (.inl (List.eq_nil_of_length_eq_zero (by rw [size_data]; omega)))]
      go_wp2_with fail
      go_ret
      exact ⟨by rw [← HR.out]; rfl, _, rfl⟩
end Go.Proofs.YtgfefnfnpplhlaaDoor
