/- Contracts: IsName of ident. -/
import Derived.Test.YtlmfcigabojbmaaGreatDoorIdA
set_option linter.unusedSimpArgs false
set_option linter.unusedVariables false
namespace Go.Proofs.YtlmfcigabojbmaaGreatDoor
open Go.RowKit

theorem letC_int {c : UInt8} : letC c = true ↔ ((97 : Int) ≤ c.toNat ∧ (c.toNat : Int) ≤ 122) ∨ ((65 : Int) ≤ c.toNat ∧ (c.toNat : Int) ≤ 90) := by unfold letC; simp; omega
theorem okC_int {c : UInt8} : okC c = true ↔ ((97 : Int) ≤ c.toNat ∧ (c.toNat : Int) ≤ 122) ∨ ((65 : Int) ≤ c.toNat ∧ (c.toNat : Int) ≤ 90) ∨ ((48 : Int) ≤ c.toNat ∧ (c.toNat : Int) ≤ 57) ∨ (c.toNat : Int) = 95 ∨ (c.toNat : Int) = 45 := by
  unfold okC letC digC
  simp only [Bool.or_eq_true, Bool.and_eq_true, decide_eq_true_eq, beq_iff_eq]
  have e1 : c = 95 ↔ (c.toNat : Int) = 95 := by rw [← UInt8.toNat_inj]; show c.toNat = 95 ↔ _; omega
  have e2 : c = 45 ↔ (c.toNat : Int) = 45 := by rw [← UInt8.toNat_inj]; show c.toNat = 45 ↔ _; omega
  rw [e1, e2]; omega
/-- the bytes of a name, one by one -/
def okAt (s : ByteArray) (j : Nat) : Bool := if j = 0 then letC (s.data.toList.getD 0 0) else okC (s.data.toList.getD j 0)
theorem getD_byte (s : ByteArray) {j : Nat} (h : j < s.size) : s.data.toList.getD j 0 = s[j] := by
  have h' : j < s.data.toList.length := by simpa using h
  rw [List.getD_eq_getElem?_getD, List.getElem?_eq_getElem h']; rfl
theorem okC_let {c : UInt8} (h : letC c = true) : okC c = true := by unfold okC; rw [h]; rfl
theorem nameB_all {s : ByteArray} (h0 : 0 < s.size) (h16 : s.size ≤ 16) (h : ∀ j, j < s.size → okAt s j = true) : nameB s.data.toList = true := by
  have hl : s.data.toList.length = s.size := by simp
  have h1 := h 0 h0
  unfold okAt at h1
  rw [if_pos rfl] at h1
  unfold nameB
  simp only [Bool.and_eq_true, decide_eq_true_eq, List.all_eq_true]
  refine ⟨⟨⟨?_, by omega⟩, ?_⟩, fun c hc => ?_⟩
  · cases hh : s.data.toList with
    | nil => rw [hh] at hl; simp at hl; omega
    | cons x xs => rfl
  · rw [List.headD_eq_head?_getD, List.head?_eq_getElem?, ← List.getD_eq_getElem?_getD]; exact h1
  · obtain ⟨j, hj, rfl⟩ := List.mem_iff_getElem.1 hc
    have h2 := h j (by omega)
    unfold okAt at h2
    have e : s.data.toList.getD j 0 = s.data.toList[j] := by rw [List.getD_eq_getElem?_getD, List.getElem?_eq_getElem hj]; rfl
    by_cases hz : j = 0
    · subst hz; rw [if_pos rfl, e] at h2; exact okC_let h2
    · rw [if_neg hz, e] at h2; exact h2
theorem nameB_not {s : ByteArray} {j : Nat} (hj : j < s.size) (h : okAt s j = false) : nameB s.data.toList = false := by
  cases hn : nameB s.data.toList
  · rfl
  · exfalso
    unfold nameB at hn
    simp only [Bool.and_eq_true, decide_eq_true_eq, List.all_eq_true] at hn
    have hl : s.data.toList.length = s.size := by simp
    have hj' : j < s.data.toList.length := by omega
    have e : s.data.toList.getD j 0 = s.data.toList[j] := by rw [List.getD_eq_getElem?_getD, List.getElem?_eq_getElem hj']; rfl
    unfold okAt at h
    by_cases hz : j = 0
    · subst hz
      rw [if_pos rfl] at h
      have h1 := hn.1.2
      rw [List.headD_eq_head?_getD, List.head?_eq_getElem?, ← List.getD_eq_getElem?_getD, h] at h1
      cases h1
    · rw [if_neg hz, e, hn.2 _ (List.getElem_mem hj')] at h; cases h
theorem nameB_empty : nameB (⟨#[]⟩ : ByteArray).data.toList = false := rfl
theorem nameB_long {s : ByteArray} (h : 16 < s.size) : nameB s.data.toList = false := by
  cases hn : nameB s.data.toList
  · rfl
  · have := nameB_len hn; simp at this; omega
theorem byte_empty {s : ByteArray} (h : s.size = 0) : s = ⟨#[]⟩ := by
  cases s with
  | mk d => congr; exact Array.eq_empty_of_size_eq_zero h
theorem toList_data (s : ByteArray) : s.toList = s.data.toList := Go.ByteArray.toList_eq s

set_option maxHeartbeats 1000000 in
theorem IsName_any (s : ByteArray) (w : World) (hs : s.size ≤ maxLen) : Calls Tryz.prog 20 #[.string s] w (Ret w (.bool (nameB s.data.toList))) := by
  unfold maxLen at hs
  by_cases h0 : s.size = 0
  · have := byte_empty h0
    subst this
    clear h0 hs
    go_enter Tryz.func20, Tryz.ntmps20
    go_wp2_with fail
    go_ret
    exact ⟨ret_bool nameB_empty.symm, Below.refl _ _⟩
  have hne : s.toList.isEmpty = false := by
    rw [toList_data]
    cases h : s.data.toList with
    | nil => have : s.data.toList.length = s.size := by simp
             rw [h] at this; simp at this; omega
    | cons x xs => rfl
  have hne2 : s.toList = [] ↔ False := by rw [iff_false]; intro h; rw [h] at hne; cases hne
  by_cases h16 : 16 < s.size
  · have HN := Lib.hid (nameB_long h16)
    have hb : decide ((16 : Int) < s.size) = true := by rw [decide_eq_true_eq]; omega
    go_enter Tryz.func20, Tryz.ntmps20
    go_wp2_with fail
    go_ret
    exact ⟨ret_bool HN.out.symm, Below.refl _ _⟩
  have hb : decide ((16 : Int) < s.size) = false := by rw [decide_eq_false_iff_not]; omega
  go_enter Tryz.func20, Tryz.ntmps20
  go_wp2_with fail
  go_loopw [3, 4, 5, 6] (fun _ _ _ _ wr => ∃ k : Nat, k ≤ s.size ∧ wr = w.iter s k ∧ Hid (∀ j, j < k → okAt s j = true)) (fun _ _ _ _ wr => match wr.heap[w.heap.size]? with | some (.stringIter _ p) => s.size - p | _ => 0)
  case atStart => exact ⟨0, Nat.zero_le _, rfl, fun j hj => by omega⟩
  case round =>
    obtain ⟨k, hk, rfl, hj⟩ := hrel
    have HBI : Hid (∀ n, Below w.heap.size w (w.iter s n)) := fun n => (Below.refl w.heap.size w).alloc (Nat.le_refl _) (.stringIter s n)
    by_cases hlt : k < s.size
    · have HYES : Hid (okAt s k = true → ∀ j, j < k + 1 → okAt s j = true) := fun h => upto hj.out h
      have HNO : Hid (okAt s k = false → nameB s.data.toList = false) := fun h => nameB_not hlt h
      by_cases ha : (s[k]'hlt).toNat < 128
      · have hnx := fun ty => run_next_ascii (P := Tryz.prog) w s k ty hlt ha
        have HL := Lib.hid (letC_int (c := s[k]'hlt))
        have HO := Lib.hid (okC_int (c := s[k]'hlt))
        have HGB := Lib.hid (getD_byte s hlt)
        obtain ⟨c, hc⟩ : ∃ c, s[k]'hlt = c := ⟨_, rfl⟩
        rw [hc] at ha HL HO HGB
        simp only [hc] at hnx
        clear hc
        by_cases hz : k = 0
        · subst hz
          have HAT : Hid (okAt s 0 = letC c) := by show _ = _; unfold okAt; rw [if_pos rfl, HGB.out]
          clear hj
          go_wp2_with fail
          all_goals first
            | (go_ret
               refine ⟨ret_bool (HNO.out (Bool.eq_false_iff.2 fun h => ?_)).symm, HBI.out _⟩
               rw [HAT.out, HL.out] at h
               first | omega | (simp at *; omega) | (simp at *; done))
            | (go_roundw
               case rel =>
                 refine ⟨0 + 1, by omega, rfl, HYES.out ?_⟩
                 rw [HAT.out, HL.out]
                 first | omega | (simp at *; omega)
               case measure => simp [World.iter_heap]; omega)
        · have HAT : Hid (okAt s k = okC c) := by show _ = _; unfold okAt; rw [if_neg hz, HGB.out]
          have hkz : ((k : Int) == 0) = false := by rw [beq_eq_false_iff_ne]; omega
          clear hj
          go_wp2_with fail
          all_goals first
            | (go_ret
               refine ⟨ret_bool (HNO.out (Bool.eq_false_iff.2 fun h => ?_)).symm, HBI.out _⟩
               rw [HAT.out, HO.out] at h
               first | omega | (simp at *; omega) | (simp at *; done))
            | (go_roundw
               case rel =>
                 refine ⟨k + 1, by omega, rfl, HYES.out ?_⟩
                 rw [HAT.out, HO.out]
                 first | omega | (simp at *; omega)
               case measure => simp [World.iter_heap]; omega)
      · have hnx := fun ty => run_next_any (P := Tryz.prog) w s k ty hlt
        obtain ⟨d1, d2⟩ := decode_high s k hlt (by omega)
        have HF : Hid (okAt s k = false) := by
          show _ = _
          refine Bool.eq_false_iff.2 fun h => ?_
          unfold okAt at h
          rw [getD_byte s hlt] at h
          split at h
          · rename_i hz
            subst hz
            have h' := (letC_int (c := s[0]'hlt)).1 (by rw [← getD_byte s hlt]; exact h)
            omega
          · have h' := okC_int.1 h
            omega
        have HN := Lib.hid (HNO.out HF.out)
        obtain ⟨r, hr⟩ : ∃ r, (Utf8.decode s k).1 = r := ⟨_, rfl⟩
        obtain ⟨n, hn⟩ : ∃ n, (Utf8.decode s k).2 = n := ⟨_, rfl⟩
        rw [hr] at d1 d2
        simp only [hr, hn] at hnx
        have HB2 : Hid (∀ n, Below w.heap.size w (w.iter s n)) := fun n => (Below.refl w.heap.size w).alloc (Nat.le_refl _) (.stringIter s n)
        have e1 : decide ((r : Int) ≤ 90) = false := by rw [decide_eq_false_iff_not]; omega
        have e2 : decide ((r : Int) ≤ 122) = false := by rw [decide_eq_false_iff_not]; omega
        have e3 : decide ((r : Int) ≤ 57) = false := by rw [decide_eq_false_iff_not]; omega
        have e4 : ((r : Int) == 95) = false := by rw [beq_eq_false_iff_ne]; omega
        have e5 : ((r : Int) == 45) = false := by rw [beq_eq_false_iff_ne]; omega
        clear hj hr hn ha
        go_wp2_with fail
        all_goals
          go_ret
          exact ⟨ret_bool HN.out.symm, HB2.out _⟩
    · have hnx := fun ty => run_next_end (P := Tryz.prog) w s k ty hlt
      have HN := Lib.hid (nameB_all (s := s) (by omega) (by omega) (fun j h => hj.out j (by omega)))
      go_wp2_with fail
      go_ret
      exact ⟨ret_bool HN.out.symm, HBI.out _⟩
end Go.Proofs.YtlmfcigabojbmaaGreatDoor
