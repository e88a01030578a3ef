/- Contracts: the reference's IsName; names, IsId, Split, Join of ident. -/
import Derived.Test.YtlmfcigabojbmaaGreatDoorIdB
import Derived.Test.YtlmfcigabojbmaaGreatDoorShelf
import Derived.Lib.Join
set_option linter.unusedSimpArgs false
set_option linter.unusedVariables false
namespace Go.Proofs.YtlmfcigabojbmaaGreatDoor
open Go.RowKit

def SZ (w : World) (v : Value) (ss : List ByteArray) : Prop := Sl w v ss.length fun i => .string (zi ss i)
def bl (ss : List ByteArray) : List (List UInt8) := ss.map (·.data.toList)
theorem SZ.keep {w w' : World} {v : Value} {xs : List ByteArray} (h : SZ w v xs) (hb : Below w.heap.size w w') : SZ w' v xs := Sl.keep h hb
theorem SZ_nil (w : World) : SZ w (.slice none 0 0) [] := ⟨none, 0, rfl, Nat.le_refl _, Nat.zero_le _, fun i hi => by simp at hi⟩
theorem zi_lt {ss : List ByteArray} {k : Nat} (h : k < ss.length) : zi ss k = ss[k] := by simp [zi, h]
theorem zi_mem {ss : List ByteArray} {k : Nat} (h : k < ss.length) : zi ss k ∈ ss := by rw [zi_lt h]; exact List.getElem_mem h
theorem mem_zi {ss : List ByteArray} {x : ByteArray} (h : x ∈ ss) : ∃ k, k < ss.length ∧ zi ss k = x := by
  obtain ⟨k, hk, rfl⟩ := List.mem_iff_getElem.1 h; exact ⟨k, hk, zi_lt hk⟩
theorem take_succ_zi {ss : List ByteArray} {k : Nat} (h : k < ss.length) : ss.take (k + 1) = ss.take k ++ [zi ss k] := by
  rw [List.take_succ_eq_append_getElem h, zi_lt h]
theorem size_data (s : ByteArray) : s.data.toList.length = s.size := by simp
theorem SZ_lit (w : World) (ss : List ByteArray) (e : TypeId) (h : ss.length ≤ maxLen) : SZ (w.alloc (.cells (ss.map Value.string).toArray e)) (.slice (some ⟨w.heap.size, 0, none⟩) ss.length ss.length) ss := by
  refine ⟨_, _, rfl, Nat.le_refl _, h, fun i hi => ⟨w.heap.size, 0, rfl, ?_⟩⟩
  simp [zi_lt hi, hi]
/-- the library's own variable holds some integer -/
def MLen (w : World) : Prop := ∃ m, w.cell? ⟨0, 0, none⟩ = some (.int .i64 m)
theorem MLen.keep {w w' : World} (h : MLen w) (hb : Below w.heap.size w w') : MLen w' := by obtain ⟨m, hm⟩ := h; exact ⟨m, cell_keep hb hm⟩

theorem split_form (s : ByteArray) : (Lib.splitB ⟨#[46]⟩ 0 (Lib.countB s ⟨#[46]⟩) s).length = Lib.countB s ⟨#[46]⟩ + 1 ∧ bl (Lib.splitB ⟨#[46]⟩ 0 (Lib.countB s ⟨#[46]⟩) s) = cutL s.data.toList := by
  have h : bl (Lib.splitB ⟨#[46]⟩ 0 (Lib.countB s ⟨#[46]⟩) s) = cutL s.data.toList := by
    unfold bl
    rw [Lib.splitB_data]
    exact split_dot s.data.toList
  refine ⟨?_, h⟩
  have h2 := congrArg List.length h
  unfold bl at h2
  rw [List.length_map, cutL_length] at h2
  rw [h2]
  show _ = Lib.count s.data.toList [46] + 1
  rw [count_dot _ _ rfl]
/-- strings.Split at a full stop -/
theorem split_any (s : ByteArray) (w : World) (hs : s.size ≤ 1000000) (hm : MLen w) : Calls Tryz.prog 58 #[.string s, .string ⟨#[46]⟩] w fun e w' => ∃ v ss, e = .returned v ∧ bl ss = cutL s.data.toList ∧ SZ w' v ss ∧ Below w.heap.size w w' := by
  obtain ⟨m, hm⟩ := hm
  obtain ⟨hl, hb⟩ := split_form s
  refine (Tryz.strings_Split s ⟨#[46]⟩ m w (by omega) hm (by decide)).mono ?_
  rintro e w' ⟨rfl, rfl⟩
  refine ⟨_, _, rfl, hb, ?_, (Below.refl _ _).alloc (Nat.le_refl _) _⟩
  rw [← hl]
  refine SZ_lit w _ _ ?_
  have := congrArg List.length hb
  unfold bl at this
  rw [List.length_map, cutL_length] at this
  have h2 := List.count_le_length (a := (46 : UInt8)) (l := s.data.toList)
  rw [size_data] at h2
  unfold maxLen; omega

set_option maxHeartbeats 1000000 in
theorem rIsName_any (s : ByteArray) (w : World) (hs : s.size ≤ maxLen) : Calls Tryz.prog 63 #[.string s] w fun e w' => e = .returned (.bool (nameB s.data.toList)) ∧ ∃ m, w' = w.drewN m := by
  unfold maxLen at hs
  by_cases h0 : s.size = 0
  · have := byte_empty h0
    subst this
    clear h0 hs
    go_enter Tryz.func63, Tryz.ntmps63
    go_wp2_with fail
    go_ret
    exact ⟨ret_bool nameB_empty.symm, 0, rfl⟩
  have hne : s.toList.isEmpty = false := by
    rw [toList_data]
    cases h : s.data.toList with
    | nil => have : s.data.toList.length = s.size := by simp
             rw [h] at this; simp at this; omega
    | cons x xs => rfl
  have hne2 : s.toList = [] ↔ False := by rw [iff_false]; intro h; rw [h] at hne; cases hne
  by_cases h16 : 16 < s.size
  · have HN := Lib.hid (nameB_long h16)
    have hb : decide ((16 : Int) < s.size) = true := by rw [decide_eq_true_eq]; omega
    go_enter Tryz.func63, Tryz.ntmps63
    go_wp2_with fail
    go_ret
    exact ⟨ret_bool HN.out.symm, 0, rfl⟩
  have hb : decide ((16 : Int) < s.size) = false := by rw [decide_eq_false_iff_not]; omega
  have hpos : 0 < s.size := by omega
  go_enter Tryz.func63, Tryz.ntmps63
  go_wp2_with fail
  refine (letter_any (s[0]'hpos) _).mono ?_
  rintro e w1 ⟨rfl, m1, rfl⟩
  have HAT0 : Hid (okAt s 0 = letC (s[0]'hpos)) := by show _ = _; unfold okAt; rw [if_pos rfl, getD_byte s hpos]
  cases hl0 : letC (s[0]'hpos)
  · have HN := Lib.hid (nameB_not hpos (HAT0.out.trans hl0))
    clear hl0
    go_wp2_with fail
    go_ret
    exact ⟨ret_bool HN.out.symm, m1, rfl⟩
  have HA0 := Lib.hid (HAT0.out.trans hl0)
  clear hl0 HAT0
  go_wp2_with fail
  go_loopw [3] (fun i wr => ∃ k : Nat, k ≤ s.size ∧ i = .int .i64 k ∧ (∃ m, wr = w.drewN m) ∧ Hid (∀ j, j < k → okC (s.data.toList.getD j 0) = true)) (fun i _ => s.size - (intOf i).toNat)
  case atStart => exact ⟨0, Nat.zero_le _, rfl, ⟨_, rfl⟩, fun j hj => by omega⟩
  case round =>
    obtain ⟨k, hk, rfl, ⟨m, rfl⟩, hj⟩ := hrel
    by_cases hlt : k < s.size
    · have HGB := Lib.hid (getD_byte s hlt)
      have HYES : Hid (okC (s.data.toList.getD k 0) = true → ∀ j, j < k + 1 → okC (s.data.toList.getD j 0) = true) := fun h => upto hj.out h
      have HNO : Hid (okC (s.data.toList.getD k 0) = false → nameB s.data.toList = false) := fun h => by
        refine nameB_not hlt ?_
        unfold okAt
        split
        · rename_i hz
          subst hz
          cases h3 : letC (s.data.toList.getD 0 0)
          · rfl
          · rw [okC_let h3] at h; cases h
        · exact h
      have HOK : Hid (okC (s[k]'hlt) = (letC (s[k]'hlt) || digC (s[k]'hlt) || s[k]'hlt == 95 || s[k]'hlt == 45)) := rfl
      have HL := Lib.hid (letter_any (s[k]'hlt))
      have HD := Lib.hid (digit_any (s[k]'hlt))
      have e95 : ((s[k]'hlt).toNat : Int) = 95 ↔ (s[k]'hlt == 95) = true := by rw [beq_iff_eq, ← UInt8.toNat_inj]; show _ ↔ _ = 95; omega
      have e45 : ((s[k]'hlt).toNat : Int) = 45 ↔ (s[k]'hlt == 45) = true := by rw [beq_iff_eq, ← UInt8.toNat_inj]; show _ ↔ _ = 45; omega
      rw [HGB.out] at HYES HNO
      have E95 := Lib.hid e95
      have E45 := Lib.hid e45
      clear hj e95 e45
      go_wp2_with fail
      refine (HL.out _).mono ?_
      rintro e w1 ⟨rfl, m1, rfl⟩
      cases h1 : letC (s[k]'hlt)
      · go_wp2_with fail
        refine (HD.out _).mono ?_
        rintro e w1 ⟨rfl, m2, rfl⟩
        cases h2 : digC (s[k]'hlt)
        · rw [h1, h2] at HOK
          by_cases h3 : ((s[k]'hlt).toNat : Int) = 95
          · have b3 : (((s[k]'hlt).toNat : Int) != 95) = false := by rw [h3]; rfl
            have HR := Lib.hid (HYES.out (by rw [HOK.out, E95.out.1 h3]; rfl))
            clear h1 h2 h3
            go_wp2_with fail
            go_roundw
            case rel => exact ⟨k + 1, by omega, by go_num, ⟨_, rfl⟩, HR.out⟩
            case measure => simp [intOf]; omega
          · have b3 : (((s[k]'hlt).toNat : Int) != 95) = true := by rw [bne_iff_ne]; exact h3
            by_cases h4 : ((s[k]'hlt).toNat : Int) = 45
            · have b4 : (((s[k]'hlt).toNat : Int) != 45) = false := by rw [h4]; rfl
              have HR := Lib.hid (HYES.out (by rw [HOK.out, E45.out.1 h4]; simp))
              clear h1 h2 h3 h4
              go_wp2_with fail
              go_roundw
              case rel => exact ⟨k + 1, by omega, by go_num, ⟨_, rfl⟩, HR.out⟩
              case measure => simp [intOf]; omega
            · have b4 : (((s[k]'hlt).toNat : Int) != 45) = true := by rw [bne_iff_ne]; exact h4
              have h5 : (s[k]'hlt == 95) = false := by
                cases h : (s[k]'hlt == 95)
                · rfl
                · exact absurd (E95.out.2 h) h3
              have h6 : (s[k]'hlt == 45) = false := by
                cases h : (s[k]'hlt == 45)
                · rfl
                · exact absurd (E45.out.2 h) h4
              have HR := Lib.hid (HNO.out (by rw [HOK.out, h5, h6]; rfl))
              clear h1 h2 h3 h4 h5 h6
              go_wp2_with fail
              go_ret
              exact ⟨ret_bool HR.out.symm, _, rfl⟩
        · have HR := Lib.hid (HYES.out (by rw [HOK.out, h1, h2]; rfl))
          clear h1 h2
          go_wp2_with fail
          go_roundw
          case rel => exact ⟨k + 1, by omega, by go_num, ⟨_, rfl⟩, HR.out⟩
          case measure => simp [intOf]; omega
      · have HR := Lib.hid (HYES.out (by rw [HOK.out, h1]; rfl))
        clear h1
        go_wp2_with fail
        go_roundw
        case rel => exact ⟨k + 1, by omega, by go_num, ⟨_, rfl⟩, HR.out⟩
        case measure => simp [intOf]; omega
    · have HN : Hid (nameB s.data.toList = true) := nameB_all hpos (by omega) fun j hjs => by
        by_cases hz : j = 0
        · subst hz; exact HA0.out
        · unfold okAt; rw [if_neg hz]; exact hj.out j (by omega)
      go_wp2_with fail
      go_ret
      exact ⟨ret_bool HN.out.symm, _, rfl⟩
end Go.Proofs.YtlmfcigabojbmaaGreatDoor
