/- Contracts: Compare of ident and of its reference. -/
import Derived.Test.YtgfefnfnpplhlaaDoorIdI
namespace Go.Proofs.YtgfefnfnpplhlaaDoor
open Go.RowKit

theorem elemN_le {l : List UInt8} (h : 0 < l.length) : elemN l ≤ l.length := by
  unfold elemN
  have := (List.takeWhile_sublist (l := l) digC).length_le
  omega
theorem cmpR_step {n : Nat} {x y : List UInt8} {t : Int} (hx : 0 < x.length) (hy : 0 < y.length) : cmpR (n + 1) x y t = if cmpE (x.take (elemN x)) (y.take (elemN y)) = 0 then cmpR n (x.drop (elemN x)) (y.drop (elemN y)) t else cmpE (x.take (elemN x)) (y.take (elemN y)) := by
  cases x with
  | nil => simp at hx
  | cons a x =>
    cases y with
    | nil => simp at hy
    | cons b y => rfl
structure Cmp (r : Int) (t : Int) (n : Nat) (x y : ByteArray) : Prop where
  fuel : x.size < n
  is : r = cmpR n x.data.toList y.data.toList t
theorem Cmp.both {r t : Int} {n : Nat} (h : Cmp r t n ⟨#[]⟩ ⟨#[]⟩) : r = t := by
  rw [h.is]; cases n with
  | zero => exact absurd h.fuel (by omega)
  | succ n => rfl
theorem Cmp.left {r t : Int} {n : Nat} {y : ByteArray} (h : Cmp r t n ⟨#[]⟩ y) (hy : 0 < y.size) : r = -1 := by
  rw [h.is]; cases n with
  | zero => exact absurd h.fuel (by omega)
  | succ n =>
    rw [← size_data] at hy
    cases hh : y.data.toList with
    | nil => rw [hh] at hy; simp at hy
    | cons b y => rfl
theorem Cmp.right {r t : Int} {n : Nat} {x : ByteArray} (h : Cmp r t n x ⟨#[]⟩) (hx : 0 < x.size) : r = 1 := by
  rw [h.is]; cases n with
  | zero => exact absurd h.fuel (by omega)
  | succ n =>
    rw [← size_data] at hx
    cases hh : x.data.toList with
    | nil => rw [hh] at hx; simp at hx
    | cons b y => rfl
theorem Cmp.ne {r t : Int} {n : Nat} {x y : ByteArray} {p q : ByteArray} (h : Cmp r t n x y) (hx : 0 < x.size) (hy : 0 < y.size) (hp : p.data.toList = x.data.toList.take (elemN x.data.toList)) (hq : q.data.toList = y.data.toList.take (elemN y.data.toList)) (hc : cmpE p.data.toList q.data.toList ≠ 0) : r = cmpE p.data.toList q.data.toList := by
  cases n with
  | zero => exact absurd h.fuel (by omega)
  | succ n => rw [h.is, cmpR_step (by rw [size_data]; exact hx) (by rw [size_data]; exact hy), ← hp, ← hq, if_neg hc]
theorem Cmp.on {r t : Int} {n : Nat} {x y : ByteArray} {p q x' y' : ByteArray} (h : Cmp r t n x y) (hx : 0 < x.size) (hy : 0 < y.size) (hp : p.data.toList = x.data.toList.take (elemN x.data.toList)) (hq : q.data.toList = y.data.toList.take (elemN y.data.toList)) (hc : cmpE p.data.toList q.data.toList = 0)
    (hx' : x'.data.toList = x.data.toList.drop (elemN x.data.toList)) (hy' : y'.data.toList = y.data.toList.drop (elemN y.data.toList)) : Cmp r t (n - 1) x' y' := by
  cases n with
  | zero => exact absurd h.fuel (by omega)
  | succ n =>
    have e := h.is
    rw [cmpR_step (by rw [size_data]; exact hx) (by rw [size_data]; exact hy), ← hp, ← hq, if_pos hc, ← hx', ← hy'] at e
    refine ⟨?_, e⟩
    have := congrArg List.length hx'
    rw [size_data, List.length_drop, size_data] at this
    have h1 := elemN_pos x.data.toList
    have := h.fuel
    omega
theorem cmp_start (a b : ByteArray) : Cmp (natC a.data.toList b.data.toList) (bytesC a.data.toList b.data.toList) (a.size + 1) a b := ⟨by omega, by unfold natC; rw [size_data]⟩
theorem no_empty {s : ByteArray} (h : 0 < s.size) : s.toList.isEmpty = false := by
  rw [toList_data]
  cases hh : s.data.toList with
  | nil => have := size_data s; rw [hh] at this; simp at this; omega
  | cons x xs => rfl
theorem no_empty2 {s : ByteArray} (h : 0 < s.size) : s.toList = [] ↔ False := by
  rw [iff_false]; intro e; have := no_empty h; rw [e] at this; cases this

theorem element_cut (s : ByteArray) (w : World) (hs : s.size ≤ maxLen) (h0 : 0 < s.size) : Calls Tryd.prog 33 #[.string s] w fun e w' => ∃ p r : ByteArray, e = .returned (.tuple #[.string p, .string r]) ∧ p.data.toList = s.data.toList.take (elemN s.data.toList) ∧ r.data.toList = s.data.toList.drop (elemN s.data.toList) ∧ 0 < p.size ∧ p.size ≤ maxLen ∧ r.size < s.size ∧ ∃ m, w' = w.drewN m := by
  refine (element_any s w hs h0).mono ?_
  rintro e w' ⟨rfl, hw⟩
  have h1 := elemN_pos s.data.toList
  have h2 := elemN_le (l := s.data.toList) (by rw [size_data]; exact h0)
  rw [size_data] at h2
  refine ⟨_, _, rfl, by rw [extract_list, List.drop_zero], by rw [extract_list, List.take_of_length_le (by rw [size_data]; exact Nat.le_refl _)], ?_, ?_, ?_, hw⟩
  · simp; omega
  · simp; omega
  · simp; omega
theorem first_cut (s : ByteArray) (w : World) (hs : s.size ≤ maxLen) (h0 : 0 < s.size) : Calls Tryd.prog 36 #[.string s] w fun e w' => ∃ p : ByteArray, e = .returned (.string p) ∧ p.data.toList = s.data.toList.take (elemN s.data.toList) ∧ p.size = elemN s.data.toList ∧ 0 < p.size ∧ p.size ≤ s.size ∧ ∃ m, w' = w.drewN m := by
  refine (first_any s w hs h0).mono ?_
  rintro e w' ⟨rfl, hw⟩
  have h1 := elemN_pos s.data.toList
  have h2 := elemN_le (l := s.data.toList) (by rw [size_data]; exact h0)
  rw [size_data] at h2
  refine ⟨_, rfl, by rw [extract_list, List.drop_zero], ?_, ?_, ?_, hw⟩
  · simp; omega
  · simp; omega
  · simp; omega

set_option maxHeartbeats 1000000 in
theorem Compare_any (a b : ByteArray) (w : World) (ha : a.size ≤ maxLen) (hb : b.size ≤ maxLen) : Calls Tryd.prog 21 #[.string a, .string b] w fun e w' => e = .returned (.int .i64 (natC a.data.toList b.data.toList)) ∧ ∃ m, w' = w.drewN m := by
  go_enter Tryd.func21, Tryd.ntmps21
  go_wp2_with fail
  go_loopw [5, 6] (fun x y wr => ∃ (s t : ByteArray) (n : Nat), x = .string s ∧ y = .string t ∧ s.size ≤ a.size ∧ t.size ≤ b.size ∧ Hid (Cmp (natC a.data.toList b.data.toList) (bytesC a.data.toList b.data.toList) n s t) ∧ Hid (∃ m, wr = w.drewN m)) (fun x _ _ => match x with | .string s => s.size | _ => 0)
  case atStart => exact ⟨a, b, _, rfl, rfl, Nat.le_refl _, Nat.le_refl _, cmp_start a b, ⟨0, rfl⟩⟩
  case round =>
    obtain ⟨s, t, n, rfl, rfl, hsa, htb, HC, HW⟩ := hrel
    have hs : s.size ≤ maxLen := Nat.le_trans hsa ha
    have ht : t.size ≤ maxLen := Nat.le_trans htb hb
    have HS := Lib.hid hs
    have HT := Lib.hid ht
    by_cases hs0 : s.size = 0
    · have := byte_empty hs0
      subst this
      by_cases ht0 : t.size = 0
      · have := byte_empty ht0
        subst this
        have HR := Lib.hid HC.out.both
        clear hs0 ht0 hs ht hsa htb
        go_wp2_with fail
        refine (Tryd.strings_Compare _ _ _).mono ?_
        rintro e w1 ⟨rfl, rfl⟩
        go_wp2_with fail
        go_ret
        exact ⟨ret_i64 (by rw [HR.out, compare_is]), HW.out⟩
      · have hnt := no_empty (s := t) (by omega)
        have hnt2 := no_empty2 (s := t) (by omega)
        have HR := Lib.hid (HC.out.left (by omega))
        clear hs0 ht0 hs ht hsa htb
        go_wp2_with fail
        go_ret
        exact ⟨ret_i64 HR.out.symm, HW.out⟩
    · have hns := no_empty (s := s) (by omega)
      have hns2 := no_empty2 (s := s) (by omega)
      by_cases ht0 : t.size = 0
      · have := byte_empty ht0
        subst this
        have HR := Lib.hid (HC.out.right (by omega))
        clear hs0 ht0 hs ht hsa htb
        go_wp2_with fail
        go_ret
        exact ⟨ret_i64 HR.out.symm, HW.out⟩
      · have hnt := no_empty (s := t) (by omega)
        have hnt2 := no_empty2 (s := t) (by omega)
        have HS0 := Lib.hid (show 0 < s.size by omega)
        have HT0 := Lib.hid (show 0 < t.size by omega)
        clear hs ht
        go_wp2_with fail
        refine (element_cut s _ HS.out HS0.out).mono ?_
        rintro e w1 ⟨p, s', rfl, hp, hs', hp0, hpl, hss, hw⟩
        have HP := Lib.hid hp
        have HS' := Lib.hid hs'
        have HP0 := Lib.hid hp0
        have HPL := Lib.hid hpl
        replace HW := Lib.hid (qt HW.out hw)
        clear hp hs' hp0 hpl hw
        go_wp2_with fail
        refine (element_cut t _ HT.out HT0.out).mono ?_
        rintro e w2 ⟨q, t', rfl, hq, ht', hq0, hql, htt, hw⟩
        have HQ := Lib.hid hq
        have HT' := Lib.hid ht'
        have HQ0 := Lib.hid hq0
        have HQL := Lib.hid hql
        replace HW := Lib.hid (qt HW.out hw)
        clear hq ht' hq0 hql hw
        go_wp2_with fail
        refine (cmpE_any p q _ HPL.out HQL.out HP0.out HQ0.out).mono ?_
        rintro e w3 ⟨rfl, hw⟩
        replace HW := Lib.hid (qt HW.out hw)
        clear hw
        have HNE := Lib.hid (fun hc => HC.out.ne HS0.out HT0.out HP.out HQ.out hc)
        have HON := Lib.hid (fun hc => HC.out.on HS0.out HT0.out HP.out HQ.out hc HS'.out HT'.out)
        obtain ⟨c, hc⟩ : ∃ c, cmpE p.data.toList q.data.toList = c := ⟨_, rfl⟩
        rw [hc] at HNE HON ⊢
        clear hc
        by_cases hz : c = 0
        · have HR := Lib.hid (HON.out hz)
          subst hz
          go_wp2_with fail
          go_roundw
          case rel => exact ⟨s', t', n - 1, rfl, rfl, by omega, by omega, HR.out, HW.out⟩
          case measure => simp; omega
        · have HR := Lib.hid (HNE.out hz)
          have z1 : (c != 0) = true := by rw [bne_iff_ne]; exact hz
          have z2 : (c == 0) = false := by rw [beq_eq_false_iff_ne]; exact hz
          go_wp2_with fail
          go_ret
          exact ⟨ret_i64 HR.out.symm, HW.out⟩

set_option maxHeartbeats 1000000 in
theorem rCompare_any (a b : ByteArray) (w : World) (ha : a.size ≤ maxLen) (hb : b.size ≤ maxLen) : Calls Tryd.prog 22 #[.string a, .string b] w fun e w' => e = .returned (.int .i64 (natC a.data.toList b.data.toList)) ∧ ∃ m, w' = w.drewN m := by
  go_enter Tryd.func22, Tryd.ntmps22
  go_wp2_with fail
  go_loopw [5, 6] (fun x y wr => ∃ (s t : ByteArray) (n : Nat), x = .string s ∧ y = .string t ∧ s.size ≤ a.size ∧ t.size ≤ b.size ∧ Hid (Cmp (natC a.data.toList b.data.toList) (bytesC a.data.toList b.data.toList) n s t) ∧ Hid (∃ m, wr = w.drewN m)) (fun x _ _ => match x with | .string s => s.size | _ => 0)
  case atStart => exact ⟨a, b, _, rfl, rfl, Nat.le_refl _, Nat.le_refl _, cmp_start a b, ⟨0, rfl⟩⟩
  case round =>
    obtain ⟨s, t, n, rfl, rfl, hsa, htb, HC, HW⟩ := hrel
    have hs : s.size ≤ maxLen := Nat.le_trans hsa ha
    have ht : t.size ≤ maxLen := Nat.le_trans htb hb
    have HS := Lib.hid hs
    have HT := Lib.hid ht
    by_cases hs0 : s.size = 0
    · have := byte_empty hs0
      subst this
      by_cases ht0 : t.size = 0
      · have := byte_empty ht0
        subst this
        have HR := Lib.hid HC.out.both
        clear hs0 ht0 hs ht hsa htb
        go_wp2_with fail
        refine (bytes_any _ _ _).mono ?_
        rintro e w1 ⟨rfl, hw⟩
        replace HW := Lib.hid (qt HW.out hw)
        clear hw
        go_wp2_with fail
        go_ret
        exact ⟨ret_i64 (by rw [HR.out]), HW.out⟩
      · have hnt := no_empty (s := t) (by omega)
        have hnt2 := no_empty2 (s := t) (by omega)
        have HR := Lib.hid (HC.out.left (by omega))
        clear hs0 ht0 hs ht hsa htb
        go_wp2_with fail
        go_ret
        exact ⟨ret_i64 HR.out.symm, HW.out⟩
    · have hns := no_empty (s := s) (by omega)
      have hns2 := no_empty2 (s := s) (by omega)
      by_cases ht0 : t.size = 0
      · have := byte_empty ht0
        subst this
        have HR := Lib.hid (HC.out.right (by omega))
        clear hs0 ht0 hs ht hsa htb
        go_wp2_with fail
        go_ret
        exact ⟨ret_i64 HR.out.symm, HW.out⟩
      · have hnt := no_empty (s := t) (by omega)
        have hnt2 := no_empty2 (s := t) (by omega)
        have HS0 := Lib.hid (show 0 < s.size by omega)
        have HT0 := Lib.hid (show 0 < t.size by omega)
        have hsm : s.size ≤ 9223372036854775807 := by unfold maxLen at hs; omega
        have htm : t.size ≤ 9223372036854775807 := by unfold maxLen at ht; omega
        clear hs ht
        go_wp2_with fail
        refine (first_cut s _ HS.out HS0.out).mono ?_
        rintro e w1 ⟨p, rfl, hp, hpe, hp0, hpl, hw⟩
        have HP := Lib.hid hp
        have HPE := Lib.hid hpe
        replace HW := Lib.hid (qt HW.out hw)
        clear hp hpe hw
        go_wp2_with fail
        refine (first_cut t _ HT.out HT0.out).mono ?_
        rintro e w2 ⟨q, rfl, hq, hqe, hq0, hql, hw⟩
        have HQ := Lib.hid hq
        have HQE := Lib.hid hqe
        replace HW := Lib.hid (qt HW.out hw)
        clear hq hqe hw
        have HPM := Lib.hid (Nat.le_trans hpl HS.out)
        have HQM := Lib.hid (Nat.le_trans hql HT.out)
        go_wp2_with fail
        refine (pair_any p q _ HPM.out HQM.out (by omega) (by omega)).mono ?_
        rintro e w3 ⟨rfl, hw⟩
        replace HW := Lib.hid (qt HW.out hw)
        clear hw
        have HNE := Lib.hid (fun hc => HC.out.ne HS0.out HT0.out HP.out HQ.out hc)
        have HON := Lib.hid (fun hc => HC.out.on (x' := s.extract p.size s.size) (y' := t.extract q.size t.size) HS0.out HT0.out HP.out HQ.out hc (by rw [extract_list, List.take_of_length_le (by rw [size_data]; exact Nat.le_refl _), HPE.out]) (by rw [extract_list, List.take_of_length_le (by rw [size_data]; exact Nat.le_refl _), HQE.out]))
        obtain ⟨c, hc⟩ : ∃ c, cmpE p.data.toList q.data.toList = c := ⟨_, rfl⟩
        rw [hc] at HNE HON ⊢
        clear hc
        by_cases hz : c = 0
        · have HR := Lib.hid (HON.out hz)
          subst hz
          go_wp2_with fail
          go_quiet (fail)
          go_wp2_with fail
          go_roundw
          case rel => exact ⟨s.extract p.size s.size, t.extract q.size t.size, n - 1, rfl, rfl, by simp; omega, by simp; omega, HR.out, qt HW.out ⟨_, rfl⟩⟩
          case measure => simp; omega
        · have HR := Lib.hid (HNE.out hz)
          have z1 : (c != 0) = true := by rw [bne_iff_ne]; exact hz
          have z2 : (c == 0) = false := by rw [beq_eq_false_iff_ne]; exact hz
          go_wp2_with fail
          go_ret
          exact ⟨ret_i64 HR.out.symm, HW.out⟩
end Go.Proofs.YtgfefnfnpplhlaaDoor
