/- Contract: the error of a link that is added. -/
import Derived.Test.YtjbegegjpepkjaaDoorTraE
namespace Go.Proofs.YtjbegegjpepkjaaDoor
open Go.RowKit Go.Maps

section
variable {l : List Lnk} {item frm heat : List UInt8} {tm : Int}
theorem addE_name (h : idB item = false ∨ (frm ≠ [] ∧ idB frm = false) ∨ nameB heat = false) : addE l item frm heat tm = 6 := by unfold addE; rw [if_pos h]
theorem addE_tm (h : ¬ (idB item = false ∨ (frm ≠ [] ∧ idB frm = false) ∨ nameB heat = false)) (h2 : tm < 0 ∨ 1048576 < tm) : addE l item frm heat tm = 15 := by
  unfold addE; rw [if_neg h, if_pos h2]
theorem addE_known (h : ¬ (idB item = false ∨ (frm ≠ [] ∧ idB frm = false) ∨ nameB heat = false)) (h2 : ¬ (tm < 0 ∨ 1048576 < tm)) {x : Lnk} (h3 : fnd l item = some x) : addE l item frm heat tm = 7 := by
  unfold addE; rw [if_neg h, if_neg h2, h3]; rfl
theorem addE_first (h : ¬ (idB item = false ∨ (frm ≠ [] ∧ idB frm = false) ∨ nameB heat = false)) (h2 : ¬ (tm < 0 ∨ 1048576 < tm)) (h3 : fnd l item = none) (h4 : frm = []) : addE l item frm heat tm = if l.length < 4096 then 0 else 12 := by
  unfold addE; rw [if_neg h, if_neg h2, h3, if_neg (by simp), if_pos h4]
theorem addE_none (h : ¬ (idB item = false ∨ (frm ≠ [] ∧ idB frm = false) ∨ nameB heat = false)) (h2 : ¬ (tm < 0 ∨ 1048576 < tm)) (h3 : fnd l item = none) (h4 : frm ≠ []) (h5 : fnd l frm = none) : addE l item frm heat tm = 8 := by
  unfold addE; rw [if_neg h, if_neg h2, h3, if_neg (by simp), if_neg h4, h5]
theorem addE_some (h : ¬ (idB item = false ∨ (frm ≠ [] ∧ idB frm = false) ∨ nameB heat = false)) (h2 : ¬ (tm < 0 ∨ 1048576 < tm)) (h3 : fnd l item = none) (h4 : frm ≠ []) {y : Lnk} (h5 : fnd l frm = some y) :
    addE l item frm heat tm = if tm < y.tm then 15 else if heat ≠ y.heat then 31 else if l.length < 4096 then 0 else 12 := by
  unfold addE; rw [if_neg h, if_neg h2, h3, if_neg (by simp), if_neg h4, h5]
end
theorem nonempty_facts {s : ByteArray} (h : s.size ≠ 0) : s.toList.isEmpty = false ∧ (s.toList = [] ↔ False) ∧ s.data.toList ≠ [] := by
  have h1 : s.data.toList ≠ [] := fun e => h (by rw [← size_data, e]; rfl)
  have h2 : s.toList.isEmpty = false := by
    rw [toList_data]
    cases e : s.data.toList with
    | nil => exact absurd e h1
    | cons x xs => rfl
  exact ⟨h2, ⟨fun e => (by rw [e] at h2; cases h2), False.elim⟩, h1⟩
theorem ret_e {w w' : World} {a b : Int} {e : Ending} (he : e = .returned (.int .i64 b)) (h : a = b) (hb : Below w.heap.size w w') : Ret w (.int .i64 a) e w' := ⟨by rw [h]; exact he, hb⟩

set_option maxHeartbeats 2000000 in
set_option maxRecDepth 100000 in
theorem wrong_first (B rb : Nat) (l : List Lnk) (item heat : ByteArray) (tm : Int) (w : World) (h : RegW B rb l w) (hV : Vars w) (h1 : item.size ≤ maxLen) (h3 : heat.size ≤ maxLen) :
    Calls Tryd.prog 21 #[.pointer (some ⟨rb, 0, none⟩), .string item, .string ⟨#[]⟩, .string heat, .int .i64 tm] w (Ret w (.int .i64 (addE l item.data.toList [] heat.data.toList tm))) := by
  have H := Lib.hid h
  have HV := Lib.hid hV
  have H1 := Lib.hid h1
  have H3 := Lib.hid h3
  clear h hV h1 h3
  go_enter Tryd.func21, Tryd.ntmps21
  go_wp2_with fail
  refine (IsId_any item _ H1.out HV.out.1).mono ?_
  rintro e w1 ⟨rfl, hb⟩
  have HB1 := Lib.hid hb
  clear hb
  cases hi : idB item.data.toList
  · have HN : Hid (addE l item.data.toList [] heat.data.toList tm = 6) := addE_name (.inl hi)
    clear hi
    go_wp2_with fail
    go_ret
    exact ret_e rfl HN.out HB1.out
  have HI := Lib.hid hi
  clear hi
  go_wp2_with fail
  refine (IsName_any heat _ H3.out).mono ?_
  rintro e w2 ⟨rfl, hb⟩
  have HB2 := Lib.hid (ext_trans HB1.out hb)
  clear hb
  cases hn : nameB heat.data.toList
  · have HN : Hid (addE l item.data.toList [] heat.data.toList tm = 6) := addE_name (.inr (.inr hn))
    clear hn
    go_wp2_with fail
    go_ret
    exact ret_e rfl HN.out HB2.out
  have HG : Hid (¬ (idB item.data.toList = false ∨ (([] : List UInt8) ≠ [] ∧ idB [] = false) ∨ nameB heat.data.toList = false)) := by
    intro hh; rcases hh with hh | ⟨hh, _⟩ | hh
    · rw [HI.out] at hh; cases hh
    · exact hh rfl
    · rw [hn] at hh; cases hh
  clear hn
  by_cases h0 : tm < 0
  · have HN := Lib.hid (addE_tm (l := l) HG.out (.inl h0))
    have b1 : decide (tm < 0) = true := by rw [decide_eq_true_eq]; exact h0
    go_wp2_with fail
    go_ret
    exact ret_e rfl HN.out HB2.out
  have b1 : decide (tm < 0) = false := by rw [decide_eq_false_iff_not]; exact h0
  by_cases h20 : 1048576 < tm
  · have HN := Lib.hid (addE_tm (l := l) HG.out (.inr h20))
    have b2 : decide (1048576 < tm) = true := by rw [decide_eq_true_eq]; exact h20
    go_wp2_with fail
    go_ret
    exact ret_e rfl HN.out HB2.out
  have b2 : decide (1048576 < tm) = false := by rw [decide_eq_false_iff_not]; exact h20
  have HT : Hid (¬ (tm < 0 ∨ 1048576 < tm)) := by intro hh; omega
  go_wp2_with fail
  cases hf : fnd l item.data.toList with
  | some x =>
    refine (find_yes B rb l item _ (H.out.keep HB2.out) H1.out x hf).mono ?_
    rintro e w3 ⟨rfl, hb⟩
    have HB3 := Lib.hid (ext_trans HB2.out hb)
    have HN := Lib.hid (addE_known HG.out HT.out hf)
    unfold lkArr
    clear hb hf
    go_wp2_with fail
    go_ret
    exact ret_e rfl HN.out (below_alloc HB3.out _)
  | none =>
    refine (find_no B rb l item _ (H.out.keep HB2.out) H1.out hf).mono ?_
    rintro e w3 ⟨rfl, hb⟩
    have HB3 := Lib.hid (ext_trans HB2.out hb)
    have HN := Lib.hid (addE_first HG.out HT.out hf rfl)
    obtain ⟨bm, v, D, hr⟩ := H.out.keep HB3.out
    have c0 := hr.c0
    have hrl := hr.lt
    have hl4 := hr.h5
    obtain ⟨a, cap, e1, _⟩ := hr.own.sk
    subst e1
    unfold noArr
    clear hb hf hr
    by_cases hlen : l.length < 4096
    · rw [if_pos hlen] at HN
      have b3 : decide (4096 ≤ (l.length : Int)) = false := by rw [decide_eq_false_iff_not]; omega
      have b4 : decide (4096 ≤ l.length) = false := by rw [decide_eq_false_iff_not]; omega
      go_wp2_with fail
      go_ret
      exact ret_e rfl HN.out (below_alloc HB3.out _)
    · rw [if_neg hlen] at HN
      have b3 : decide (4096 ≤ (l.length : Int)) = true := by rw [decide_eq_true_eq]; omega
      have b4 : decide (4096 ≤ l.length) = true := by rw [decide_eq_true_eq]; omega
      go_wp2_with fail
      go_ret
      exact ret_e rfl HN.out (below_alloc HB3.out _)
set_option maxHeartbeats 2000000 in
set_option maxRecDepth 100000 in
theorem wrong_from (B rb : Nat) (l : List Lnk) (item frm heat : ByteArray) (tm : Int) (w : World) (h : RegW B rb l w) (hV : Vars w) (h1 : item.size ≤ maxLen) (h2 : frm.size ≤ maxLen) (h0 : frm.size ≠ 0) (h3 : heat.size ≤ maxLen) :
    Calls Tryd.prog 21 #[.pointer (some ⟨rb, 0, none⟩), .string item, .string frm, .string heat, .int .i64 tm] w (Ret w (.int .i64 (addE l item.data.toList frm.data.toList heat.data.toList tm))) := by
  have H := Lib.hid h
  have HV := Lib.hid hV
  have H1 := Lib.hid h1
  have H2 := Lib.hid h2
  have H3 := Lib.hid h3
  obtain ⟨k1, k2, k3⟩ := nonempty_facts h0
  have K3 := Lib.hid k3
  clear h hV h1 h2 h3 h0 k3
  go_enter Tryd.func21, Tryd.ntmps21
  go_wp2_with fail
  refine (IsId_any item _ H1.out HV.out.1).mono ?_
  rintro e w1 ⟨rfl, hb⟩
  have HB1 := Lib.hid hb
  clear hb
  cases hi : idB item.data.toList
  · have HN : Hid (addE l item.data.toList frm.data.toList heat.data.toList tm = 6) := addE_name (.inl hi)
    clear hi
    go_wp2_with fail
    go_ret
    exact ret_e rfl HN.out HB1.out
  have HI := Lib.hid hi
  clear hi
  go_wp2_with fail
  refine (IsId_any frm _ H2.out (HV.out.keep HB1.out).1).mono ?_
  rintro e w1' ⟨rfl, hb⟩
  have HB1' := Lib.hid (ext_trans HB1.out hb)
  clear hb
  cases hj : idB frm.data.toList
  · have HN : Hid (addE l item.data.toList frm.data.toList heat.data.toList tm = 6) := addE_name (.inr (.inl ⟨K3.out, hj⟩))
    clear hj
    go_wp2_with fail
    go_ret
    exact ret_e rfl HN.out HB1'.out
  have HJ := Lib.hid hj
  clear hj
  go_wp2_with fail
  refine (IsName_any heat _ H3.out).mono ?_
  rintro e w2 ⟨rfl, hb⟩
  have HB2 := Lib.hid (ext_trans HB1'.out hb)
  clear hb
  cases hn : nameB heat.data.toList
  · have HN : Hid (addE l item.data.toList frm.data.toList heat.data.toList tm = 6) := addE_name (.inr (.inr hn))
    clear hn
    go_wp2_with fail
    go_ret
    exact ret_e rfl HN.out HB2.out
  have HG : Hid (¬ (idB item.data.toList = false ∨ (frm.data.toList ≠ [] ∧ idB frm.data.toList = false) ∨ nameB heat.data.toList = false)) := by
    intro hh; rcases hh with hh | ⟨_, hh⟩ | hh
    · rw [HI.out] at hh; cases hh
    · rw [HJ.out] at hh; cases hh
    · rw [hn] at hh; cases hh
  clear hn
  by_cases h0 : tm < 0
  · have HN := Lib.hid (addE_tm (l := l) HG.out (.inl h0))
    have b1 : decide (tm < 0) = true := by rw [decide_eq_true_eq]; exact h0
    go_wp2_with fail
    go_ret
    exact ret_e rfl HN.out HB2.out
  have b1 : decide (tm < 0) = false := by rw [decide_eq_false_iff_not]; exact h0
  by_cases h20 : 1048576 < tm
  · have HN := Lib.hid (addE_tm (l := l) HG.out (.inr h20))
    have b2 : decide (1048576 < tm) = true := by rw [decide_eq_true_eq]; exact h20
    go_wp2_with fail
    go_ret
    exact ret_e rfl HN.out HB2.out
  have b2 : decide (1048576 < tm) = false := by rw [decide_eq_false_iff_not]; exact h20
  have HT : Hid (¬ (tm < 0 ∨ 1048576 < tm)) := by intro hh; omega
  go_wp2_with fail
  cases hf : fnd l item.data.toList with
  | some x =>
    refine (find_yes B rb l item _ (H.out.keep HB2.out) H1.out x hf).mono ?_
    rintro e w3 ⟨rfl, hb⟩
    have HB3 := Lib.hid (ext_trans HB2.out hb)
    have HN := Lib.hid (addE_known HG.out HT.out hf)
    unfold lkArr
    clear hb hf
    go_wp2_with fail
    go_ret
    exact ret_e rfl HN.out (below_alloc HB3.out _)
  | none =>
    refine (find_no B rb l item _ (H.out.keep HB2.out) H1.out hf).mono ?_
    rintro e w3 ⟨rfl, hb⟩
    have HB3 := Lib.hid (ext_trans HB2.out hb)
    have HF := Lib.hid hf
    unfold noArr
    clear hb hf
    go_wp2_with fail
    cases hq : fnd l frm.data.toList with
    | none =>
      refine (find_no B rb l frm _ ((H.out.keep HB3.out).keep ((Below.refl _ _).alloc (Nat.le_refl _) _)) H2.out hq).mono ?_
      rintro e w4 ⟨rfl, hb⟩
      have HB4 := Lib.hid (ext_trans (below_alloc HB3.out _) hb)
      have HN := Lib.hid (addE_none HG.out HT.out HF.out K3.out hq)
      unfold noArr
      clear hb hq
      go_wp2_with fail
      go_ret
      exact ret_e rfl HN.out (below_alloc HB4.out _)
    | some y =>
      refine (find_yes B rb l frm _ ((H.out.keep HB3.out).keep ((Below.refl _ _).alloc (Nat.le_refl _) _)) H2.out y hq).mono ?_
      rintro e w4 ⟨rfl, hb⟩
      have HB4 := Lib.hid (ext_trans (below_alloc HB3.out _) hb)
      have HN := Lib.hid (addE_some HG.out HT.out HF.out K3.out hq)
      obtain ⟨bm, v, D, hr⟩ := H.out.keep HB4.out
      have c0 := hr.c0
      have hrl := hr.lt
      have hl4 := hr.h5
      obtain ⟨a, cap, e1, _⟩ := hr.own.sk
      subst e1
      unfold lkArr
      clear hb hq hr
      by_cases h5 : tm < y.tm
      · rw [if_pos h5] at HN
        have b5 : decide (tm < y.tm) = true := by rw [decide_eq_true_eq]; exact h5
        go_wp2_with fail
        go_ret
        exact ret_e rfl HN.out (below_alloc HB4.out _)
      rw [if_neg h5] at HN
      have b5 : decide (tm < y.tm) = false := by rw [decide_eq_false_iff_not]; exact h5
      by_cases h6 : heat.data.toList ≠ y.heat
      · rw [if_pos h6] at HN
        have b6 : (heat.toList != (bs y.heat).toList) = true := by rw [bne_iff_ne, toList_data, toList_data, bs_list]; exact h6
        have b7 : (heat.toList == (bs y.heat).toList) = false := by rw [beq_eq_false_iff_ne, toList_data, toList_data, bs_list]; exact h6
        clear h6
        go_wp2_with fail
        go_ret
        exact ret_e rfl HN.out (below_alloc HB4.out _)
      rw [if_neg h6] at HN
      have h6' : heat.data.toList = y.heat := Classical.not_not.1 h6
      have b6 : (heat.toList != (bs y.heat).toList) = false := by rw [bne_eq_false_iff_eq, toList_data, toList_data, bs_list]; exact h6'
      have b7 : (heat.toList == (bs y.heat).toList) = true := by rw [beq_iff_eq, toList_data, toList_data, bs_list]; exact h6'
      clear h6 h6'
      by_cases hlen : l.length < 4096
      · rw [if_pos hlen] at HN
        have b3 : decide (4096 ≤ (l.length : Int)) = false := by rw [decide_eq_false_iff_not]; omega
        have b4 : decide (4096 ≤ l.length) = false := by rw [decide_eq_false_iff_not]; omega
        go_wp2_with fail
        go_ret
        exact ret_e rfl HN.out (below_alloc HB4.out _)
      · rw [if_neg hlen] at HN
        have b3 : decide (4096 ≤ (l.length : Int)) = true := by rw [decide_eq_true_eq]; omega
        have b4 : decide (4096 ≤ l.length) = true := by rw [decide_eq_true_eq]; omega
        go_wp2_with fail
        go_ret
        exact ret_e rfl HN.out (below_alloc HB4.out _)
theorem wrong_any (B rb : Nat) (l : List Lnk) (item frm heat : ByteArray) (tm : Int) (w : World) (h : RegW B rb l w) (hV : Vars w) (h1 : item.size ≤ maxLen) (h2 : frm.size ≤ maxLen) (h3 : heat.size ≤ maxLen) :
    Calls Tryd.prog 21 #[.pointer (some ⟨rb, 0, none⟩), .string item, .string frm, .string heat, .int .i64 tm] w (Ret w (.int .i64 (addE l item.data.toList frm.data.toList heat.data.toList tm))) := by
  by_cases h0 : frm.size = 0
  · have := byte_empty h0
    subst this
    exact wrong_first B rb l item heat tm w h hV h1 h3
  · exact wrong_from B rb l item frm heat tm w h hV h1 h2 h0 h3
end Go.Proofs.YtjbegegjpepkjaaDoor
