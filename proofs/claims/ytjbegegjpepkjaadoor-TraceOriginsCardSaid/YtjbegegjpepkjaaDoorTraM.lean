/- Contract: the reference's Add. -/
import Derived.Test.YtjbegegjpepkjaaDoorTraL
namespace Go.Proofs.YtjbegegjpepkjaaDoor
open Go.RowKit Go.Maps

theorem fI_of_some {l : List Lnk} {x : List UInt8} {y : Lnk} (h : fnd l x = some y) : ∃ i : Nat, fI l x = i ∧ l[i]? = some y := by
  unfold fnd at h
  rw [List.find?_eq_some_iff_getElem] at h
  obtain ⟨h1, i, hi, hy, hb⟩ := h
  have hi2 : l[i]? = some y := by rw [List.getElem?_eq_getElem hi, hy]
  refine ⟨i, (fI_some hi2 (by simpa using h1) fun j z hj hz => ?_).1, hi2⟩
  have := hb j hj
  rw [List.getElem?_eq_getElem (by omega)] at hz
  rw [Option.some.inj hz] at this
  simpa using this
theorem fI_of_none {l : List Lnk} {x : List UInt8} (h : fnd l x = none) : fI l x = -1 := (fI_none fun j z _ hz => fnd_none h z (List.mem_of_getElem? hz)).1
set_option maxHeartbeats 8000000 in
set_option maxRecDepth 100000 in
theorem rAdd_first (v : Value) (l : List Lnk) (item heat : ByteArray) (tm : Int) (w : World) (h : SK w v l) (hnil : v = .slice none 0 0 ∨ ∃ ad n c, v = .slice (some ad) n c) (hP : RegP l) (hl : l.length ≤ 4096) (hh : ∀ x ∈ l, x.hash < 18446744073709551616) (h1 : item.size ≤ 1000) (h3 : heat.size ≤ 1000) :
    Calls Tryd.prog 13 #[v, .string item, .string ⟨#[]⟩, .string heat, .int .i64 tm] w (rAddR v l item.data.toList [] heat.data.toList tm w) := by
  have H := Lib.hid h
  have HP := Lib.hid hP
  have HH := Lib.hid hh
  have HNIL := Lib.hid hnil
  obtain ⟨a, cap, e1, n1, n2, n3⟩ := h
  subst e1
  have N3 := Lib.hid n3
  unfold maxLen at n2
  clear hP hh n3 hnil
  go_enter Tryd.func13, Tryd.ntmps13
  go_wp2_with fail
  refine (rIsId_any item _ (by omega)).mono ?_
  rintro e w1 ⟨rfl, hb⟩
  have HB1 := Lib.hid hb
  clear hb
  cases hi : idB item.data.toList
  · have HN : Hid (addE l item.data.toList [] heat.data.toList tm = 6) := addE_name (.inl hi)
    clear hi
    go_wp2_with fail
    go_ret3
    exact rAddR_no HN.out (by decide) rfl H.out HB1.out
  have HI := Lib.hid hi
  clear hi
  go_wp2_with fail
  refine (rIsName_any heat _ (by unfold maxLen; omega)).mono ?_
  rintro e w2 ⟨rfl, hw2⟩
  have HB2 : Hid (Below w.heap.size w w2) := by obtain ⟨m, rfl⟩ := hw2; exact below_drewN' HB1.out m
  clear hw2
  cases hn : nameB heat.data.toList
  · have HN : Hid (addE l item.data.toList [] heat.data.toList tm = 6) := addE_name (.inr (.inr hn))
    clear hn
    go_wp2_with fail
    go_ret3
    exact rAddR_no HN.out (by decide) rfl H.out HB2.out
  have HG : Hid (¬ (idB item.data.toList = false ∨ (([] : List UInt8) ≠ [] ∧ idB [] = false) ∨ nameB heat.data.toList = false)) := by
    intro hh; rcases hh with hh | hh | hh
    · rw [HI.out] at hh; cases hh
    · exact hh.1 rfl
    · rw [hn] at hh; cases hh
  clear hn
  by_cases h0 : tm < 0
  · have HN := Lib.hid (addE_tm (l := l) HG.out (.inl h0))
    have b1 : decide (tm < 0) = true := by rw [decide_eq_true_eq]; exact h0
    go_wp2_with fail
    go_ret3
    exact rAddR_no HN.out (by decide) rfl H.out HB2.out
  have b1 : decide (tm < 0) = false := by rw [decide_eq_false_iff_not]; exact h0
  by_cases h20 : 1048576 < tm
  · have HN := Lib.hid (addE_tm (l := l) HG.out (.inr h20))
    have b2 : decide (1048576 < tm) = true := by rw [decide_eq_true_eq]; exact h20
    go_wp2_with fail
    go_ret3
    exact rAddR_no HN.out (by decide) rfl H.out HB2.out
  have b2 : decide (1048576 < tm) = false := by rw [decide_eq_false_iff_not]; exact h20
  have HT : Hid (¬ (tm < 0 ∨ 1048576 < tm)) := by intro hh; omega
  go_wp2_with fail
  refine (rfind_any _ l item _ (H.out.keep HB2.out)).mono ?_
  rintro e w3 ⟨rfl, hw3⟩
  subst hw3
  cases hf : fnd l item.data.toList with
  | some x =>
    obtain ⟨i, hi, _⟩ := fI_of_some hf
    have HN := Lib.hid (addE_known HG.out HT.out hf)
    rw [hi]
    have b3 : decide ((0 : Int) ≤ i) = true := by rw [decide_eq_true_eq]; omega
    clear hi hf
    go_wp2_with fail
    go_ret3
    exact rAddR_no HN.out (by decide) rfl H.out HB2.out
  | none =>
    rw [fI_of_none hf]
    have HF := Lib.hid hf
    clear hf
    have HN := Lib.hid (addE_first HG.out HT.out HF.out rfl)
    have HO : Hid (orgH l [] = 0) := by show orgH l [] = 0; unfold orgH; rw [HP.out.no_empty]
    by_cases hlen : l.length < 4096
    rotate_left 1
    · rw [if_neg hlen] at HN
      have b3 : ((l.length : Int) == 4096) = true := by rw [beq_iff_eq]; omega
      have b4 : (l.length == 4096) = true := by rw [beq_iff_eq]; omega
      go_wp2_with fail
      go_ret3
      exact rAddR_no HN.out (by decide) rfl H.out HB2.out
    rw [if_pos hlen] at HN
    have b3 : ((l.length : Int) == 4096) = false := by rw [beq_eq_false_iff_ne]; omega
    have b4 : (l.length == 4096) = false := by rw [beq_eq_false_iff_ne]; omega
    obtain ⟨p1, p2, p3, p4, p5⟩ := addE_parts HN.out
    obtain ⟨n, rfl⟩ : ∃ n : Nat, tm = n := ⟨tm.toNat, by omega⟩
    have hn6 : n ≤ 1048576 := by omega
    have q1 := (idB_pos p1).2
    have q3 := nameB_len p3
    rw [size_data] at q1 q3
    have q2 : (⟨#[]⟩ : ByteArray).size ≤ 1000 := by decide
    have HRH := Lib.hid (fun W => rhash_any item ⟨#[]⟩ heat n 0 0 W (by omega) q2 (by omega) hn6 (by omega))
    obtain ⟨hv, hhv⟩ : ∃ hv : Nat, fnvL (linkT item.data.toList ((⟨#[]⟩ : ByteArray)).data.toList heat.data.toList n 0) = hv := ⟨_, rfl⟩
    rw [hhv] at HRH
    have HHV : Hid (hv = (newL l item.data.toList [] heat.data.toList n).hash) := by
      show hv = fnvL (linkT _ _ _ _ (orgH _ _)); rw [HO.out, ← hhv]
    clear p1 p2 p3 p4 p5 hhv q1 q2 q3
    have i1 := bs_of item
    have i2 := bs_of ⟨#[]⟩
    have i3 := bs_of heat
    go_wp2_with fail
    refine (HRH.out _).mono ?_
    rintro e w8 ⟨rfl, hb⟩
    have hlb0 := LkB.new w2 ⟨item.data.toList, (⟨#[]⟩ : ByteArray).data.toList, heat.data.toList, n, 0⟩
    dsimp only at hlb0
    rw [i1, i2, i3] at hlb0
    have hlb := hlb0.keep hb
    have c4 := hlb.at.2.2.2.2
    have f4 : w8.frozen? ⟨w2.heap.size, 4, none⟩ = false := frozen_of_row w8 _ 4 _ _ hlb
    have HB8 := Lib.hid (ext_trans (below_alloc HB2.out _) hb)
    have HLB := Lib.hid hlb
    have h88 : w2.heap.size < w8.heap.size := hlb.lt
    have hW8 : w.heap.size ≤ w2.heap.size := HB2.out.size
    obtain ⟨xb, hxb⟩ : ∃ xb, w2.heap.size = xb := ⟨_, rfl⟩
    rw [hxb] at c4 f4 HLB h88 hW8 ⊢
    clear hlb0 hlb hb hxb
    go_wp2_with fail
    have HX : LkB (w8.setCell ⟨xb, 4, none⟩ (.int .u64 hv)) xb ⟨item.data.toList, (⟨#[]⟩ : ByteArray).data.toList, heat.data.toList, n, hv⟩ := by
      have := heap_setCell_same w8 xb 4 _ _ (.int .u64 hv) HLB.out
      exact this
    have HBX : Below w.heap.size w (w8.setCell ⟨xb, 4, none⟩ (.int .u64 hv)) := HB8.out.setCell hW8 _
    generalize w8.setCell ⟨xb, 4, none⟩ (.int .u64 hv) = W at *
    have HSW := H.out.keep HBX
    refine wp_name fun a0 ha0 => ?_
    have z0 : a0.tmps.size = 96 := by rw [ha0]; rfl
    have q0 : a0.eval (.tmp 0) = .slice a l.length cap := by rw [ha0]; rfl
    have q15 : a0.eval (.tmp 15) = .pointer (some ⟨xb, 0, none⟩) := by rw [ha0]; rfl
    refine wp_region_inv (by kernel_rfl) (by kernel_rfl) (fun L a' w' => IA (.slice a l.length cap) l ⟨item.data.toList, (⟨#[]⟩ : ByteArray).data.toList, heat.data.toList, n, hv⟩ xb W a0 L a' w') IA.start ?_ ?_
    · intro i op L a' w' hop hLi hdep hcl I K hK
      have hi : i < 11 := (Array.getElem?_eq_some_iff.1 hop).1
      have es : ∀ m, m ∉ aS → a'.eval (.tmp m) = a0.eval (.tmp m) := fun m hm => I.sm.eval hm
      have cf : ∀ p q : Nat, (L p = true → L q = true) → L q = false → L p = false := by
        intro p q h hq
        cases hp : L p
        · rfl
        · rw [h hp] at hq; cases hq
      have c20 : L 0 = false → L 2 = false := cf 2 0 (fun h => hcl 2 _ rfl h ⟨0, .data⟩ (by simp) rfl)
      have c52 : L 2 = false → L 5 = false := cf 5 2 (fun h => hcl 5 _ rfl h ⟨2, .data⟩ (by simp) rfl)
      have c54 : L 4 = false → L 5 = false := cf 5 4 (fun h => hcl 5 _ rfl h ⟨4, .data⟩ (by simp) rfl)
      have c85 : L 5 = false → L 8 = false := cf 8 5 (fun h => hcl 8 _ rfl h ⟨5, .data⟩ (by simp) rfl)
      have hcase : i = 0 ∨ i = 1 ∨ i = 2 ∨ i = 3 ∨ i = 4 ∨ i = 5 ∨ i = 6 ∨ i = 7 ∨ i = 8 ∨ i = 9 ∨ i = 10 := by omega
      rcases hcase with h | h | h | h | h | h | h | h | h | h | h <;> subst h <;> have ho' := Option.some.inj hop <;> subst ho' <;> rw [if_pos (by rfl)]
      · exact vl_empty rfl (hK _ _ (I.op0 z0 (c20 hLi) (c52 (c20 hLi)) (c85 (c52 (c20 hLi)))))
      · exact vl_move (.tmp 0) rfl _ ((es 0 (by simp [aS])).trans q0) (hK _ _ (I.pure z0 (i := 1) (by unfold aP; omega)))
      · have h0 := hdep ⟨0, .data⟩ (by simp) rfl
        have o0 := I.e0 h0 hLi
        have v1 : a'.eval (.tmp 89) = .slice a l.length cap := I.val 1 (by unfold aP; omega) (hdep ⟨1, .data⟩ (by simp) rfl)
        rcases HNIL.out with e | ⟨ad', n', c', e⟩
        · have hl0 : l = [] := by simp at e <;> exact List.eq_nil_of_length_eq_zero (by first | exact e.2.1 | omega | simp_all)
          obtain ⟨b', n', c', e', hnc⟩ := o0.shape
          rw [e] at v1
          refine vl_app_nil (.tmp 88) (.tmp 89) b' n' c' rfl e' v1 hnc (hK _ _ ?_)
          have := I.op2 (t := .slice b' n' c') z0 h0 hLi (c52 hLi) (c85 (c52 hLi)) (by rw [hl0, ← e']; exact o0) (World.grownBy.refl _ _) (.inl (by rw [e']))
          exact this
        · rw [e] at v1
          have hsk := HSW.keep I.bw
          rw [e] at hsk
          refine vl_app (.tmp 88) (.tmp 89) rfl W.heap.size _ [] l rfl o0 ad' n' c' v1 hsk (by simp; omega) I.bw.size fun t wt ho hg hat => hK _ _ ?_
          exact I.op2 z0 h0 hLi (c52 hLi) (c85 (c52 hLi)) (by simpa using ho) hg hat
      · exact vl_link (.tmp 15) _ xb rfl ((es 15 (by simp [aS])).trans q15) (HX.keep I.bw) (hK _ _ (I.pure z0 (i := 3) (by unfold aP; omega)))
      · exact vl_one (.tmp 91) _ rfl (I.val 3 (by unfold aP; omega) (hdep ⟨3, .data⟩ (by simp) rfl)) (hK _ _ (I.op4 z0 (c54 hLi) (c85 (c54 hLi))))
      · obtain ⟨g, e1, e2, _⟩ := I.e4 (hdep ⟨4, .data⟩ (by simp) rfl) hLi
        have h2 := hdep ⟨2, .data⟩ (by simp) rfl
        refine vl_app (.tmp 90) (.tmp 92) rfl W.heap.size _ l [_] rfl (I.e2 h2 hLi) ⟨g, 0, none⟩ 1 1 e1 (sk_one e2) (by simp; omega) I.bw.size fun t wt ho hg hat => hK _ _ ?_
        exact I.op5 z0 h2 hLi (c85 hLi) ho hg
      · exact fa0 (.tmp 15) 4 (by omega) rfl xb 0 ((es 15 (by simp [aS])).trans q15) (hK _ _ (I.pure z0 (i := 6) (by unfold aP; omega)))
      · exact vl_load 27 agg_u64 (.tmp 94) rfl _ _ (I.val 6 (by unfold aP; omega) (hdep ⟨6, .data⟩ (by simp) rfl)) (cell_keep I.bw HX.at.2.2.2.2) (hK _ _ (I.pure z0 (i := 7) (by unfold aP; omega)))
      · exact vl_assign (.tmp 93) rfl _ rfl (hK _ _ (I.op8 z0 (hdep ⟨2, .phase⟩ (by simp) rfl) (hdep ⟨5, .data⟩ (by simp) rfl)))
      · exact vl_assign (.tmp 95) rfl _ (I.val 7 (by unfold aP; omega) (hdep ⟨7, .data⟩ (by simp) rfl)) (hK _ _ (I.pure z0 (i := 9) (by unfold aP; omega)))
      · exact vl_assign _ rfl _ rfl (hK _ _ (I.pure z0 (i := 10) (by unfold aP; omega)))
    · intro L a' w1 hall I
      have v10 := I.e8 (hall 8 (by decide))
      have v11 : a'.eval (.tmp 11) = .int .u64 hv := I.val 9 (by unfold aP; omega) (hall 9 (by decide))
      have v12 : a'.eval (.tmp 12) = .int .i64 0 := I.val 10 (by unfold aP; omega) (hall 10 (by decide))
      have HA := I.sm.lit
      have HB2 := Lib.hid (ext_trans HBX I.bw)
      simp only [aS, List.foldl] at HA
      rw [v11, v12] at HA
      obtain ⟨tb, tn, tc, et, _⟩ := v10.shape
      rw [et] at HA v10
      generalize a'.eval (.tmp 88) = t88 at HA
      generalize a'.eval (.tmp 89) = t89 at HA
      generalize a'.eval (.tmp 90) = t90 at HA
      generalize a'.eval (.tmp 91) = t91 at HA
      generalize a'.eval (.tmp 92) = t92 at HA
      generalize a'.eval (.tmp 93) = t93 at HA
      generalize a'.eval (.tmp 94) = t94 at HA
      generalize a'.eval (.tmp 95) = t95 at HA
      rw [HA, ha0]
      simp only [Act.put, List.setIfInBounds_toArray, List.set_cons_zero, List.set_cons_succ]
      have HOW := Lib.hid (owns_mono v10 HBX.size)
      clear HA I hall z0 ha0 q0 q15 v10 v11 v12 et HX HBX HSW c4 f4
      go_wp2_with fail
      go_ret3
      have hnl : (⟨item.data.toList, (⟨#[]⟩ : ByteArray).data.toList, heat.data.toList, n, hv⟩ : Lnk) = newL l item.data.toList [] heat.data.toList n := by rw [HHV.out]; rfl
      have hown : OwnK w1 w.heap.size (.slice tb tn tc) (addL l item.data.toList [] heat.data.toList n) := by unfold addL; rw [if_pos HN.out, ← hnl]; exact HOW.out
      refine ⟨.slice tb tn tc, ?_, hown.sk, .inr hown, HB2.out⟩
      unfold addH; rw [if_pos HN.out, HN.out, ← HHV.out]
      try rfl
set_option maxHeartbeats 8000000 in
set_option maxRecDepth 100000 in
theorem rAdd_from (v : Value) (l : List Lnk) (item frm heat : ByteArray) (tm : Int) (w : World) (h : SK w v l) (hnil : v = .slice none 0 0 ∨ ∃ ad n c, v = .slice (some ad) n c) (hP : RegP l) (hl : l.length ≤ 4096) (hh : ∀ x ∈ l, x.hash < 18446744073709551616) (h1 : item.size ≤ 1000) (h2 : frm.size ≤ 1000) (h0 : frm.size ≠ 0) (h3 : heat.size ≤ 1000) :
    Calls Tryd.prog 13 #[v, .string item, .string frm, .string heat, .int .i64 tm] w (rAddR v l item.data.toList frm.data.toList heat.data.toList tm w) := by
  have H := Lib.hid h
  have HP := Lib.hid hP
  have HH := Lib.hid hh
  have HNIL := Lib.hid hnil
  obtain ⟨a, cap, e1, n1, n2, n3⟩ := h
  subst e1
  have N3 := Lib.hid n3
  unfold maxLen at n2
  obtain ⟨k1, k2, k3⟩ := nonempty_facts h0
  have K3 := Lib.hid k3
  clear k3 h0
  clear hP hh n3 hnil
  go_enter Tryd.func13, Tryd.ntmps13
  go_wp2_with fail
  refine (rIsId_any item _ (by omega)).mono ?_
  rintro e w1 ⟨rfl, hb⟩
  have HB1 := Lib.hid hb
  clear hb
  cases hi : idB item.data.toList
  · have HN : Hid (addE l item.data.toList frm.data.toList heat.data.toList tm = 6) := addE_name (.inl hi)
    clear hi
    go_wp2_with fail
    go_ret3
    exact rAddR_no HN.out (by decide) rfl H.out HB1.out
  have HI := Lib.hid hi
  clear hi
  go_wp2_with fail
  refine (rIsId_any frm _ (by omega)).mono ?_
  rintro e w1' ⟨rfl, hb⟩
  have HB1' := Lib.hid (ext_trans HB1.out hb)
  clear hb HB1
  have HB1 := HB1'
  clear HB1'
  cases hj : idB frm.data.toList
  · have HN : Hid (addE l item.data.toList frm.data.toList heat.data.toList tm = 6) := addE_name (.inr (.inl ⟨K3.out, hj⟩))
    clear hj
    go_wp2_with fail
    go_ret3
    exact rAddR_no HN.out (by decide) rfl H.out HB1.out
  have HJ := Lib.hid hj
  clear hj
  go_wp2_with fail
  refine (rIsName_any heat _ (by unfold maxLen; omega)).mono ?_
  rintro e w2 ⟨rfl, hw2⟩
  have HB2 : Hid (Below w.heap.size w w2) := by obtain ⟨m, rfl⟩ := hw2; exact below_drewN' HB1.out m
  clear hw2
  cases hn : nameB heat.data.toList
  · have HN : Hid (addE l item.data.toList frm.data.toList heat.data.toList tm = 6) := addE_name (.inr (.inr hn))
    clear hn
    go_wp2_with fail
    go_ret3
    exact rAddR_no HN.out (by decide) rfl H.out HB2.out
  have HG : Hid (¬ (idB item.data.toList = false ∨ (frm.data.toList ≠ [] ∧ idB frm.data.toList = false) ∨ nameB heat.data.toList = false)) := by
    intro hh; rcases hh with hh | hh | hh
    · rw [HI.out] at hh; cases hh
    · have := hh.2; rw [HJ.out] at this; cases this
    · rw [hn] at hh; cases hh
  clear hn
  by_cases h0 : tm < 0
  · have HN := Lib.hid (addE_tm (l := l) HG.out (.inl h0))
    have b1 : decide (tm < 0) = true := by rw [decide_eq_true_eq]; exact h0
    go_wp2_with fail
    go_ret3
    exact rAddR_no HN.out (by decide) rfl H.out HB2.out
  have b1 : decide (tm < 0) = false := by rw [decide_eq_false_iff_not]; exact h0
  by_cases h20 : 1048576 < tm
  · have HN := Lib.hid (addE_tm (l := l) HG.out (.inr h20))
    have b2 : decide (1048576 < tm) = true := by rw [decide_eq_true_eq]; exact h20
    go_wp2_with fail
    go_ret3
    exact rAddR_no HN.out (by decide) rfl H.out HB2.out
  have b2 : decide (1048576 < tm) = false := by rw [decide_eq_false_iff_not]; exact h20
  have HT : Hid (¬ (tm < 0 ∨ 1048576 < tm)) := by intro hh; omega
  go_wp2_with fail
  refine (rfind_any _ l item _ (H.out.keep HB2.out)).mono ?_
  rintro e w3 ⟨rfl, hw3⟩
  subst hw3
  cases hf : fnd l item.data.toList with
  | some x =>
    obtain ⟨i, hi, _⟩ := fI_of_some hf
    have HN := Lib.hid (addE_known HG.out HT.out hf)
    rw [hi]
    have b3 : decide ((0 : Int) ≤ i) = true := by rw [decide_eq_true_eq]; omega
    clear hi hf
    go_wp2_with fail
    go_ret3
    exact rAddR_no HN.out (by decide) rfl H.out HB2.out
  | none =>
    rw [fI_of_none hf]
    have HF := Lib.hid hf
    clear hf
    go_wp2_with fail
    refine (rfind_any _ l frm _ (H.out.keep HB2.out)).mono ?_
    rintro e w3 ⟨rfl, hw3⟩
    subst hw3
    cases hq : fnd l frm.data.toList with
    | none =>
      have HN := Lib.hid (addE_none HG.out HT.out HF.out K3.out hq)
      rw [fI_of_none hq]
      clear hq
      go_wp2_with fail
      go_ret3
      exact rAddR_no HN.out (by decide) rfl H.out HB2.out
    | some y =>
      have HN := Lib.hid (addE_some HG.out HT.out HF.out K3.out hq)
      have HO : Hid (orgH l frm.data.toList = y.hash) := by show orgH _ _ = _; unfold orgH; rw [hq]
      have HOL : Hid (y.hash < 18446744073709551616) := HH.out y (fnd_mem hq).1
      obtain ⟨i, hi, hiy⟩ := fI_of_some hq
      rw [hi]
      have b3 : decide ((i : Int) < 0) = false := by rw [decide_eq_false_iff_not]; omega
      have hil := (List.getElem?_eq_some_iff.1 hiy).1
      obtain ⟨b, off, ha, hc0⟩ := N3.out i hil
      rw [(ki_some hiy).2] at hc0
      have hc := hc0.keep HB2.out
      subst ha
      have d2 := hc.c2
      have d3 := hc.c3
      have d4 := hc.c4
      have HCY := Lib.hid hc
      clear hi hq hc hc0 hiy
      by_cases h5 : tm < y.tm
      · rw [if_pos h5] at HN
        have b5 : decide (tm < y.tm) = true := by rw [decide_eq_true_eq]; exact h5
        go_wp2_with fail
        go_ret3
        exact rAddR_no HN.out (by decide) rfl H.out HB2.out
      rw [if_neg h5] at HN
      have b5 : decide (tm < y.tm) = false := by rw [decide_eq_false_iff_not]; exact h5
      by_cases h6 : heat.data.toList ≠ y.heat
      · rw [if_pos h6] at HN
        have b6 : (heat.toList != (bs y.heat).toList) = true := by rw [bne_iff_ne, toList_data, toList_data, bs_list]; exact h6
        have b7 : (heat.toList == (bs y.heat).toList) = false := by rw [beq_eq_false_iff_ne, toList_data, toList_data, bs_list]; exact h6
        clear h6
        go_wp2_with fail
        go_ret3
        exact rAddR_no HN.out (by decide) rfl H.out HB2.out
      rw [if_neg h6] at HN
      have h6' : heat.data.toList = y.heat := Classical.not_not.1 h6
      have b6 : (heat.toList != (bs y.heat).toList) = false := by rw [bne_eq_false_iff_eq, toList_data, toList_data, bs_list]; exact h6'
      have b7 : (heat.toList == (bs y.heat).toList) = true := by rw [beq_iff_eq, toList_data, toList_data, bs_list]; exact h6'
      clear h6 h6'
      by_cases hlen : l.length < 4096
      rotate_left 1
      · rw [if_neg hlen] at HN
        have b3 : ((l.length : Int) == 4096) = true := by rw [beq_iff_eq]; omega
        have b4 : (l.length == 4096) = true := by rw [beq_iff_eq]; omega
        go_wp2_with fail
        go_ret3
        exact rAddR_no HN.out (by decide) rfl H.out HB2.out
      rw [if_pos hlen] at HN
      have b3 : ((l.length : Int) == 4096) = false := by rw [beq_eq_false_iff_ne]; omega
      have b4 : (l.length == 4096) = false := by rw [beq_eq_false_iff_ne]; omega
      obtain ⟨p1, p2, p3, p4, p5⟩ := addE_parts HN.out
      obtain ⟨n, rfl⟩ : ∃ n : Nat, tm = n := ⟨tm.toNat, by omega⟩
      have hn6 : n ≤ 1048576 := by omega
      have q1 := (idB_pos p1).2
      have q3 := nameB_len p3
      rw [size_data] at q1 q3
      have q2 : frm.size ≤ 1000 := by omega
      have HRH := Lib.hid (fun W => rhash_any item frm heat n y.hash 0 W (by omega) q2 (by omega) hn6 HOL.out)
      obtain ⟨hv, hhv⟩ : ∃ hv : Nat, fnvL (linkT item.data.toList ((frm : ByteArray)).data.toList heat.data.toList n y.hash) = hv := ⟨_, rfl⟩
      rw [hhv] at HRH
      have HHV : Hid (hv = (newL l item.data.toList frm.data.toList heat.data.toList n).hash) := by
        show hv = fnvL (linkT _ _ _ _ (orgH _ _)); rw [HO.out, ← hhv]
      clear p1 p2 p3 p4 p5 hhv q1 q2 q3
      have i1 := bs_of item
      have i2 := bs_of frm
      have i3 := bs_of heat
      go_wp2_with fail
      refine (HRH.out _).mono ?_
      rintro e w8 ⟨rfl, hb⟩
      have hlb0 := LkB.new w2 ⟨item.data.toList, (frm : ByteArray).data.toList, heat.data.toList, n, 0⟩
      dsimp only at hlb0
      rw [i1, i2, i3] at hlb0
      have hlb := hlb0.keep hb
      have c4 := hlb.at.2.2.2.2
      have f4 : w8.frozen? ⟨w2.heap.size, 4, none⟩ = false := frozen_of_row w8 _ 4 _ _ hlb
      have HB8 := Lib.hid (ext_trans (below_alloc HB2.out _) hb)
      have HLB := Lib.hid hlb
      have h88 : w2.heap.size < w8.heap.size := hlb.lt
      have hW8 : w.heap.size ≤ w2.heap.size := HB2.out.size
      clear d2 d3 d4
      obtain ⟨xb, hxb⟩ : ∃ xb, w2.heap.size = xb := ⟨_, rfl⟩
      rw [hxb] at c4 f4 HLB h88 hW8 ⊢
      clear hlb0 hlb hb hxb
      go_wp2_with fail
      have HX : LkB (w8.setCell ⟨xb, 4, none⟩ (.int .u64 hv)) xb ⟨item.data.toList, (frm : ByteArray).data.toList, heat.data.toList, n, hv⟩ := by
        have := heap_setCell_same w8 xb 4 _ _ (.int .u64 hv) HLB.out
        exact this
      have HBX : Below w.heap.size w (w8.setCell ⟨xb, 4, none⟩ (.int .u64 hv)) := HB8.out.setCell hW8 _
      generalize w8.setCell ⟨xb, 4, none⟩ (.int .u64 hv) = W at *
      have HSW := H.out.keep HBX
      refine wp_name fun a0 ha0 => ?_
      have z0 : a0.tmps.size = 96 := by rw [ha0]; rfl
      have q0 : a0.eval (.tmp 0) = .slice (some ⟨b, off, none⟩) l.length cap := by rw [ha0]; rfl
      have q15 : a0.eval (.tmp 15) = .pointer (some ⟨xb, 0, none⟩) := by rw [ha0]; rfl
      refine wp_region_inv (by kernel_rfl) (by kernel_rfl) (fun L a' w' => IA (.slice (some ⟨b, off, none⟩) l.length cap) l ⟨item.data.toList, (frm : ByteArray).data.toList, heat.data.toList, n, hv⟩ xb W a0 L a' w') IA.start ?_ ?_
      · intro i op L a' w' hop hLi hdep hcl I K hK
        have hi : i < 11 := (Array.getElem?_eq_some_iff.1 hop).1
        have es : ∀ m, m ∉ aS → a'.eval (.tmp m) = a0.eval (.tmp m) := fun m hm => I.sm.eval hm
        have cf : ∀ p q : Nat, (L p = true → L q = true) → L q = false → L p = false := by
          intro p q h hq
          cases hp : L p
          · rfl
          · rw [h hp] at hq; cases hq
        have c20 : L 0 = false → L 2 = false := cf 2 0 (fun h => hcl 2 _ rfl h ⟨0, .data⟩ (by simp) rfl)
        have c52 : L 2 = false → L 5 = false := cf 5 2 (fun h => hcl 5 _ rfl h ⟨2, .data⟩ (by simp) rfl)
        have c54 : L 4 = false → L 5 = false := cf 5 4 (fun h => hcl 5 _ rfl h ⟨4, .data⟩ (by simp) rfl)
        have c85 : L 5 = false → L 8 = false := cf 8 5 (fun h => hcl 8 _ rfl h ⟨5, .data⟩ (by simp) rfl)
        have hcase : i = 0 ∨ i = 1 ∨ i = 2 ∨ i = 3 ∨ i = 4 ∨ i = 5 ∨ i = 6 ∨ i = 7 ∨ i = 8 ∨ i = 9 ∨ i = 10 := by omega
        rcases hcase with h | h | h | h | h | h | h | h | h | h | h <;> subst h <;> have ho' := Option.some.inj hop <;> subst ho' <;> rw [if_pos (by rfl)]
        · exact vl_empty rfl (hK _ _ (I.op0 z0 (c20 hLi) (c52 (c20 hLi)) (c85 (c52 (c20 hLi)))))
        · exact vl_move (.tmp 0) rfl _ ((es 0 (by simp [aS])).trans q0) (hK _ _ (I.pure z0 (i := 1) (by unfold aP; omega)))
        · have h0 := hdep ⟨0, .data⟩ (by simp) rfl
          have o0 := I.e0 h0 hLi
          have v1 : a'.eval (.tmp 89) = .slice (some ⟨b, off, none⟩) l.length cap := I.val 1 (by unfold aP; omega) (hdep ⟨1, .data⟩ (by simp) rfl)
          rcases HNIL.out with e | ⟨ad', n', c', e⟩
          · have hl0 : l = [] := by simp at e <;> exact List.eq_nil_of_length_eq_zero (by first | exact e.2.1 | omega | simp_all)
            obtain ⟨b', n', c', e', hnc⟩ := o0.shape
            rw [e] at v1
            refine vl_app_nil (.tmp 88) (.tmp 89) b' n' c' rfl e' v1 hnc (hK _ _ ?_)
            have := I.op2 (t := .slice b' n' c') z0 h0 hLi (c52 hLi) (c85 (c52 hLi)) (by rw [hl0, ← e']; exact o0) (World.grownBy.refl _ _) (.inl (by rw [e']))
            exact this
          · rw [e] at v1
            have hsk := HSW.keep I.bw
            rw [e] at hsk
            refine vl_app (.tmp 88) (.tmp 89) rfl W.heap.size _ [] l rfl o0 ad' n' c' v1 hsk (by simp; omega) I.bw.size fun t wt ho hg hat => hK _ _ ?_
            exact I.op2 z0 h0 hLi (c52 hLi) (c85 (c52 hLi)) (by simpa using ho) hg hat
        · exact vl_link (.tmp 15) _ xb rfl ((es 15 (by simp [aS])).trans q15) (HX.keep I.bw) (hK _ _ (I.pure z0 (i := 3) (by unfold aP; omega)))
        · exact vl_one (.tmp 91) _ rfl (I.val 3 (by unfold aP; omega) (hdep ⟨3, .data⟩ (by simp) rfl)) (hK _ _ (I.op4 z0 (c54 hLi) (c85 (c54 hLi))))
        · obtain ⟨g, e1, e2, _⟩ := I.e4 (hdep ⟨4, .data⟩ (by simp) rfl) hLi
          have h2 := hdep ⟨2, .data⟩ (by simp) rfl
          refine vl_app (.tmp 90) (.tmp 92) rfl W.heap.size _ l [_] rfl (I.e2 h2 hLi) ⟨g, 0, none⟩ 1 1 e1 (sk_one e2) (by simp; omega) I.bw.size fun t wt ho hg hat => hK _ _ ?_
          exact I.op5 z0 h2 hLi (c85 hLi) ho hg
        · exact fa0 (.tmp 15) 4 (by omega) rfl xb 0 ((es 15 (by simp [aS])).trans q15) (hK _ _ (I.pure z0 (i := 6) (by unfold aP; omega)))
        · exact vl_load 27 agg_u64 (.tmp 94) rfl _ _ (I.val 6 (by unfold aP; omega) (hdep ⟨6, .data⟩ (by simp) rfl)) (cell_keep I.bw HX.at.2.2.2.2) (hK _ _ (I.pure z0 (i := 7) (by unfold aP; omega)))
        · exact vl_assign (.tmp 93) rfl _ rfl (hK _ _ (I.op8 z0 (hdep ⟨2, .phase⟩ (by simp) rfl) (hdep ⟨5, .data⟩ (by simp) rfl)))
        · exact vl_assign (.tmp 95) rfl _ (I.val 7 (by unfold aP; omega) (hdep ⟨7, .data⟩ (by simp) rfl)) (hK _ _ (I.pure z0 (i := 9) (by unfold aP; omega)))
        · exact vl_assign _ rfl _ rfl (hK _ _ (I.pure z0 (i := 10) (by unfold aP; omega)))
      · intro L a' w1 hall I
        have v10 := I.e8 (hall 8 (by decide))
        have v11 : a'.eval (.tmp 11) = .int .u64 hv := I.val 9 (by unfold aP; omega) (hall 9 (by decide))
        have v12 : a'.eval (.tmp 12) = .int .i64 0 := I.val 10 (by unfold aP; omega) (hall 10 (by decide))
        have HA := I.sm.lit
        have HB2 := Lib.hid (ext_trans HBX I.bw)
        simp only [aS, List.foldl] at HA
        rw [v11, v12] at HA
        obtain ⟨tb, tn, tc, et, _⟩ := v10.shape
        rw [et] at HA v10
        generalize a'.eval (.tmp 88) = t88 at HA
        generalize a'.eval (.tmp 89) = t89 at HA
        generalize a'.eval (.tmp 90) = t90 at HA
        generalize a'.eval (.tmp 91) = t91 at HA
        generalize a'.eval (.tmp 92) = t92 at HA
        generalize a'.eval (.tmp 93) = t93 at HA
        generalize a'.eval (.tmp 94) = t94 at HA
        generalize a'.eval (.tmp 95) = t95 at HA
        rw [HA, ha0]
        simp only [Act.put, List.setIfInBounds_toArray, List.set_cons_zero, List.set_cons_succ]
        have HOW := Lib.hid (owns_mono v10 HBX.size)
        clear HA I hall z0 ha0 q0 q15 v10 v11 v12 et HX HBX HSW c4 f4
        go_wp2_with fail
        go_ret3
        have hnl : (⟨item.data.toList, (frm : ByteArray).data.toList, heat.data.toList, n, hv⟩ : Lnk) = newL l item.data.toList frm.data.toList heat.data.toList n := by rw [HHV.out]; rfl
        have hown : OwnK w1 w.heap.size (.slice tb tn tc) (addL l item.data.toList frm.data.toList heat.data.toList n) := by unfold addL; rw [if_pos HN.out, ← hnl]; exact HOW.out
        refine ⟨.slice tb tn tc, ?_, hown.sk, .inr hown, HB2.out⟩
        unfold addH; rw [if_pos HN.out, HN.out, ← HHV.out]
        try rfl
theorem rAdd_any (v : Value) (l : List Lnk) (item frm heat : ByteArray) (tm : Int) (w : World) (h : SK w v l) (hnil : v = .slice none 0 0 ∨ ∃ ad n c, v = .slice (some ad) n c) (hP : RegP l) (hl : l.length ≤ 4096) (hh : ∀ x ∈ l, x.hash < 18446744073709551616) (h1 : item.size ≤ 1000) (h2 : frm.size ≤ 1000) (h3 : heat.size ≤ 1000) :
    Calls Tryd.prog 13 #[v, .string item, .string frm, .string heat, .int .i64 tm] w (rAddR v l item.data.toList frm.data.toList heat.data.toList tm w) := by
  by_cases h0 : frm.size = 0
  · have := byte_empty h0
    subst this
    exact rAdd_first v l item heat tm w h hnil hP hl hh h1 h3
  · exact rAdd_from v l item frm heat tm w h hnil hP hl hh h1 h2 h0 h3
end Go.Proofs.YtjbegegjpepkjaaDoor
