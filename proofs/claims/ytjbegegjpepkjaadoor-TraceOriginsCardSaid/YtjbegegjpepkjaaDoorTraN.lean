/- Contracts of the reference: Same, Origin. -/
import Derived.Test.YtjbegegjpepkjaaDoorTraM
import Derived.Laws.StructEq
namespace Go.Proofs.YtjbegegjpepkjaaDoor
open Go.RowKit Go.Maps

theorem lnk_eq (y z : Lnk) : decide (y = z) = ((bs y.item).toList == (bs z.item).toList && ((bs y.frm).toList == (bs z.frm).toList && ((bs y.heat).toList == (bs z.heat).toList && (decide (y.tm = z.tm) && decide (y.hash = z.hash))))) := by
  simp only [toList_data, bs_list]
  cases y; cases z
  rw [Bool.eq_iff_iff]
  simp
theorem link_eql (w : World) (y z : Lnk) : (Op.equalIn 10000 29 (.agg #[.string (bs y.item), .string (bs y.frm), .string (bs y.heat), .int .i64 y.tm, .int .u64 y.hash]) (.agg #[.string (bs z.item), .string (bs z.frm), .string (bs z.heat), .int .i64 z.tm, .int .u64 z.hash])).run Tryd.prog w = .ok (decide (y = z)) w := by
  have hf : Tryd.prog.underlying 29 = some (.struct (Tryd.prog.fieldsOf 29)) := by simp [Program.fieldsOf, Tryd.underlying29]
  rw [run_equalIn_agg w 9999 29 _ _ hf (by kernel_rfl), lnk_eq]
  generalize bs y.item = a1
  generalize bs y.frm = a2
  generalize bs y.heat = a3
  generalize bs z.item = b1
  generalize bs z.frm = b2
  generalize bs z.heat = b3
  cases h1 : (a1.toList == b1.toList) <;> cases h2 : (a2.toList == b2.toList) <;> cases h3 : (a3.toList == b3.toList) <;> by_cases h4 : y.tm = z.tm <;> by_cases h5 : y.hash = z.hash
  all_goals
    have h6 : ((y.hash : Int) = z.hash) = (y.hash = z.hash) := propext (by omega)
    simp [h6, Program.fieldsOf, Tryd.underlying29, Op.eqFields, part, h1, h2, h3, h4, h5, go_sem]
set_option maxHeartbeats 1000000 in
set_option maxRecDepth 100000 in
theorem rSameK_any (v u : Value) (l m : List Lnk) (w : World) (h : SK w v l) (g : SK w u m) :
    Calls Tryd.prog 17 #[v, u] w fun e w' => e = .returned (.bool (decide (l = m))) ∧ ∃ n, w' = w.drewN n := by
  obtain ⟨a, cap, rfl, n1, n2, n3⟩ := h
  obtain ⟨a', cap', rfl, m1, m2, m3⟩ := g
  have N3 := Lib.hid n3
  have M3 := Lib.hid m3
  unfold maxLen at n2 m2
  clear n3 m3
  by_cases hlen : l.length = m.length
  rotate_left
  · have b1 : ((l.length : Int) != (m.length : Int)) = true := by rw [bne_iff_ne]; omega
    have b2 : (l.length != m.length) = true := by rw [bne_iff_ne]; exact hlen
    have HR : Hid (decide (l = m) = false) := by show _ = _; rw [decide_eq_false_iff_not]; rintro rfl; exact hlen rfl
    clear hlen
    go_enter Tryd.func17, Tryd.ntmps17
    go_wp2_with fail
    go_ret
    exact ⟨ret_bool HR.out.symm, 0, rfl⟩
  have HLE := Lib.hid hlen
  have b1 : ((l.length : Int) != (m.length : Int)) = false := by rw [bne_eq_false_iff_eq]; omega
  have b2 : (l.length != m.length) = false := by rw [bne_eq_false_iff_eq]; exact hlen
  have hle1 : l.length ≤ m.length := by omega
  have hle2 : m.length ≤ l.length := by omega
  clear hlen
  go_enter Tryd.func17, Tryd.ntmps17
  go_wp2_with fail
  go_loopw [5] (fun i wr => ∃ k : Nat, k ≤ l.length ∧ i = .int .i64 k ∧ (∃ n, wr = w.drewN n) ∧ Hid (∀ j, j < k → ki l j = ki m j)) (fun i _ => l.length - (intOf i).toNat)
  case atStart => exact ⟨0, Nat.zero_le _, rfl, ⟨0, rfl⟩, fun j hj => by omega⟩
  case round =>
    obtain ⟨k, hk, rfl, ⟨n, rfl⟩, hj⟩ := hrel
    by_cases hlt : k < l.length
    · have hlt2 : k < m.length := by omega
      obtain ⟨b, off, ha, hc⟩ := N3.out k hlt
      obtain ⟨b', off', ha', hd⟩ := M3.out k hlt2
      subst ha ha'
      have c0 := hc.c0
      have c1 := hc.c1
      have c2 := hc.c2
      have c3 := hc.c3
      have c4 := hc.c4
      have d0 := hd.c0
      have d1 := hd.c1
      have d2 := hd.c2
      have d3 := hd.c3
      have d4 := hd.c4
      have HYES : Hid (ki l k = ki m k → ∀ j, j < k + 1 → ki l j = ki m j) := fun h => upto hj.out h
      have HNO : Hid (ki l k ≠ ki m k → decide (l = m) = false) := fun h => by rw [decide_eq_false_iff_not]; rintro rfl; exact h rfl
      generalize ki l k = y at *
      generalize ki m k = z at *
      have hm : Tryd.prog.eqGuardType Tryd.prog.depth 29 = false := by kernel_rfl
      have heq := fun w => link_eql w y z
      have hneq : ∀ w, (binOp .neq 29 (.agg #[.string (bs y.item), .string (bs y.frm), .string (bs y.heat), .int .i64 y.tm, .int .u64 y.hash]) (.agg #[.string (bs z.item), .string (bs z.frm), .string (bs z.heat), .int .i64 z.tm, .int .u64 z.hash])).run Tryd.prog w = .ok (.bool (!decide (y = z))) w := fun w => by
        rw [run_neq_struct, heq]; rfl
      have i1 : (k : Int) < (l.length : Int) := by omega
      have i2 : (k : Int) < (m.length : Int) := by omega
      clear hc hd hj
      clear heq
      by_cases hyz : y = z
      · have hd : decide (y = z) = true := by rw [decide_eq_true_eq]; exact hyz
        have HR := Lib.hid (HYES.out hyz)
        rw [hd] at hneq
        clear hyz hd
        go_wp2_with fail
        go_quiet (fail)
        go_wp2_with fail
        go_roundw
        case rel => exact ⟨k + 1, by omega, by go_num, (by first | exact ⟨_, rfl⟩ | exact dn2 _ _ _), HR.out⟩
        case measure => simp [intOf]; omega
      · have hd : decide (y = z) = false := by rw [decide_eq_false_iff_not]; exact hyz
        have HR := Lib.hid (HNO.out hyz)
        rw [hd] at hneq
        clear hyz hd
        go_wp2_with fail
        go_quiet (fail)
        go_wp2_with fail
        go_ret
        exact ⟨ret_bool HR.out.symm, (by first | exact ⟨_, rfl⟩ | exact dn2 _ _ _)⟩
    · have HF : Hid (decide (l = m) = true) := by
        show _ = _
        rw [decide_eq_true_eq]
        apply List.ext_getElem HLE.out
        intro i h1 h2
        have := hj.out i (by omega)
        rwa [ki_lt h1, ki_lt h2] at this
      go_wp2_with fail
      go_ret
      exact ⟨ret_bool HF.out.symm, _, rfl⟩

theorem rOrigin_no (v : Value) (l : List Lnk) (s : ByteArray) (w : World) (h : SK w v l) (hf : fnd l s.data.toList = none) :
    Calls Tryd.prog 15 #[v, .string s] w (Ret w (.tuple #[.slice none 0 0, .int .i64 8])) := by
  have HF := Lib.hid (rfind_any v l s w h)
  rw [fI_of_none hf] at HF
  clear h hf
  go_enter Tryd.func15, Tryd.ntmps15
  go_wp2_with fail
  refine HF.out.mono ?_
  rintro e w1 ⟨rfl, hw⟩
  subst hw
  go_wp2_with fail
  go_ret2
  exact ⟨rfl, Below.refl _ _⟩
set_option maxHeartbeats 2000000 in
set_option maxRecDepth 100000 in
theorem rOrigin_yes (v : Value) (l : List Lnk) (s : ByteArray) (w : World) (h : SK w v l) (hP : RegP l) (hl : l.length ≤ 4096) (x : Lnk) (hf : fnd l s.data.toList = some x) :
    Calls Tryd.prog 15 #[v, .string s] w fun e w' => ∃ v, e = .returned (.tuple #[v, .int .i64 0]) ∧ OwnK w' w.heap.size v (orgF l x) ∧ Below w.heap.size w w' := by
  have H := Lib.hid h
  have HP := Lib.hid hP
  obtain ⟨i0, hi0, hk0⟩ := fI_of_some hf
  have HF := Lib.hid (rfind_any v l s w h)
  rw [hi0] at HF
  obtain ⟨a, cap, e1, n1, n2, n3⟩ := h
  subst e1
  have N3 := Lib.hid n3
  unfold maxLen at n2
  have HK0 := Lib.hid hk0
  have hi0l := (List.getElem?_eq_some_iff.1 hk0).1
  clear hP hf n3 hi0 hk0
  go_enter Tryd.func15, Tryd.ntmps15
  have b0 : decide ((i0 : Int) < 0) = false := by rw [decide_eq_false_iff_not]; omega
  go_wp2_with fail
  refine HF.out.mono ?_
  rintro e w1 ⟨rfl, hw⟩
  subst hw
  go_wp2_with fail
  go_loopg [6, 7] i0 (fun g ii t wr => ∃ (pre : List Lnk) (y : Lnk) (k : Nat), k = g ∧ ii = .int .i64 k ∧ Hid (l[k]? = some y) ∧ Hid (OwnK wr w.heap.size t pre) ∧ Hid (pre ++ orgF l y = orgF l x) ∧ k < l.length ∧ pre.length + k ≤ 4096 ∧ Hid (Below w.heap.size w wr))
  case atStart => exact ⟨[], x, i0, rfl, rfl, HK0.out, OwnK_nil _ _, rfl, hi0l, by simp; omega, Below.refl _ _⟩
  case round =>
    obtain ⟨pre, y, k, rfl, rfl, hk, how, hpre, hkl, hpl, hbw⟩ := hrel
    have b1 : decide ((0 : Int) ≤ k) = true := by rw [decide_eq_true_eq]; omega
    obtain ⟨b, off, ha, hc0⟩ := N3.out k hkl
    rw [(ki_some hk.out).2] at hc0
    have hc := hc0.keep hbw.out
    subst ha
    have c0 := hc.c0
    have c1 := hc.c1
    have c2 := hc.c2
    have c3 := hc.c3
    have c4 := hc.c4
    have HC := Lib.hid hc
    have hws := hbw.out.size
    have hlit := Lib.hid (lit_link wr y)
    have hb : b < wr.heap.size := World.block_lt_of_cell? wr _ c0
    have hbw0 : b < w.heap.size := World.block_lt_of_cell? w _ hc0.c0
    have hlt' : ∀ g, u7.ownBlock = some g → w.heap.size ≤ g := fun g hg => (how.out.lt g hg).1
    clear hc hc0
    go_wp2_with (at_builtin; refine wpList_app_link rfl (.tmp 15) (.tmp 20) rfl w.heap.size u7 pre rfl (how.out.alloc _) wr.heap.size 1 y rfl hlit.out (by omega) (by simp; omega) ?_)
    intro va wa hoa hga hat
    have HBA : Hid (Below w.heap.size w wa) := (hbw.out.alloc hws _).grown hga (by simp; omega) hlt'
    have d1 : wa.cell? ⟨b, off + k * 5 + 1, none⟩ = some (.string (bs y.frm)) := hga.cell (cell_alloc' c1 _) (fun e => by have := hlt' b e.symm; omega)
    have hba : b < wa.heap.size := by have := hga.size; simp at this; omega
    obtain ⟨gv, cv, e2⟩ := hoa.form
    subst e2
    have HA := Lib.hid hoa
    clear hoa hga hat c0 c1 c2 c3 c4 hlt'
    by_cases hfr : y.frm = []
    · have he : bs y.frm = ⟨#[]⟩ := by rw [hfr]; rfl
      rw [he] at d1
      have HE : Hid (pre ++ [y] = orgF l x) := by show _ = _; rw [← hpre.out, orgF_end hfr]
      have HOE : Hid (OwnK wa w.heap.size (.slice (some ⟨gv, 0, none⟩) (pre.length + 1) cv) (orgF l x)) := by rw [← HE.out]; exact HA.out
      clear hfr he
      go_wp2_with fail
      go_ret2
      exact ⟨_, rfl, HOE.out, HBA.out⟩
    · obtain ⟨i, z, hik, hiz, hfz, hst⟩ := orgF_step HP.out hk.out hfr
      have hne0 : (bs y.frm).size ≠ 0 := by rw [bs_size]; intro e; exact hfr (List.eq_nil_of_length_eq_zero e)
      obtain ⟨k1, k2, _⟩ := nonempty_facts hne0
      have HPRE : Hid ((pre ++ [y]) ++ orgF l z = orgF l x) := by show _ = _; rw [← hpre.out, hst]; simp
      obtain ⟨i2, hi2, hz2⟩ := fI_of_some hfz
      have hii : i2 = i := by
        have e1 := (ki_some hz2); have e2 := (ki_some hiz)
        exact HP.out.uniq i2 i z z hz2 hiz rfl
      subst hii
      have HFD := Lib.hid (fun W (hW : Below w.heap.size w W) => rfind_any _ l (bs y.frm) W (H.out.keep hW))
      rw [bs_list, hi2] at HFD
      have HIZ := Lib.hid hiz
      have hil := (List.getElem?_eq_some_iff.1 hiz).1
      clear hfr hne0 hiz hfz hst hi2 hz2
      go_wp2_with fail
      refine (HFD.out _ HBA.out).mono ?_
      rintro e w4 ⟨rfl, hw⟩
      subst hw
      clear HFD k1 k2 d1
      go_wp2_with fail
      go_roundg i2
      case measure => exact hik
      case rel => exact ⟨pre ++ [y], z, i2, rfl, rfl, HIZ.out, HA.out, HPRE.out, hil, by rw [List.length_append, List.length_singleton]; omega, HBA.out⟩
end Go.Proofs.YtjbegegjpepkjaaDoor
