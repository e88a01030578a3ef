/- The law TraceHashes. -/
import Derived.Test.YtjbegegjpepkjaaDoorQTraNobody
namespace Go.Proofs.YtjbegegjpepkjaaDoor
open Go.RowKit Go.Maps

theorem SK.init {w : World} {a : Option Addr} {n cap : Nat} {l : List Lnk} (h : SK w (.slice a (n + 1) cap) l) : SK w (.slice a n cap) (l.take n) := by
  obtain ⟨a', cap', e, h1, h2, h3⟩ := h
  simp at e
  obtain ⟨rfl, e, rfl⟩ := e
  have hl : (l.take n).length = n := by simp; omega
  refine ⟨_, _, by rw [hl], by omega, h2, fun i hi => ?_⟩
  rw [hl] at hi
  obtain ⟨b, off, ha, hc⟩ := h3 i (by omega)
  refine ⟨b, off, ha, ?_⟩
  rw [ki_lt (by rw [hl]; exact hi), List.getElem_take, ← ki_lt (by omega)]
  exact hc
theorem OwnK.frozen {w : World} {B g n cap : Nat} {l : List Lnk} (h : OwnK w B (.slice (some ⟨g, 0, none⟩) n cap) l) (j : Nat) : w.frozen? ⟨g, j, none⟩ = false := by
  rcases h.2 with ⟨e, _⟩ | ⟨g', cap', cur, e, _, hg, _⟩
  · simp at e
  · simp at e
    obtain ⟨rfl, _, rfl⟩ := e
    exact frozen_of_row w _ j _ _ hg
theorem LkAt.far {w : World} {b off k : Nat} {x : Lnk} {v : Value} (h : LkAt w b off x) (hk : k < off ∨ off + 4 < k) : LkAt (w.setCell ⟨b, k, none⟩ v) b off x := by
  obtain ⟨h0, h1, h2, h3, h4⟩ := h
  refine ⟨?_, ?_, ?_, ?_, ?_⟩
  · rw [World.cell?_setCell_other _ _ _ _ (by simp <;> omega)]; exact h0
  · rw [World.cell?_setCell_other _ _ _ _ (by simp <;> omega)]; exact h1
  · rw [World.cell?_setCell_other _ _ _ _ (by simp <;> omega)]; exact h2
  · rw [World.cell?_setCell_other _ _ _ _ (by simp <;> omega)]; exact h3
  · rw [World.cell?_setCell_other _ _ _ _ (by simp <;> omega)]; exact h4
theorem LkAt.hash {w : World} {b off : Nat} {x : Lnk} (c : Nat) (h : LkAt w b off x) : LkAt (w.setCell ⟨b, off + 4, none⟩ (.int .u64 c)) b off { x with hash := c } := by
  obtain ⟨h0, h1, h2, h3, h4⟩ := h
  refine ⟨?_, ?_, ?_, ?_, ?_⟩
  · rw [World.cell?_setCell_other _ _ _ _ (by simp)]; exact h0
  · rw [World.cell?_setCell_other _ _ _ _ (by simp)]; exact h1
  · rw [World.cell?_setCell_other _ _ _ _ (by simp)]; exact h2
  · rw [World.cell?_setCell_other _ _ _ _ (by simp)]; exact h3
  · exact World.cell?_setCell_same _ _ _ h4
theorem SK.setHash {w : World} {g off n cap k c : Nat} {l : List Lnk} (h : SK w (.slice (some ⟨g, off, none⟩) n cap) l) (hk : k < l.length) : SK (w.setCell ⟨g, off + k * 5 + 4, none⟩ (.int .u64 c)) (.slice (some ⟨g, off, none⟩) n cap) (l.set k { ki l k with hash := c }) := by
  obtain ⟨a', cap', e, h1, h2, h3⟩ := h
  simp at e
  obtain ⟨rfl, rfl, rfl⟩ := e
  refine ⟨_, _, by rw [List.length_set], by rw [List.length_set]; exact h1, h2, fun i hi => ?_⟩
  rw [List.length_set] at hi
  obtain ⟨b, off', ha, hc⟩ := h3 i hi
  simp at ha
  obtain ⟨rfl, rfl⟩ := ha
  refine ⟨_, _, rfl, ?_⟩
  rw [ki_lt (by rw [List.length_set]; exact hi), List.getElem_set]
  by_cases e : k = i
  · subst e; rw [if_pos rfl]; exact hc.hash c
  · rw [if_neg e, ← ki_lt hi]; exact hc.far (by omega)

set_option maxHeartbeats 4000000 in
set_option maxRecDepth 100000 in
theorem Hashes_any (v : Value) (l : List Lnk) (at_ : Int) (c : Nat) (w : World) (hV : Vars w) (h : ArgK w v l) (hc : c < 18446744073709551616) : Calls Tryd.prog 7 #[v, .int .i64 at_, .int .u64 c] w (Ret w (.bool true)) := by
  have HV := Lib.hid hV
  have H := Lib.hid h
  have HCL := Lib.hid hc
  obtain ⟨a, cap, rfl, n1, n2, n3⟩ := h.1
  have N3 := Lib.hid n3
  unfold maxLen at n2
  clear hV h hc n3
  go_enter Tryd.func7, Tryd.ntmps7
  go_wp2_with fail
  refine H.out.great.mono ?_
  rintro e w1 ⟨rfl, rfl⟩
  cases hg : greatB l
  rotate_left
  · clear hg
    go_wp2_with fail
    refine (alive30_any _ HV.out).mono ?_
    rintro e w1 ⟨rfl, hb1⟩
    have HB1 := Lib.hid hb1
    clear hb1
    go_wp2_with fail
    go_ret
    exact ⟨rfl, HB1.out⟩
  obtain ⟨h40, hsz⟩ := H.out.sized hg
  have HSZ := Lib.hid hsz
  have HC1 := Lib.hid (Check_any _ l _ H.out.1 HV.out (by omega) HSZ.out)
  obtain ⟨r, hr⟩ : ∃ r, checkL l = r := ⟨_, rfl⟩
  rw [hr] at HC1
  have HR := Lib.hid hr
  clear hg hsz hr
  go_wp2_with fail
  refine HC1.out.mono ?_
  rintro e w1 ⟨rfl, hb1⟩
  have HB1 := Lib.hid hb1
  clear hb1
  by_cases h0 : r ≠ 0
  · have b1 : (r != 0) = true := by rw [bne_iff_ne]; exact h0
    have b2 : (r == 0) = false := by rw [beq_eq_false_iff_ne]; exact h0
    clear h0
    go_wp2_with fail
    refine (alive30_any _ (HV.out.keep HB1.out)).mono ?_
    rintro e w2 ⟨rfl, hb1⟩
    have HB2 := Lib.hid (ext_trans HB1.out hb1)
    clear hb1
    go_wp2_with fail
    go_ret
    exact ⟨rfl, HB2.out⟩
  obtain rfl : r = 0 := Classical.not_not.1 h0
  have HREG := Lib.hid (reg_of_check HR.out)
  clear h0
  -- whatever is asked of the list without its last link, it is right
  have key : ∀ w2 : World, Below w.heap.size w w2 → Calls Tryd.prog 10 #[] w2 (Ret w2 (.bool true)) := fun w2 hb => alive30_any _ (HV.out.keep hb)
  have KEY := Lib.hid key
  clear key
  by_cases hl0 : l.length = 0
  · have hle : l.length ≤ 0 := by omega
    have b1 : decide ((0 : Int) < l.length) = false := by rw [decide_eq_false_iff_not]; omega
    have b2 : decide (0 < l.length) = false := by rw [decide_eq_false_iff_not]; omega
    clear hl0
    by_cases g0 : at_ < 0
    · have b3 : decide (at_ < 0) = true := by rw [decide_eq_true_eq]; exact g0
      go_wp2_with fail
      refine (KEY.out _ HB1.out).mono ?_
      rintro e w2 ⟨rfl, hb1⟩
      have HB2 := Lib.hid (ext_trans HB1.out hb1)
      clear hb1
      go_wp2_with fail
      go_ret
      exact ⟨rfl, HB2.out⟩
    · have b3 : decide (at_ < 0) = false := by rw [decide_eq_false_iff_not]; exact g0
      have b4 : decide ((l.length : Int) ≤ at_) = true := by rw [decide_eq_true_eq]; omega
      go_wp2_with fail
      refine (KEY.out _ HB1.out).mono ?_
      rintro e w2 ⟨rfl, hb1⟩
      have HB2 := Lib.hid (ext_trans HB1.out hb1)
      clear hb1
      go_wp2_with fail
      go_ret
      exact ⟨rfl, HB2.out⟩
  obtain ⟨n, hn⟩ : ∃ n, l.length = n + 1 := ⟨l.length - 1, by omega⟩
  have HN := Lib.hid hn
  have hnpos : 0 < n + 1 := by omega
  have HC2 : Hid (∀ W, Below w.heap.size w W → Calls Tryd.prog 19 #[.slice a n cap] W (Ret W (.int .i64 0))) := fun W hW => by
    have := Check_any (.slice a n cap) (l.take n) W (SK.init (by have := (H.out.1.keep hW); rw [hn] at this; exact this)) (HV.out.keep hW) (by rw [List.length_take]; omega) (fun x hx => HSZ.out x (List.mem_of_mem_take hx))
    rwa [(HREG.out.take n).check] at this
  have b1 : decide ((0 : Int) < l.length) = true := by rw [decide_eq_true_eq]; omega
  have b2 : decide (0 < l.length) = true := by rw [decide_eq_true_eq]; omega
  rw [hn] at n1
  have i1 : ((n + 1 : Nat) : Int) - 1 = n := by omega
  rw [hn]
  have b1' : decide ((0 : Int) < (n + 1 : Nat)) = true := by rw [decide_eq_true_eq]; omega
  have b2' : decide (0 < n + 1) = true := by rw [decide_eq_true_eq]; omega
  have hn40 : n ≤ 39 := by omega
  clear hl0 hn b1 b2 HC1
  go_wp2_with fail
  refine (HC2.out _ HB1.out).mono ?_
  rintro e w2 ⟨rfl, hb1⟩
  have HB2 := Lib.hid (ext_trans HB1.out hb1)
  clear hb1 HC2
  by_cases g0 : at_ < 0
  · have b3 : decide (at_ < 0) = true := by rw [decide_eq_true_eq]; exact g0
    go_wp2_with fail
    refine (KEY.out _ HB2.out).mono ?_
    rintro e w3 ⟨rfl, hb1⟩
    have HB3 := Lib.hid (ext_trans HB2.out hb1)
    clear hb1
    go_wp2_with fail
    go_ret
    exact ⟨rfl, HB3.out⟩
  have b3 : decide (at_ < 0) = false := by rw [decide_eq_false_iff_not]; exact g0
  by_cases g1 : ((n + 1 : Nat) : Int) ≤ at_
  · have b4 : decide (((n + 1 : Nat) : Int) ≤ at_) = true := by rw [decide_eq_true_eq]; exact g1
    have b5 : decide ((n : Int) + 1 ≤ at_) = true := by rw [decide_eq_true_eq]; omega
    go_wp2_with fail
    refine (KEY.out _ HB2.out).mono ?_
    rintro e w3 ⟨rfl, hb1⟩
    have HB3 := Lib.hid (ext_trans HB2.out hb1)
    clear hb1
    go_wp2_with fail
    go_ret
    exact ⟨rfl, HB3.out⟩
  obtain ⟨k, rfl⟩ : ∃ k : Nat, at_ = k := ⟨at_.toNat, by omega⟩
  have hkn : k < n + 1 := by omega
  have hkl : k < l.length := by have := HN.out; omega
  have b4 : decide (((n + 1 : Nat) : Int) ≤ (k : Int)) = false := by rw [decide_eq_false_iff_not]; exact g1
  have b5 : decide ((n : Int) + 1 ≤ (k : Int)) = false := by rw [decide_eq_false_iff_not]; omega
  have b6 : decide (n + 1 ≤ k) = false := by rw [decide_eq_false_iff_not]; omega
  obtain ⟨b, off, ha, hc0⟩ := N3.out k hkl
  have hc2 := hc0.keep HB2.out
  subst ha
  have hki : l[k]? = some (ki l k) := by rw [ki_lt hkl]; exact List.getElem?_eq_getElem hkl
  have HSET := Lib.hid (fun (g : Nat) (cp : Nat) W (h : SK W (.slice (some ⟨g, 0, none⟩) (n + 1) cp) l) => SK.setHash (c := c) h hkl)
  have HW := Lib.hid (fun (h : c ≠ (ki l k).hash) => wrong_hash HREG.out hki h)
  have HSZ2 : Hid (Sized (l.set k { ki l k with hash := c })) := by
    intro y hy
    rcases List.mem_or_eq_of_mem_set hy with hy | rfl
    · exact HSZ.out y hy
    · have := HSZ.out _ (List.mem_of_getElem? hki); exact ⟨this.1, this.2.1, this.2.2.1, HCL.out⟩
  have hc4 := hc2.c4
  have HLK := Lib.hid hc0.c4
  generalize ki l k = x at *
  clear hki hc0 hc2 g0 g1
  by_cases he : c = x.hash
  · have b7 : ((x.hash : Int) == (c : Int)) = true := by rw [beq_iff_eq, he]
    have b8 : (x.hash == c) = true := by rw [beq_iff_eq, he]
    clear he
    go_wp2_with fail
    refine (KEY.out _ HB2.out).mono ?_
    rintro e w3 ⟨rfl, hb1⟩
    have HB3 := Lib.hid (ext_trans HB2.out hb1)
    clear hb1
    go_wp2_with fail
    go_ret
    exact ⟨rfl, HB3.out⟩
  have b7 : ((x.hash : Int) == (c : Int)) = false := by rw [beq_eq_false_iff_ne]; omega
  have b8 : (x.hash == c) = false := by rw [beq_eq_false_iff_ne]; omega
  have HCK := Lib.hid (HW.out he)
  clear he
  have hsk2 := H.out.1.keep HB2.out
  rw [HN.out] at hsk2
  have HSK2 := Lib.hid hsk2
  clear hsk2 HW
  go_wp2_with (at_builtin; refine wpList_app_links rfl (.tmp 46) (.tmp 47) rfl w2.heap.size _ [] l rfl (OwnK_empty _ _ (Nat.le_refl _)) ⟨b, off, none⟩ (n + 1) cap rfl (HSK2.out.keep ((Below.refl _ _).alloc (Nat.le_refl _) _)) (by simp; omega) (by simp) ?_)
  intro va wa ho hga _
  try rw [List.nil_append] at ho
  have HBA : Hid (Below w.heap.size w wa) := ext_trans HB2.out (((Below.refl _ _).alloc (Nat.le_refl _) _).grown hga (by simp) (by simp [Value.ownBlock]))
  obtain ⟨g, cp, e1⟩ : ∃ g cp, va = .slice (some ⟨g, 0, none⟩) (n + 1) cp := by
    rcases own_flat_form ho with ⟨_, e⟩ | ⟨g, cp, e, _⟩
    · rw [e] at hkl; simp at hkl
    · exact ⟨g, cp, by rw [e, HN.out]⟩
  subst e1
  have hska := ho.sk
  obtain ⟨a', cp', e1, m1, m2, m3⟩ := hska
  simp at e1
  obtain ⟨rfl, -, rfl⟩ := e1
  obtain ⟨b', off', ha', hd⟩ := m3 k hkl
  simp at ha'
  obtain ⟨rfl, rfl⟩ := ha'
  have d4 := hd.c4
  have f4 : wa.frozen? ⟨g, 0 + k * 5 + 4, none⟩ = false := ho.frozen (0 + k * 5 + 4)
  have hgw := (ho.lt g rfl).1
  have hgl := (ho.lt g rfl).2
  simp only [Nat.zero_add] at d4 f4
  have HSA := Lib.hid (HSET.out g cp wa ho.sk)
  simp only [Nat.zero_add] at HSA
  unfold maxLen at m2
  rw [HN.out] at m1
  have HBS : Hid (Below w.heap.size w (wa.setCell ⟨g, k * 5 + 4, none⟩ (.int .u64 c))) := HBA.out.setCell (by have := HB2.out.size; show w.heap.size ≤ g; omega) _
  clear ho hga hd m3 HSET
  go_wp2_with fail
  have hck := Check_any _ _ _ HSA.out (HV.out.keep HBS.out) (by rw [List.length_set]; omega) HSZ2.out
  rw [HCK.out] at hck
  refine hck.mono ?_
  rintro e w5 ⟨rfl, hb1⟩
  have HB5 := Lib.hid (ext_trans HBS.out hb1)
  clear hb1 hck
  go_wp2_with fail
  refine (KEY.out _ HB5.out).mono ?_
  rintro e w3 ⟨rfl, hb1⟩
  have HB3 := Lib.hid (ext_trans HB5.out hb1)
  clear hb1
  go_wp2_with fail
  go_ret
  exact ⟨rfl, HB3.out⟩
theorem Hashes_u64 (v : Value) (l : List Lnk) (at_ c : Int) (w : World) (hV : Vars w) (h : ArgK w v l) (hc : (Lit.int .u64 c).wf = true) : Calls Tryd.prog 7 #[v, .int .i64 at_, .int .u64 c] w (Ret w (.bool true)) := by
  simp [Lit.wf, IntKind.min, IntKind.max, IntKind.signed, IntKind.bits] at hc
  obtain ⟨n, rfl⟩ : ∃ n : Nat, c = n := ⟨c.toNat, by omega⟩
  exact Hashes_any v l at_ n w hV h (by omega)
end Go.Proofs.YtjbegegjpepkjaaDoor
