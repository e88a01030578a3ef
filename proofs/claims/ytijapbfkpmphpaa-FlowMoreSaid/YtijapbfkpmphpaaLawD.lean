/- The law FlowLower. -/
import Derived.Test.YtijapbfkpmphpaaLawC
namespace Go.Proofs.Ytijapbfkpmphpaa
open Go.RowKit

/-- the tail of a law that asks for a light shop and a permutation -/
theorem perm_whole {p : List (List Int)} {l : List Int} (h : permB l p.length = true) : Whole p l := by
  simp only [permB, Bool.and_eq_true, decide_eq_true_eq] at h
  exact ⟨h.2, h.1.1⟩
theorem boundE_fine {p : List (List Int)} {pre : List Int} {s : Nat} (hc : checkE p = 0) (h1 : rightB p.length pre = true) (h2 : 0 < p.length) (h3 : s < (ri p 0).length) : boundE p pre s = 0 := by
  simp only [boundE, hc]
  rw [if_neg (by simp), if_neg]
  rintro (h | h | h | h)
  · rw [h1] at h; cases h
  · omega
  · omega
  · omega
theorem boundR_fine {p : List (List Int)} {pre : List Int} {s : Nat} (hc : checkE p = 0) (h1 : rightB p.length pre = true) (h2 : 0 < p.length) (h3 : s < (ri p 0).length) : boundR p pre s = boundV p pre s := by
  simp [boundR, boundE_fine hc h1 h2 h3]
theorem boundE_err {p : List (List Int)} {pre : List Int} {s : Int} (hc : checkE p ≠ 0) : boundE p pre s = checkE p ∧ boundR p pre s = 0 := by simp [boundR, boundE, hc]
theorem finishE_err {p : List (List Int)} {l : List Int} (hc : checkE p ≠ 0) : finishE p l = checkE p ∧ spanV p l = 0 := by simp [spanV, finishE, hc]

/-- what FlowLower asks of each station -/
theorem lower_fact {p : List (List Int)} {l : List Int} (hw : Whole p l) (hp : 0 < p.length) {k s : Nat} (hk : k ≤ l.length) (hs : s < (ri p 0).length) :
    boundE p (l.take k) s = finishE p l ∧ boundR p (l.take k) s ≤ spanV p l := by
  by_cases hc : checkE p = 0
  · have hg := checkE_zero hc
    have hr := rightB_take hw.1 k
    rw [boundE_fine hc hr hp hs, boundR_fine hc hr hp hs, finishE_whole hc hw, spanV_whole hc hw]
    exact ⟨rfl, bound_le hg hw.1 hw.2 hp hs hk⟩
  · rw [(boundE_err hc).1, (boundE_err hc).2, (finishE_err hc).1, (finishE_err hc).2]
    exact ⟨rfl, Int.le_refl _⟩

set_option maxHeartbeats 1000000 in
theorem lower_law (v u : Value) (p : List (List Int)) (l : List Int) (c : Int) (w : World) (h : SS w v p) (g : SI w u l) (hc : 0 ≤ c ∧ c < 256) : Calls Try.prog 7 #[v, u, .int .u8 c] w (Law w) := by
  have H := Lib.hid h
  have G := Lib.hid g
  obtain ⟨vs, ⟨a, cap, rfl, h1, h2, h3⟩, h4⟩ := h
  have H3 := Lib.hid h3
  have H4 := Lib.hid h4
  clear h3 h4
  obtain ⟨a', cap', rfl, g1, g2, g3⟩ := g
  clear g3
  obtain ⟨c, rfl⟩ : ∃ k : Nat, c = (k : Int) := ⟨c.toNat, by omega⟩
  go_enter Try.func7, Try.ntmps7
  go_wp2_with fail
  refine (light_any _ p 32 _ H.out).mono ?_
  rintro e w1 ⟨rfl, m1, rfl⟩
  cases hl : lightB p 32
  · go_wp2_with fail
    refine (awake_any _).mono ?_
    rintro e w2 ⟨rfl, hb⟩
    go_wp2_with fail
    go_ret
    exact law_of rfl (below_drewN' (Below.refl _ _) _) hb
  have h32 := light_len hl
  clear hl
  go_wp2_with fail
  refine (permutation_any _ l p.length _ (G.out.drewN _)).mono ?_
  rintro e w2 ⟨rfl, hb⟩
  have HB2 := Lib.hid (ext_trans (below_drewN' (Below.refl w.heap.size w) m1) hb)
  clear hb
  cases hp : permB l p.length
  · go_wp2_with fail
    refine (awake_any _).mono ?_
    rintro e w2 ⟨rfl, hb⟩
    go_wp2_with fail
    go_ret
    exact law_of rfl HB2.out hb
  have HW := Lib.hid (perm_whole hp)
  clear hp
  by_cases h0 : p.length = 0
  · have hb0 : ((p.length : Int) == 0) = true := by rw [beq_iff_eq]; omega
    clear h0
    go_wp2_with fail
    refine (awake_any _).mono ?_
    rintro e w2 ⟨rfl, hb⟩
    go_wp2_with fail
    go_ret
    exact law_of rfl HB2.out hb
  have hb0 : ((p.length : Int) == 0) = false := by rw [beq_eq_false_iff_ne]; omega
  have hp0 : 0 < p.length := by omega
  have HLL := Lib.hid HW.out.2
  have hll : p.length ≤ l.length := by have := HW.out.2; omega
  have hcl : p.length ≤ cap' := by omega
  clear h0
  obtain ⟨b0, o0, ha, k0⟩ := H3.out 0 hp0
  obtain ⟨ak, ck, ek, _, _, _⟩ := H4.out 0 hp0
  rw [ek, Nat.add_zero] at k0
  subst ha
  go_wp2_with fail
  refine (Makespan_any _ _ p l _ (H.out.keep HB2.out) (G.out.keep HB2.out)).mono ?_
  rintro e w3 ⟨rfl, hb⟩
  have HB3 := Lib.hid (ext_trans HB2.out hb)
  clear hb
  obtain ⟨k, hk, hkp⟩ : ∃ k : Nat, (c : Int) % ((p.length : Int) + 1) = (k : Int) ∧ k ≤ p.length := ⟨c % (p.length + 1), by rw [Int.natCast_emod]; rfl, by have := Nat.mod_lt c (show 0 < p.length + 1 by omega); omega⟩
  have hkc : (k : Int) ≤ cap' := by omega
  have hk0 : (0 : Int) ≤ k := by omega
  go_wp2_with fail
  clear hk
  have K0 := Lib.hid k0
  have hp8 : (ri p 0).length ≤ ck := by obtain ⟨_, _, e, hh, _⟩ := H4.out 0 hp0; rw [ek] at e; simp at e; obtain ⟨_, rfl⟩ := e; exact hh
  have hm9 : (ri p 0).length ≤ 9223372036854775807 := by obtain ⟨_, _, e, hh, hm, _⟩ := H4.out 0 hp0; unfold maxLen at hm; omega
  have GT : Hid (∀ wz, Below w.heap.size w wz → SI wz (.slice a' k cap') (l.take k)) := fun wz hz => (G.out.keep hz).take k (by omega)
  clear k0 ek
  go_loopw [10] (fun i wr => ∃ s : Nat, s ≤ (ri p 0).length ∧ i = .int .i64 s ∧ Hid (Below w.heap.size w wr)) (fun i _ => (ri p 0).length - (intOf i).toNat)
  case atStart => exact ⟨0, Nat.zero_le _, rfl, HB3.out⟩
  case round =>
    obtain ⟨s, hs, rfl, hbw⟩ := hrel
    have cc := cell_keep hbw.out K0.out
    by_cases hlt : s < (ri p 0).length
    · have hf := lower_fact HW.out hp0 (k := k) (s := s) (by omega) hlt
      have e1 : (boundE p (l.take k) s != finishE p l) = false := by rw [hf.1]; simp
      have e2 : decide (spanV p l < boundR p (l.take k) s) = false := by rw [decide_eq_false_iff_not]; omega
      clear hf
      go_wp2_with fail
      refine (Bound_any _ _ p (l.take k) s _ (H.out.keep hbw.out) (GT.out _ hbw.out)).mono ?_
      rintro e w4 ⟨rfl, hb⟩
      have HB4 := Lib.hid (ext_trans hbw.out hb)
      clear hb
      go_wp2_with fail
      go_roundw
      case rel => exact ⟨s + 1, by omega, by go_num, HB4⟩
      case measure => simp [intOf]; omega
    · go_wp2_with fail
      refine (awake_any _).mono ?_
      rintro e w7 ⟨rfl, hb⟩
      go_wp2_with fail
      go_ret
      exact law_of rfl hbw.out hb
theorem u8_range {c : Int} (h : (Lit.int .u8 c).wf = true) : 0 ≤ c ∧ c < 256 := by
  simp [Lit.wf, IntKind.min, IntKind.max, IntKind.signed, IntKind.bits] at h; omega
theorem lower_law' (v u : Value) (p : List (List Int)) (l : List Int) (c : Int) (w : World) (h : SS w v p) (g : SI w u l) (hc : (Lit.int .u8 c).wf = true) : Calls Try.prog 7 #[v, u, .int .u8 c] w (Law w) :=
  lower_law v u p l c w h g (u8_range hc)
end Go.Proofs.Ytijapbfkpmphpaa
