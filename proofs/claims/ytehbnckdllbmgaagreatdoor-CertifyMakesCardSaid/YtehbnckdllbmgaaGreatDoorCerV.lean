/- Contract: Make of certify's reference. -/
import Derived.Test.YtehbnckdllbmgaaGreatDoorCerU
import Derived.Test.YtehbnckdllbmgaaGreatDoorCerK
set_option linter.unusedSimpArgs false
set_option linter.unusedVariables false
namespace Go.Proofs.YtehbnckdllbmgaaGreatDoor
open Go.RowKit Go.Shelf

theorem extend_any {w0 : World} {p : List (List Int)} {pv : Value} {B : Nat} (hp : SS w0 pv p) (hE : checkE p = 0) (hB : w0.heap.size ≤ B) (span : Int) : ∀ f, ExtC w0 p pv span B f
  | 0 => extend_step hp hE hB span 0 fun f' h => by cases h
  | f + 1 => extend_step hp hE hB span (f + 1) fun f' h => by cases h; exact extend_any hp hE hB span f

set_option maxRecDepth 100000 in
set_option maxHeartbeats 2000000 in
theorem Make38_any (v : Value) (p : List (List Int)) (s : Int) (w : World) (h : SS w v p) (hs : -9223372036854775808 ≤ s ∧ s ≤ 9223372036854775807) :
    Calls Tryz.prog 22 #[v, .int .i64 s] w (RetM w (makeL p s) (makeC p s) (makeE p s)) := by
  have H := Lib.hid h
  obtain ⟨pa, pc, rfl, p1, p2⟩ : ∃ a c, v = .slice a p.length c ∧ p.length ≤ c ∧ c ≤ maxLen := by obtain ⟨vs, ⟨a, c, h1, h2, h3, _⟩, _⟩ := h; exact ⟨a, c, h1, h2, h3⟩
  clear h
  go_enter Tryz.func22, Tryz.ntmps22
  go_wp2_with fail
  refine (rBest_any _ p s w H.out).mono ?_
  rintro e w1 ⟨vo, rfl, hvo, hb1⟩
  obtain ⟨oa, oc, rfl, _, _⟩ := hvo.sl
  have HVO := Lib.hid hvo; have HB1 := Lib.hid hb1
  clear hvo hb1
  by_cases c0 : bestE p s = 0
  rotate_left
  · have hb : (bestE p s != 0) = true := by rw [bne_iff_ne]; exact c0
    have hE : makeE p s = bestE p s := by unfold makeE; rw [if_pos c0]
    have HE := Lib.hid hE
    have HL := Lib.hid (show makeL p s = [] by unfold makeL; rw [if_pos (by rw [hE]; exact c0)])
    have HC := Lib.hid (show makeC p s = [] by unfold makeC; rw [if_pos (by rw [hE]; exact c0)])
    clear c0 hE
    go_wp2_with fail
    refine bodyPost_ret (v := .tuple #[.slice none 0 0, .slice none 0 0, .int .i64 (bestE p s)]) (by simp [results, Tryz.results22, go_sem]) rfl ?_
    exact ⟨_, _, by rw [HE.out], by rw [HL.out]; exact SI_nil _, by rw [HC.out]; exact SC_nil _, HB1.out⟩
  have hb : (bestE p s != 0) = false := by rw [bne_eq_false_iff_eq]; exact c0
  have HC0 := Lib.hid c0; clear c0
  have HP1 := Lib.hid (H.out.keep HB1.out)
  have HST := Lib.hid (show (min s 100000).toNat = stepsV s by unfold stepsV; omega)
  have HM1 := Lib.hid (show -9223372036854775808 ≤ min s 100000 ∧ min s 100000 ≤ 100000 by omega)
  go_wp2_with fail
  refine (extend_any HP1.out (bestE_zero HC0.out) (Nat.le_refl _) (bestN p s) p.length (.slice none 0 0) [] (min s 100000) false [] (.slice none 0 0) w1 (by simp) (by simp [rightB]) (by simp) (by simp) HM1.out.1 HM1.out.2 (Below.refl _ _) (Nat.le_refl _) (OwnC_nil _ _) (OwnI_nil _ _)).mono ?_
  rintro e w3 ⟨hfr, vl, l', n', ov, rfl, _, ho, _, _, _, _, hres⟩
  have hb3 : Below w1.heap.size w1 w3 := hfr.below (fun k hk => by cases hk) (Nat.le_refl _)
  have HB3 := Lib.hid (ext_trans HB1.out hb3)
  have HB13 := Lib.hid hb3
  rw [HST.out] at hres
  obtain ⟨r, hr⟩ : ∃ r, makeS p s = r := ⟨_, rfl⟩
  rw [show extS p (bestN p s) p.length false ⟨stepsV s, []⟩ [] = r from hr] at hres
  have HR := Lib.hid hr; have HRES := Lib.hid hres; have HO := Lib.hid ho
  obtain ⟨ca, cc, hcv, _⟩ := HO.out.sc
  have HSC := Lib.hid HO.out.sc
  rw [hcv] at HSC ⊢
  clear hr hres ho hfr hb3 hcv
  obtain ⟨W4, hW4⟩ : ∃ W4, W4 = w3.alloc (.cells #[.slice ca l'.length cc, .int .i64 n', .bool ov] 75) := ⟨_, rfl⟩
  have x4 : ObjAt W4 w3.heap.size #[.slice ca l'.length cc, .int .i64 n', .bool ov] 75 := by rw [hW4]; exact ObjAt.new _ _ _
  have hb4 : Below w3.heap.size w3 W4 := by rw [hW4]; exact (Below.refl _ _).alloc (Nat.le_refl _) _
  have k0 := x4.cell 0; have k1 := x4.cell 1; have k2 := x4.cell 2
  simp at k0 k1 k2
  have HB4 := Lib.hid (ext_trans HB3.out hb4)
  have HS4 := Lib.hid (HSC.out.keep hb4)
  have HV4 := Lib.hid (HVO.out.keep (ext_trans HB13.out hb4))
  clear x4 hb4
  cases r with
  | none =>
    have hov : ov = true := HRES.out
    subst hov
    have hE : makeE p s = 29 := by unfold makeE; rw [if_neg (by simp [HC0.out]), HR.out]; rfl
    have HE := Lib.hid hE
    have HL := Lib.hid (show makeL p s = [] by unfold makeL; rw [if_pos (by rw [hE]; decide)])
    have HC := Lib.hid (show makeC p s = [] by unfold makeC; rw [if_pos (by rw [hE]; decide)])
    clear hE
    go_wp2_with fail
    refine bodyPost_ret (v := .tuple #[.slice none 0 0, .slice none 0 0, .int .i64 29]) (by simp [results, Tryz.results22, go_sem]) rfl ?_
    first
      | exact ⟨_, _, by rw [HE.out], by rw [HL.out]; exact SI_nil _, by rw [HC.out]; exact SC_nil _, HB4.out⟩
      | (rw [← hW4]; exact ⟨_, _, by rw [HE.out], by rw [HL.out]; exact SI_nil _, by rw [HC.out]; exact SC_nil _, HB4.out⟩)
  | some st =>
    obtain ⟨rfl, hls, _⟩ : ov = false ∧ l' = st.cuts ∧ n'.toNat = st.left := HRES.out
    have hE : makeE p s = 0 := by unfold makeE; rw [if_neg (by simp [HC0.out]), HR.out]; rfl
    have HE := Lib.hid hE
    have HL := Lib.hid (show makeL p s = bestL p s by unfold makeL; rw [if_neg (by simp [hE])])
    have HC := Lib.hid (show makeC p s = l' by unfold makeC; rw [if_neg (by simp [hE]), HR.out, hls]; rfl)
    clear hE hls
    go_wp2_with fail
    rw [← hW4]
    clear hW4
    go_quiet (fail)
    go_wp2_with fail
    refine bodyPost_ret (v := .tuple #[.slice oa (bestL p s).length oc, .slice ca l'.length cc, .int .i64 0]) (by simp [results, Tryz.results22, go_sem]) rfl ?_
    exact ⟨_, _, by rw [HE.out], by rw [HL.out]; exact HV4.out.drewN _, by rw [HC.out]; exact HS4.out.drewN _, below_drewN' HB4.out _⟩
end Go.Proofs.YtehbnckdllbmgaaGreatDoor
