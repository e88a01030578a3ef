/- The law CertifyMakes. -/
import Derived.Test.YtehbnckdllbmgaaGreatDoorCerV
import Derived.Test.YtehbnckdllbmgaaGreatDoorCerLP
import Derived.Test.YtehbnckdllbmgaaGreatDoorCerW
set_option linter.unusedSimpArgs false
set_option linter.unusedVariables false
namespace Go.Proofs.YtehbnckdllbmgaaGreatDoor
open Go.RowKit

set_option maxHeartbeats 2000000 in
set_option maxRecDepth 100000 in
theorem LMakes_any (v : Value) (p : List (List Int)) (s : Int) (w : World) (h : SS w v p) (hs : -9223372036854775808 ≤ s ∧ s ≤ 9223372036854775807) (hV : VarsC w) :
    Calls Tryz.prog 5 #[v, .int .i64 s] w (Ret w (.bool true)) := by
  have HV := Lib.hid hV; have H := Lib.hid h; have HS := Lib.hid hs
  have HA : Hid (∀ W, Below w.heap.size w W → Calls Tryz.prog 14 #[] W (Ret W (.bool true))) := Lib.hid fun W hW => awake_any W (HV.out.keep hW)
  obtain ⟨pa, pc, rfl, p1, p2⟩ : ∃ a c, v = .slice a p.length c ∧ p.length ≤ c ∧ c ≤ maxLen := by obtain ⟨vs, ⟨a, c, h1, h2, h3, _⟩, _⟩ := h; exact ⟨a, c, h1, h2, h3⟩
  clear hV h
  have hpm : p.length ≤ 9223372036854775807 := by unfold maxLen at p2; omega
  go_enter Tryz.func5, Tryz.ntmps5
  go_wp2_with fail
  refine (Small_any _ p w H.out).mono ?_
  rintro e w1 ⟨rfl, m1, rfl⟩
  have HX1 := Lib.hid (below_drewN' (Below.refl w.heap.size w) m1)
  obtain ⟨c1, hc1⟩ : ∃ c1, decide ((6 : Int) < p.length) = c1 := ⟨_, rfl⟩
  obtain ⟨c2, hc2⟩ : ∃ c2, decide ((60 : Int) < s) = c2 := ⟨_, rfl⟩
  cases hs' : smallB p
  · clear hs'
    cases c1 <;> cases c2
    all_goals
      go_wp2_with fail
      refine (HA.out _ HX1.out).mono ?_
      rintro e w2 ⟨rfl, hb⟩
      have HX2 := Lib.hid (ext_trans HX1.out hb)
      clear hb
      go_wp2_with fail
      go_ret
      exact ⟨rfl, HX2.out⟩
  clear hs'
  have key : (c1 && c2) = true ∨ (c1 && c2) = false := by cases c1 <;> cases c2 <;> simp
  rcases key with hcc | hcc
  · obtain ⟨rfl, rfl⟩ : c1 = true ∧ c2 = true := by simpa using hcc
    clear hcc
    go_wp2_with fail
    refine (HA.out _ HX1.out).mono ?_
    rintro e w2 ⟨rfl, hb⟩
    have HX2 := Lib.hid (ext_trans HX1.out hb)
    clear hb
    go_wp2_with fail
    go_ret
    exact ⟨rfl, HX2.out⟩
  · cases c1 <;> cases c2
    case true.true => cases hcc
    all_goals
      clear hcc
      go_wp2_with fail
      refine (Make_any _ p s _ (H.out.keep HX1.out) HS.out).mono ?_
      rintro e w3 ⟨vo, vl, rfl, hso, hsl, hb⟩
      have HX3 := Lib.hid (ext_trans HX1.out hb)
      have HSO := Lib.hid hso; have HSL := Lib.hid hsl
      obtain ⟨oa, oc, rfl, _, _⟩ := hso.sl
      obtain ⟨la, lc, rfl, _, _, _⟩ := hsl
      clear hb hso
      go_wp2_with fail
      refine (Make38_any _ p s w3 (H.out.keep HX3.out) HS.out).mono ?_
      rintro e w4 ⟨vo', vl', rfl, hso, hsl, hb⟩
      have HX4 := Lib.hid (ext_trans HX3.out hb)
      have HSO4 := Lib.hid (HSO.out.keep hb); have HSL4 := Lib.hid (HSL.out.keep hb)
      have HSO' := Lib.hid hso; have HSL' := Lib.hid hsl
      obtain ⟨oa', oc', rfl, _, _⟩ := hso.sl
      obtain ⟨la', lc', rfl, _, _, _⟩ := hsl
      clear hb hso
      go_wp2_with fail
      refine (same38_any _ _ (makeL p s) (makeL p s) w4 HSO4.out HSO'.out).mono ?_
      rintro e w5 ⟨rfl, m5, rfl⟩
      rw [decide_eq_true rfl]
      have HX5 := Lib.hid (below_drewN' HX4.out m5)
      go_wp2_with fail
      refine (Same_any _ _ (makeC p s) (makeC p s) _ (HSL4.out.drewN m5) (HSL'.out.drewN m5)).mono ?_
      rintro e w6 ⟨rfl, m6, rfl⟩
      rw [decide_eq_true rfl]
      have HX6 := Lib.hid (below_drewN' HX4.out (m5 + m6))
      have hq : (makeE p s == makeE p s) = true := by simp
      go_wp2_with fail
      refine (HA.out _ HX6.out).mono ?_
      rintro e w7 ⟨rfl, hb⟩
      have HX7 := Lib.hid (ext_trans HX6.out hb)
      clear hb
      go_wp2_with fail
      go_ret
      exact ⟨rfl, HX7.out⟩
end Go.Proofs.YtehbnckdllbmgaaGreatDoor
