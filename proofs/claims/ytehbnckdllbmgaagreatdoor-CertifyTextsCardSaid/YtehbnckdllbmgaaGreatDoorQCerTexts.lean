/- The law CertifyTexts. -/
import Derived.Test.YtehbnckdllbmgaaGreatDoorCerZc
import Derived.Test.YtehbnckdllbmgaaGreatDoorCerLP
import Derived.Test.YtehbnckdllbmgaaGreatDoorCerW
set_option linter.unusedSimpArgs false
set_option linter.unusedVariables false
namespace Go.Proofs.YtehbnckdllbmgaaGreatDoor
open Go.RowKit

set_option maxHeartbeats 2000000 in
set_option maxRecDepth 100000 in
theorem LTexts_any (v : Value) (L : List Cut) (s : ByteArray) (w : World) (h : SC w v L) (h64 : ∀ c ∈ L, in64C c) (hV : VarsC w) :
    Calls Tryz.prog 6 #[v, .string s] w (Ret w (.bool true)) := by
  have HV := Lib.hid hV; have H := Lib.hid h; have H64 := Lib.hid h64
  have HA : Hid (∀ W, Below w.heap.size w W → Calls Tryz.prog 14 #[] W (Ret W (.bool true))) := Lib.hid fun W hW => awake_any W (HV.out.keep hW)
  obtain ⟨a, cap, rfl, h1, h2, h3⟩ := h
  clear h3 h64 hV
  have hm : L.length ≤ 9223372036854775807 := by unfold maxLen at h2; omega
  go_enter Tryz.func6, Tryz.ntmps6
  go_wp2_with fail
  refine (Few_any _ L w H.out).mono ?_
  rintro e w1 ⟨rfl, m1, rfl⟩
  have HB1 := Lib.hid (below_drewN' (Below.refl w.heap.size w) m1)
  by_cases hf : fewB L = true
  rotate_left
  · have hf' : fewB L = false := by simpa using hf
    rw [hf']
    go_wp2_with fail
    refine (HA.out _ HB1.out).mono ?_
    rintro e w2 ⟨rfl, hb⟩
    have HB2 := Lib.hid (ext_trans HB1.out hb)
    clear hb
    go_wp2_with fail
    go_ret
    exact ⟨rfl, HB2.out⟩
  rw [hf]
  by_cases hsz : 3000 < s.size
  · have b2 : decide ((3000 : Int) < s.size) = true := by rw [decide_eq_true_eq]; omega
    clear hf
    go_wp2_with fail
    refine (HA.out _ HB1.out).mono ?_
    rintro e w2 ⟨rfl, hb⟩
    have HB2 := Lib.hid (ext_trans HB1.out hb)
    clear hb
    go_wp2_with fail
    go_ret
    exact ⟨rfl, HB2.out⟩
  have b2 : decide ((3000 : Int) < s.size) = false := by rw [decide_eq_false_iff_not]; omega
  have HTL := Lib.hid (show (textT L).length ≤ 1000000 by have := few_text hf H64.out; omega)
  have HZ := Lib.hid (show s.size ≤ 1000000 by omega)
  have HFL := Lib.hid (fun c (hc : c ∈ L) => show c.1.length ≤ 100000 by
    obtain ⟨k, hk, rfl⟩ := mem_ci hc
    have := fewB_row hf hk
    omega)
  clear hf hsz
  go_wp2_with fail
  refine (Parse_any s _ HZ.out (HV.out.keep HB1.out)).mono ?_
  rintro e w2 ⟨v2, rfl, hs2, hb⟩
  have HB2 := Lib.hid (ext_trans HB1.out hb)
  have HS2 := Lib.hid hs2
  obtain ⟨a2, c2, rfl, _, _, _⟩ := hs2
  clear hb
  go_wp2_with fail
  refine (rParse38_any s w2 HZ.out).mono ?_
  rintro e w3 ⟨v3, rfl, hs3, hb⟩
  have HB3 := Lib.hid (ext_trans HB2.out hb)
  have HS23 := Lib.hid (HS2.out.keep hb)
  have HS3 := Lib.hid hs3
  obtain ⟨a3, c3, rfl, _, _, _⟩ := hs3
  clear hb
  obtain ⟨r, hr⟩ : ∃ r, r = parseT s.data.toList := ⟨_, rfl⟩
  rw [← hr] at HS23 HS3 ⊢
  clear hr b2
  obtain ⟨r1, r2, r3⟩ := r
  dsimp only at HS23 HS3 ⊢
  go_wp2_with fail
  refine (Text_any _ L w3 (H.out.keep HB3.out) H64.out HFL.out HTL.out (HV.out.keep HB3.out)).mono ?_
  rintro e w4 ⟨rfl, hb⟩
  have HB4 := Lib.hid (ext_trans HB3.out hb)
  have HS24 := Lib.hid (HS23.out.keep hb); have HS34 := Lib.hid (HS3.out.keep hb)
  clear hb
  go_wp2_with fail
  refine (rText38_any _ L w4 (H.out.keep HB4.out) H64.out HTL.out).mono ?_
  rintro e w5 ⟨rfl, hb⟩
  have HB5 := Lib.hid (ext_trans HB4.out hb)
  have HS25 := Lib.hid (HS24.out.keep hb); have HS35 := Lib.hid (HS34.out.keep hb)
  clear hb
  obtain ⟨tx, htx⟩ : ∃ tx, tx = bs (textT L) := ⟨_, rfl⟩
  rw [← htx]
  clear htx
  have hq1 : (tx.toList == tx.toList) = true := by simp
  go_wp2_with fail
  refine (Same_any _ _ r1 r1 w5 HS25.out HS35.out).mono ?_
  rintro e w6 ⟨rfl, m6, rfl⟩
  rw [decide_eq_true rfl]
  have hq2 : (r2 == r2) = true := by simp
  have hq3 : (r3 == r3) = true := by simp
  have HB6 := Lib.hid (below_drewN' HB5.out m6)
  go_wp2_with fail
  refine (HA.out _ HB6.out).mono ?_
  rintro e w7 ⟨rfl, hb⟩
  have HB7 := Lib.hid (ext_trans HB6.out hb)
  clear hb
  go_wp2_with fail
  go_ret
  exact ⟨rfl, HB7.out⟩
end Go.Proofs.YtehbnckdllbmgaaGreatDoor
