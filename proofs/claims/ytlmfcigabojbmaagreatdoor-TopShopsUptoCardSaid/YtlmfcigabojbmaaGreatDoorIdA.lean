/- Contracts: bytes and names of ident and of its reference. -/
import Derived.Test.YtlmfcigabojbmaaGreatDoorKit
import Derived.Test.YtlmfcigabojbmaaGreatDoorIdSpec
import Derived.Test.YtlmfcigabojbmaaGreatDoorIdNext
import Derived.Outline
set_option linter.unusedSimpArgs false
set_option linter.unusedVariables false
namespace Go.Proofs.YtlmfcigabojbmaaGreatDoor
open Go.RowKit

theorem digit_any (c : UInt8) (w : World) : Calls Tryz.prog 74 #[.int .u8 c.toNat] w fun e w' => e = .returned (.bool (digC c)) ∧ ∃ m, w' = w.drewN m := by
  have hc : (c.toNat : Int) < 256 := by have := c.toNat_lt; omega
  by_cases h1 : (48 : Int) ≤ c.toNat
  all_goals by_cases h2 : (c.toNat : Int) ≤ 57
  all_goals
    have HD : Hid (digC c = (decide ((48 : Int) ≤ c.toNat) && decide ((c.toNat : Int) ≤ 57))) := by show _ = _; unfold digC; rw [Bool.eq_iff_iff]; simp; omega
    go_enter Tryz.func74, Tryz.ntmps74
    go_wp2_with fail
    go_ret
    refine ⟨ret_bool ?_, 0, rfl⟩
    rw [HD.out, Bool.eq_iff_iff]; simp <;> omega
theorem letter_any (c : UInt8) (w : World) : Calls Tryz.prog 73 #[.int .u8 c.toNat] w fun e w' => e = .returned (.bool (letC c)) ∧ ∃ m, w' = w.drewN m := by
  have hc : (c.toNat : Int) < 256 := by have := c.toNat_lt; omega
  have HD : Hid (letC c = ((decide ((97 : Int) ≤ c.toNat) && decide ((c.toNat : Int) ≤ 122)) || (decide ((65 : Int) ≤ c.toNat) && decide ((c.toNat : Int) ≤ 90)))) := by show _ = _; unfold letC; rw [Bool.eq_iff_iff]; simp; omega
  by_cases h1 : (97 : Int) ≤ c.toNat
  all_goals by_cases h2 : (c.toNat : Int) ≤ 122
  all_goals by_cases h3 : (65 : Int) ≤ c.toNat
  all_goals by_cases h4 : (c.toNat : Int) ≤ 90
  all_goals first
    | (exfalso; omega)
    | (go_enter Tryz.func73, Tryz.ntmps73
       go_wp2_with fail
       go_ret
       refine ⟨ret_bool ?_, 0, rfl⟩
       rw [HD.out, Bool.eq_iff_iff]; simp <;> omega)
end Go.Proofs.YtlmfcigabojbmaaGreatDoor
