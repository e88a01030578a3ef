/- Contracts: first, Next. -/
import Derived.Test.YtbjnpiaooehmjaaDoorCalB
namespace Go.Proofs.YtbjnpiaooehmjaaDoor
open Go.RowKit

theorem workB_nat {sh : List Sp} {cl : List Int} {t : Nat} (h : t ≤ 1048576) : workB sh cl t = wk sh cl t := by
  unfold workB
  have d1 : decide ((0 : Int) ≤ t) = true := by simp
  have d2 : decide ((t : Int) ≤ 1048576) = true := by simp; omega
  rw [d1, d2, Int.toNat_natCast]; rfl
theorem enter_Works : ∀ args w, (callFunc 10 args).run Tryd.prog w = .ok (.enter 10 args) w := enters_of Tryd.func10 (by kernel_rfl) rfl
def firstV : Option Nat → Value
  | some t => .tuple #[.int .i64 t, .bool true]
  | none => .tuple #[.int .i64 0, .bool false]

set_option maxHeartbeats 800000 in
theorem first_any (v : Value) (sh : List Sp) (cl : List Int) (s : Nat) (w : World) (h : CalP w v sh cl) (hg : Good sh cl) (hs : s ≤ 1048576) :
    Calls Tryd.prog 25 #[.int .i64 s, .func (.func 10) #[v] #[]] w (Ret w (firstV (nextO sh cl s))) := by
  have HC := Lib.hid h; clear h
  have HG := Lib.hid hg; clear hg
  have enW := enter_Works
  generalize hr : firstV (nextO sh cl s) = r
  have HR := Lib.hid hr
  clear hr
  go_enter Tryd.func25, Tryd.ntmps25
  go_wp2
  go_loopw [0] (fun i wr => ∃ t : Nat, s ≤ t ∧ t ≤ 1048577 ∧ i = .int .i64 t ∧ Hid (Below w.heap.size w wr) ∧ Hid (∀ j, s ≤ j → j < t → wk sh cl j = false)) (fun i _ => 1048577 - (intOf i).toNat)
  case atStart => exact ⟨s, Nat.le_refl _, by omega, rfl, Lib.hid (Below.refl _ _), Lib.hid fun j h1 h2 => by omega⟩
  case round =>
    obtain ⟨t, h1, h2, rfl, hb, hj⟩ := hrel
    by_cases hlt : t ≤ 1048576
    · have HW := Lib.hid (Works_any v sh cl t _ (HC.out.keep hb.out) HG.out)
      rw [workB_nat hlt] at HW
      generalize hx : wk sh cl t = x at HW
      have HX := Lib.hid hx; clear hx
      go_wp2_with fail
      refine HW.out.mono ?_
      rintro e w1 ⟨rfl, hb1⟩
      have HB1 := Lib.hid (ext_trans hb.out hb1)
      clear hb1
      cases x
      · go_wp2_with fail
        go_roundw
        case rel =>
          refine ⟨t+1, by omega, by omega, by go_num, HB1, Lib.hid ?_⟩
          intro j g1 g2
          by_cases e : j = t
          · subst e; exact HX.out
          · exact hj.out j g1 (by omega)
        case measure => simp [intOf]; omega
      · have e : nextO sh cl s = some t := firstN_at h1 (by omega) HX.out hj.out
        have HR2 := Lib.hid HR.out
        rw [e] at HR2
        have HR3 : Hid (firstV (some t) = r) := HR2
        clear HR2 HR
        go_wp2_with fail
        go_ret2
        exact ⟨by rw [← HR3.out]; rfl, HB1.out⟩
    · have e : nextO sh cl s = none := firstN_no fun j g1 g2 => hj.out j g1 (by omega)
      have HR2 := Lib.hid HR.out
      rw [e] at HR2
      have HR3 : Hid (firstV none = r) := HR2
      clear HR2 HR
      go_wp2_with fail
      go_ret2
      exact ⟨by rw [← HR3.out]; rfl, hb.out⟩

theorem Next_nil (t : Int) (w : World) : Calls Tryd.prog 13 #[.pointer none, .int .i64 t] w (RetNE w 0 1) := by
  go_enter Tryd.func13, Tryd.ntmps13
  go_wp2_with fail
  go_ret2
  exact ⟨rfl, Below.refl _ _⟩
set_option maxHeartbeats 800000 in
theorem Next_any (v : Value) (sh : List Sp) (cl : List Int) (t : Int) (w : World) (h : CalP w v sh cl) (hg : Good sh cl) :
    Calls Tryd.prog 13 #[v, .int .i64 t] w (RetNE w (nextV sh cl t) (nextE sh cl t)) := by
  have HT := Lib.hid (time_any t w)
  have HC := Lib.hid h
  obtain ⟨B, sv, cv, rfl, _⟩ := h
  unfold nextV nextE
  cases ht : timeB t with
  | false =>
    have hn : t < 0 ∨ 1048576 < t := by unfold timeB at ht; simp at ht; omega
    rw [if_pos hn, if_pos hn]
    rw [ht] at HT
    clear hn
    go_enter Tryd.func13, Tryd.ntmps13
    go_wp2_with fail
    refine HT.out.mono ?_
    rintro e w1 ⟨rfl, rfl⟩
    go_wp2_with fail
    go_ret2
    exact ⟨rfl, Below.refl _ _⟩
  | true =>
    have hn : 0 ≤ t ∧ t ≤ 1048576 := by unfold timeB at ht; simpa using ht
    rw [if_neg (by omega), if_neg (by omega)]
    rw [ht] at HT
    obtain ⟨s, rfl⟩ : ∃ s : Nat, t = s := ⟨t.toNat, by omega⟩
    rw [Int.toNat_natCast]
    have HF := Lib.hid (first_any _ sh cl s w HC.out hg (by omega))
    cases hx : nextO sh cl s with
    | none =>
      rw [hx] at HF
      dsimp only [firstV] at HF ⊢
      go_enter Tryd.func13, Tryd.ntmps13
      go_wp2_with fail
      refine HT.out.mono ?_
      rintro e w1 ⟨rfl, rfl⟩
      go_wp2_with fail
      refine HF.out.mono ?_
      rintro e w1 ⟨rfl, hb⟩
      go_wp2_with fail
      go_ret2
      exact ⟨rfl, hb⟩
    | some u =>
      rw [hx] at HF
      dsimp only [firstV] at HF ⊢
      go_enter Tryd.func13, Tryd.ntmps13
      go_wp2_with fail
      refine HT.out.mono ?_
      rintro e w1 ⟨rfl, rfl⟩
      go_wp2_with fail
      refine HF.out.mono ?_
      rintro e w1 ⟨rfl, hb⟩
      go_wp2_with fail
      go_ret2
      exact ⟨rfl, hb⟩
end Go.Proofs.YtbjnpiaooehmjaaDoor
