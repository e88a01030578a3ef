/- Contracts: Between, sort.Search, Add. -/
import Derived.Test.YtbjnpiaooehmjaaDoorCalD
import Derived.Deep.RegionHeld3
namespace Go.Proofs.YtbjnpiaooehmjaaDoor
open Go.RowKit

set_option maxHeartbeats 1000000 in
theorem Between_any (v : Value) (sh : List Sp) (cl : List Int) (f u : Int) (w : World) (hc : CalP w v sh cl) (hg : Good sh cl) :
    Calls Tryd.prog 11 #[v, .int .i64 f, .int .i64 u] w (Ret w (.int .i64 (btw sh cl f u))) := by
  have HC := Lib.hid hc
  obtain ⟨B, sv, cv, rfl, _⟩ := hc
  have HG := Lib.hid hg
  clear hg
  unfold btw
  by_cases h : min u 1048577 ≤ max f 0
  · rw [if_pos h]
    go_enter Tryd.func11, Tryd.ntmps11
    go_wp2_with fail
    go_ret
    exact ⟨rfl, Below.refl _ _⟩
  · rw [if_neg h]
    obtain ⟨x, hx⟩ : ∃ x : Nat, (x : Int) = max f 0 := ⟨(max f 0).toNat, by omega⟩
    obtain ⟨y, hy⟩ : ∃ y : Nat, (y : Int) = min u 1048577 := ⟨(min u 1048577).toNat, by omega⟩
    rw [← hx, ← hy, Int.toNat_natCast, Int.toNat_natCast]
    have H1 := Lib.hid (before_any _ sh cl y w HC.out HG.out (by omega))
    have H2 : ∀ w2, Below w.heap.size w w2 → Hid (Calls Tryd.prog 22 #[.pointer (some ⟨B, 0, none⟩), .int .i64 x] w2 (Ret w2 (.int .i64 (befN sh cl x)))) := fun w2 hb => Lib.hid (before_any _ sh cl x w2 (HC.out.keep hb) HG.out (by omega))
    have b1 := cnt_le (wk sh cl) y
    have b2 := cnt_le (wk sh cl) x
    rw [← hx, ← hy] at h
    unfold befN at H1 H2 ⊢
    generalize cnt (wk sh cl) x = X at b2 H2 ⊢
    generalize cnt (wk sh cl) y = Y at b1 H1 ⊢
    have hy2 : y ≤ 1048577 := by omega
    have hx' := hx.symm
    have hy' := hy.symm
    clear hx hy
    go_enter Tryd.func11, Tryd.ntmps11
    go_wp2_with fail
    refine H1.out.mono ?_
    rintro e w1 ⟨rfl, hb1⟩
    have HB1 := Lib.hid hb1
    clear hb1
    go_wp2_with fail
    refine (H2 _ HB1.out).out.mono ?_
    rintro e w2 ⟨rfl, hb2⟩
    have HB2 := Lib.hid (ext_trans HB1.out hb2)
    clear hb2
    go_wp2_with fail
    go_ret
    exact ⟨rfl, HB2.out⟩

/-! sort.Search -/
def Least (p : Nat → Bool) (n i : Nat) : Prop := i ≤ n ∧ (∀ t, t < i → p t = false) ∧ (∀ t, i ≤ t → t < n → p t = true)
set_option maxHeartbeats 1000000 in
theorem Search_any (F : Nat) (caps : Array Value) (n : Nat) (p : Nat → Bool) (w : World) (hcf : ∀ args w, (callFunc F args).run Tryd.prog w = .ok (.enter F args) w) (hn : n ≤ 1048577)
    (hf : ∀ (i : Nat) (W : World), i < n → Below w.heap.size w W → Calls Tryd.prog F (#[.int .i64 i] ++ caps) W (Ret W (.bool (p i)))) (hm : ∀ a b, a ≤ b → b < n → p a = true → p b = true) :
    Calls Tryd.prog 23 #[.int .i64 n, .func (.func F) #[] caps] w fun e w' => ∃ i, e = .returned (.int .i64 (i : Nat)) ∧ Least p n i ∧ Below w.heap.size w w' := by
  have HF := Lib.hid hf
  have M := Lib.hid hm
  clear hf hm
  go_enter Tryd.func23, Tryd.ntmps23
  go_wp2
  go_loopg [5, 6] n (fun kx s5 s6 wr => ∃ (lo hi : Nat), s5 = .int .i64 lo ∧ s6 = .int .i64 hi ∧ lo ≤ hi ∧ hi ≤ n ∧ hi - lo ≤ kx ∧ Hid (Below w.heap.size w wr) ∧
    Hid ((∀ t, t < lo → p t = false) ∧ (∀ t, hi ≤ t → t < n → p t = true)))
  case atStart => exact ⟨0, n, rfl, rfl, Nat.zero_le _, Nat.le_refl _, by omega, Lib.hid (Below.refl _ _), Lib.hid ⟨fun t ht => absurd ht (Nat.not_lt_zero _), fun t h1 h2 => by omega⟩⟩
  case round =>
    obtain ⟨lo, hi, rfl, rfl, hlh, hin, hg, hb, I⟩ := hrel
    by_cases hlt : lo < hi
    · have hc := HF.out ((lo + hi) / 2) _ (by omega) hb.out
      rw [show (((lo + hi) / 2 : Nat) : Int) = ((lo : Int) + (hi : Int)) / 2 by omega] at hc
      have HC := Lib.hid hc
      clear hc
      cases hp : p ((lo + hi) / 2) <;> rw [hp] at HC
      · have HP := Lib.hid hp
        clear hp
        go_wp2_with fail
        refine HC.out.mono ?_
        rintro e w' ⟨rfl, hb1⟩
        have HB1 := Lib.hid (ext_trans hb.out hb1)
        clear hb1
        go_wp2_with fail
        go_roundg (hi - ((lo + hi) / 2 + 1))
        case measure => omega
        case rel =>
          exact ⟨(lo + hi) / 2 + 1, hi, by rw [show ((lo : Int) + (hi : Int)) / 2 + 1 = (((lo + hi) / 2 + 1 : Nat) : Int) by omega], rfl, by omega, hin, Nat.le_refl _, HB1, Lib.hid ⟨fun t ht => (by
            cases h : p t with
            | false => rfl
            | true => have := M.out t ((lo + hi) / 2) (by omega) (by omega) h; rw [HP.out] at this; cases this), I.out.2⟩⟩
      · have HP := Lib.hid hp
        clear hp
        go_wp2_with fail
        refine HC.out.mono ?_
        rintro e w' ⟨rfl, hb1⟩
        have HB1 := Lib.hid (ext_trans hb.out hb1)
        clear hb1
        go_wp2_with fail
        go_roundg ((lo + hi) / 2 - lo)
        case measure => omega
        case rel =>
          exact ⟨lo, (lo + hi) / 2, rfl, by rw [show ((lo : Int) + (hi : Int)) / 2 = (((lo + hi) / 2 : Nat) : Int) by omega], by omega, by omega, Nat.le_refl _, HB1, Lib.hid ⟨I.out.1, fun t ht htn => M.out ((lo + hi) / 2) t ht htn HP.out⟩⟩
    · obtain rfl : hi = lo := by omega
      go_wp2_with fail
      go_ret
      exact ⟨hi, rfl, ⟨hin, I.out.1, I.out.2⟩, hb.out⟩

theorem enter_Add1 : ∀ args w, (callFunc 24 args).run Tryd.prog w = .ok (.enter 24 args) w := enters_of Tryd.func24 (by kernel_rfl) rfl
/-- at least so many hours behind so many -/
def enough (sh : List Sp) (cl : List Int) (s : Nat) (h : Int) (i : Nat) : Bool := decide (h ≤ btw sh cl s ((s : Int) + i))
set_option maxHeartbeats 1000000 in
set_option maxRecDepth 100000 in
theorem Add1_any (v : Value) (sh : List Sp) (cl : List Int) (s i : Nat) (h : Int) (b1 b2 b3 : Nat) (w : World) (hc : CalP w v sh cl) (hg : Good sh cl) (hs : s ≤ 1048576) (hi : i ≤ 1048576)
    (c1 : w.cell? ⟨b1, 0, none⟩ = some v) (c2 : w.cell? ⟨b2, 0, none⟩ = some (.int .i64 s)) (c3 : w.cell? ⟨b3, 0, none⟩ = some (.int .i64 h)) :
    Calls Tryd.prog 24 #[.int .i64 i, .pointer (some ⟨b1, 0, none⟩), .pointer (some ⟨b2, 0, none⟩), .pointer (some ⟨b3, 0, none⟩)] w (Ret w (.bool (enough sh cl s h i))) := by
  have HC := Lib.hid hc
  obtain ⟨B, sv, cv, rfl, _⟩ := hc
  have HBT : Hid (∀ wz, Below w.heap.size w wz → Calls Tryd.prog 11 #[.pointer (some ⟨B, 0, none⟩), .int .i64 s, .int .i64 ((s : Int) + i)] wz fun e w' => e = .returned (.int .i64 (btw sh cl s ((s : Int) + i))) ∧ Below w.heap.size w w') := fun wz hz =>
    (Between_any _ sh cl s ((s : Int) + i) wz (HC.out.keep hz) hg).mono fun e w' ⟨g1, g2⟩ => ⟨g1, ext_trans hz g2⟩
  unfold enough
  have e1 : IntKind.i64.wrap ((s : Int) + i) = s + i := IntWalk.i64_in _ (by omega)
  generalize hx : (s : Int) + i = x at HBT e1 ⊢
  generalize btw sh cl s x = r at HBT ⊢
  clear hg hs hi
  go_enter Tryd.func24, Tryd.ntmps24
  go_wp2_with fail
  go_region_held3 (fun w' => w'.cell? ⟨b1, 0, none⟩ = some (.pointer (some ⟨B, 0, none⟩)) ∧ w'.cell? ⟨b2, 0, none⟩ = some (.int .i64 s) ∧ w'.cell? ⟨b3, 0, none⟩ = some (.int .i64 h))
    (first | exact ⟨c1, c2, c3⟩ | exact ⟨cell_keep hbz c1, cell_keep hbz c2, cell_keep hbz c3⟩)
    (first | (go_at_call 11; refine (HBT.out _ (by first | exact Below.refl _ _ | exact below_drewN' (Below.refl _ _) _)).mono ?_; rintro e wz ⟨rfl, hbz⟩))
  all_goals (go_wp2_with fail)
  all_goals
    go_ret
    exact ⟨rfl, hbz⟩
end Go.Proofs.YtbjnpiaooehmjaaDoor
