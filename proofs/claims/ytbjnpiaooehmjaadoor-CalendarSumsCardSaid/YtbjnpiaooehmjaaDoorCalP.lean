/- Contract: Date; what the laid variables hold. -/
import Derived.Test.YtbjnpiaooehmjaaDoorCalO
import Derived.Lib.AppendIntMem
namespace Go.Proofs.YtbjnpiaooehmjaaDoor
open Go.RowKit

def IfaceV (ev : Value) : Prop := ev = .nilIface ∨ ∃ te pe, ev = .iface te pe
/-- what the library's variables hold -/
structure VarsC (w : World) : Prop where
  ml : ∃ m, w.cell? ⟨0, 0, none⟩ = some (.int .i64 m)
  tab : Lib.TabIs Tryd.prog w "internal/strconv.uint64pow10" .u64 Lib.pow10Tab
  sy : ∃ ev, w.cell? ⟨1, 0, none⟩ = some ev ∧ IfaceV ev
  ra : ∃ ev, w.cell? ⟨2, 0, none⟩ = some ev ∧ IfaceV ev
theorem VarsC.keep {w w' : World} (h : VarsC w) (hb : Below w.heap.size w w') : VarsC w' := by
  obtain ⟨⟨m, h1⟩, h2, ⟨e, h3, h4⟩, ⟨e2, h5, h6⟩⟩ := h
  exact ⟨⟨m, cell_keep hb h1⟩, (Lib.tabBelow_of_tabIs h2).on hb |>.here, ⟨e, cell_keep hb h3, h4⟩, ⟨e2, cell_keep hb h5, h6⟩⟩
theorem itoa_any (n : Nat) (w : World) (hn : n ≤ 9223372036854775807) (hV : VarsC w) : Calls Tryd.prog 29 #[.int .i64 n] w (Ret w (.string ⟨(Lib.decDigits n).toArray⟩)) := by
  refine (Tryd.strconv_Itoa n (by omega) (by omega) w hV.tab).mono ?_
  rintro e w' ⟨rfl, k, os, rfl⟩
  refine ⟨?_, Lib.below_grow _ _ (Nat.le_refl _) _ _⟩
  rw [Lib.itoa_nonneg]

set_option maxHeartbeats 1000000 in
set_option maxRecDepth 100000 in
theorem Date_any (t : Int) (w : World) (hV : VarsC w) : Calls Tryd.prog 15 #[.int .i64 t] w (Ret w (.string ⟨(dateV t).toArray⟩)) := by
  have HT := Lib.hid (time_any t w)
  have HV := Lib.hid hV
  clear hV
  unfold dateV
  cases ht : timeB t with
  | false =>
    have hn : t < 0 ∨ 1048576 < t := by unfold timeB at ht; simp at ht; omega
    rw [if_pos hn]
    rw [ht] at HT
    clear hn
    go_enter Tryd.func15, Tryd.ntmps15
    go_wp2_with fail
    refine HT.out.mono ?_
    rintro e w1 ⟨rfl, rfl⟩
    go_wp2_with fail
    go_ret
    exact ⟨rfl, Below.refl _ _⟩
  | true =>
    have ht2 : 0 ≤ t ∧ t ≤ 1048576 := by unfold timeB at ht; simpa using ht
    rw [if_neg (by omega)]
    rw [ht] at HT
    obtain ⟨s, rfl⟩ : ∃ s : Nat, t = s := ⟨t.toNat, by omega⟩
    rw [Int.toNat_natCast]
    have hs : s ≤ 1048576 := by omega
    have HD : ∀ (x : Int) (n : Nat) (w2 : World), x = (n : Int) → n ≤ 1048576 → Below w.heap.size w w2 → Hid (Calls Tryd.prog 29 #[.int .i64 x] w2 (Ret w2 (.string ⟨(Lib.decDigits n).toArray⟩))) := fun x n w2 h1 h2 hb => by subst h1; exact Lib.hid (itoa_any n w2 (by omega) (HV.out.keep hb))
    have D0 := fun w2 hb => HD ((s : Int) % 24) (s % 24) w2 (by omega) (by omega) hb
    have D1 := fun w2 hb => HD ((s : Int) / 168) (s / 168) w2 (by omega) (by omega) hb
    have D2 := fun w2 hb => HD ((s : Int) % 168 / 24 + 1) (s % 168 / 24 + 1) w2 (by omega) (by omega) hb
    have l1 := dec_length 8 (s / 168) (by omega) (by omega)
    rw [dec_succ (s % 168 / 24 + 1), if_pos (by omega)] at D2
    unfold dateL
    generalize Lib.decDigits (s / 168) = A at D1 l1 ⊢
    generalize digU (s % 168 / 24 + 1) = b at D2 ⊢
    have z1 : (⟨A.toArray⟩ : ByteArray).size = A.length := by show A.toArray.size = _; simp
    have z2 : (⟨[b].toArray⟩ : ByteArray).size = 1 := rfl
    have z0 : (⟨#[48]⟩ : ByteArray).size = 1 := rfl
    clear HD
    by_cases h10 : s % 24 < 10
    · rw [dec_succ (s % 24), if_pos h10] at D0
      rw [show s % 24 / 10 = 0 by omega, show s % 24 % 10 = s % 24 by omega, show digU 0 = 48 from rfl]
      generalize digU (s % 24) = d at D0 ⊢
      have z4 : (⟨[d].toArray⟩ : ByteArray).size = 1 := rfl
      have HRP := fun w2 => Lib.hid (Tryd.strings_Repeat_one ⟨#[48]⟩ w2)
      go_enter Tryd.func15, Tryd.ntmps15
      go_wp2_with fail
      refine HT.out.mono ?_
      rintro e w1 ⟨rfl, rfl⟩
      go_wp2_with fail
      refine (D0 _ (Below.refl _ _)).out.mono ?_
      rintro e w2 ⟨rfl, hb⟩
      have HB2 := Lib.hid hb
      clear hb
      go_wp2_with fail
      refine (D1 _ HB2.out).out.mono ?_
      rintro e w3 ⟨rfl, hb⟩
      have HB3 := Lib.hid (ext_trans HB2.out hb)
      clear hb
      go_wp2_with fail
      refine (D2 _ HB3.out).out.mono ?_
      rintro e w4 ⟨rfl, hb⟩
      have HB4 := Lib.hid (ext_trans HB3.out hb)
      clear hb
      go_wp2_with fail
      refine (HRP _).out.mono ?_
      rintro e w5 ⟨rfl, rfl⟩
      go_wp2_with fail
      go_ret
      have hd : (⟨#[119]⟩ : ByteArray) ++ (⟨A.toArray⟩ : ByteArray) ++ (⟨#[32, 100]⟩ : ByteArray) ++ (⟨#[b]⟩ : ByteArray) ++ (⟨#[32]⟩ : ByteArray) ++ (⟨#[48]⟩ : ByteArray) ++ (⟨#[d]⟩ : ByteArray) ++ (⟨#[104]⟩ : ByteArray) = ⟨(119 :: (A ++ [32, 100, b, 32, 48, d, 104])).toArray⟩ := by
        apply ByteArray.ext
        apply Array.ext'
        simp
      exact ⟨congrArg (fun s => Ending.returned (.string s)) hd, HB4.out⟩
    · rw [dec_succ (s % 24), if_neg h10, dec_succ (s % 24 / 10), if_pos (by omega)] at D0
      generalize digU (s % 24 % 10) = d at D0 ⊢
      generalize digU (s % 24 / 10) = c at D0 ⊢
      have z4 : (⟨([c] ++ [d]).toArray⟩ : ByteArray).size = 2 := rfl
      have z5 : (⟨#[c, d]⟩ : ByteArray).size = 2 := rfl
      have HRP := fun w2 => Lib.hid (Tryd.strings_Repeat_zero ⟨#[48]⟩ w2)
      go_enter Tryd.func15, Tryd.ntmps15
      go_wp2_with fail
      refine HT.out.mono ?_
      rintro e w1 ⟨rfl, rfl⟩
      go_wp2_with fail
      refine (D0 _ (Below.refl _ _)).out.mono ?_
      rintro e w2 ⟨rfl, hb⟩
      have HB2 := Lib.hid hb
      clear hb
      go_wp2_with fail
      refine (D1 _ HB2.out).out.mono ?_
      rintro e w3 ⟨rfl, hb⟩
      have HB3 := Lib.hid (ext_trans HB2.out hb)
      clear hb
      go_wp2_with fail
      refine (D2 _ HB3.out).out.mono ?_
      rintro e w4 ⟨rfl, hb⟩
      have HB4 := Lib.hid (ext_trans HB3.out hb)
      clear hb
      go_wp2_with fail
      refine (HRP _).out.mono ?_
      rintro e w5 ⟨rfl, rfl⟩
      go_wp2_with fail
      go_ret
      have hd : (⟨#[119]⟩ : ByteArray) ++ (⟨A.toArray⟩ : ByteArray) ++ (⟨#[32, 100]⟩ : ByteArray) ++ (⟨#[b]⟩ : ByteArray) ++ (⟨#[32]⟩ : ByteArray) ++ (⟨#[]⟩ : ByteArray) ++ (⟨#[c, d]⟩ : ByteArray) ++ (⟨#[104]⟩ : ByteArray) = ⟨(119 :: (A ++ [32, 100, b, 32, c, d, 104])).toArray⟩ := by
        apply ByteArray.ext
        apply Array.ext'
        simp
      exact ⟨congrArg (fun s => Ending.returned (.string s)) hd, HB4.out⟩
end Go.Proofs.YtbjnpiaooehmjaaDoor
