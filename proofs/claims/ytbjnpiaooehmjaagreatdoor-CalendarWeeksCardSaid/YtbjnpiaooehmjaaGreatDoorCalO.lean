/- Contracts of the reference: decimal, Date. -/
import Derived.Test.YtbjnpiaooehmjaaGreatDoorCalM
import Derived.Test.YtbjnpiaooehmjaaGreatDoorCalDate
import Derived.Laws.IdiomStrings
import Derived.IntWalk
namespace Go.Proofs.YtbjnpiaooehmjaaGreatDoor
open Go.RowKit

def digT : ByteArray := ⟨#[48, 49, 50, 51, 52, 53, 54, 55, 56, 57]⟩
theorem digT_at (n : Nat) (h : n < 10) : digT.extract n (n + 1) = ⟨#[digU n]⟩ := by
  have : n = 0 ∨ n = 1 ∨ n = 2 ∨ n = 3 ∨ n = 4 ∨ n = 5 ∨ n = 6 ∨ n = 7 ∨ n = 8 ∨ n = 9 := by omega
  rcases this with rfl | rfl | rfl | rfl | rfl | rfl | rfl | rfl | rfl | rfl <;> rfl
theorem digT_slice (w : World) (r : Nat) (h : r < 10) : (Instr.slice 9 (.string digT) (some (.int .i64 (r : Int))) (some (.int .i64 ((r : Int) + 1))) none).run Tryz.prog w = .ok (.string ⟨#[digU r]⟩) w := by
  have hz : digT.size = 10 := rfl
  have := run_slice_string (P := Tryz.prog) w 9 digT .i64 .i64 r (r + 1) Tryz.underlying9 (by omega) (by omega) (by rw [hz]; omega)
  rw [show ((r : Int)).toNat = r by omega, show ((r : Int) + 1).toNat = r + 1 by omega, digT_at r h] at this
  exact this
theorem dec_length : ∀ (k n : Nat), 1 ≤ k → n < 10 ^ k → (Lib.decDigits n).length ≤ k := by
  intro k
  induction k with
  | zero => intro n h; omega
  | succ k ih =>
    intro n _ hn
    rw [dec_succ]
    split
    · simp
    · rename_i h
      rw [List.length_append]
      have hk : 1 ≤ k := by
        rcases Nat.eq_zero_or_pos k with e | e
        · subst e; simp at hn; omega
        · exact e
      have := ih (n / 10) hk (by rw [Nat.pow_succ] at hn; omega)
      simp; omega
/-- the digits ahead of the last one -/
def headD (m : Nat) : List UInt8 := if m < 10 then [] else Lib.decDigits (m / 10)
theorem headD_all (m : Nat) : headD m ++ [digU (m % 10)] = Lib.decDigits m := by
  unfold headD
  rw [dec_succ m]
  split
  · rename_i h; rw [Nat.mod_eq_of_lt h]; rfl
  · rfl
theorem headD_step (m : Nat) (l : List UInt8) (h : 10 ≤ m) : headD (m / 10) ++ digU (m / 10 % 10) :: l = headD m ++ l := by
  conv => rhs; unfold headD
  rw [if_neg (by omega), ← headD_all (m / 10)]; simp
theorem headD_end (m : Nat) (h : m < 10) : headD m = [] := by unfold headD; rw [if_pos h]
theorem one_str (c : UInt8) (l : List UInt8) : (⟨#[c]⟩ : ByteArray) ++ (⟨l.toArray⟩ : ByteArray) = ⟨(c :: l).toArray⟩ := by
  apply ByteArray.ext
  apply Array.ext'
  simp

set_option maxHeartbeats 1000000 in
set_option maxRecDepth 100000 in
theorem decimal_any (n : Nat) (w : World) (hn : n ≤ 1048576) : Calls Tryz.prog 45 #[.int .i64 n] w fun e w' => e = .returned (.string ⟨(Lib.decDigits n).toArray⟩) ∧ w' = w := by
  have hx0 := fun W : World => digT_slice W (n % 10) (by omega)
  have hr2 : ((n % 10 : Nat) : Int) = (n : Int) % 10 := by omega
  rw [hr2] at hx0
  unfold digT at hx0
  have HL := Lib.hid (dec_length 8 n (by omega) (by omega))
  have HS := Lib.hid (headD_all n)
  clear hr2
  go_enter Tryz.func45, Tryz.ntmps45
  go_wp2_with (simp only [hx0])
  go_loop [0, 3] (fun i x => ∃ (m : Nat) (l : List UInt8), m ≤ 1048576 ∧ i = .int .i64 m ∧ x = .string ⟨l.toArray⟩ ∧ l.length ≤ 8 ∧ Hid (headD m ++ l = Lib.decDigits n)) (fun i _ => (intOf i).toNat)
  case atStart => exact ⟨n, [digU (n % 10)], hn, rfl, rfl, by simp, HS⟩
  case round =>
    obtain ⟨m, l, hm, rfl, rfl, hl, H⟩ := hrel
    clear hx0
    by_cases hlt : 9 < m
    · obtain ⟨q, hq⟩ : ∃ q, m / 10 = q := ⟨_, rfl⟩
      have hq2 : (m : Int) / 10 = (q : Int) := by omega
      have hx := fun W : World => digT_slice W (q % 10) (by omega)
      rw [show ((q % 10 : Nat) : Int) = (q : Int) % 10 by omega] at hx
      unfold digT at hx
      have HN : Hid (headD q ++ digU (q % 10) :: l = Lib.decDigits n) := Lib.hid (by rw [← hq, headD_step m l (by omega)]; exact H.out)
      have hl2 : (digU (q % 10) :: l).length ≤ 8 := by
        have := congrArg List.length HN.out
        rw [List.length_append] at this
        have := HL.out
        omega
      have hone := one_str (digU (q % 10)) l
      have hs1 : (⟨#[digU (q % 10)]⟩ : ByteArray).size = 1 := rfl
      have hs2 : (⟨l.toArray⟩ : ByteArray).size = l.length := by show l.toArray.size = _; simp
      have hqm : q < m := by omega
      clear hq
      go_wp2_with (simp only [hx])
      go_round
      case rel => exact ⟨q, digU (q % 10) :: l, by omega, by go_num, by rfl, hl2, HN⟩
      case measure => simp [intOf]; omega
    · have e : l = Lib.decDigits n := by have := H.out; rw [headD_end m (by omega)] at this; exact this
      subst e
      go_wp2_with fail
      go_ret
      exact ⟨rfl, rfl⟩

set_option maxHeartbeats 1000000 in
set_option maxRecDepth 100000 in
theorem rDate_any (t : Int) (w : World) : Calls Tryz.prog 23 #[.int .i64 t] w fun e w' => e = .returned (.string ⟨(dateV t).toArray⟩) ∧ w' = w := by
  have HT := Lib.hid (Time_any t w)
  unfold dateV
  cases ht : timeB t with
  | false =>
    have hn : t < 0 ∨ 1048576 < t := by unfold timeB at ht; simp at ht; omega
    rw [if_pos hn]
    rw [ht] at HT
    clear hn
    go_enter Tryz.func23, Tryz.ntmps23
    go_wp2_with fail
    refine HT.out.mono ?_
    rintro e w1 ⟨rfl, rfl⟩
    go_wp2_with fail
    go_ret
    exact ⟨rfl, rfl⟩
  | true =>
    have ht2 : 0 ≤ t ∧ t ≤ 1048576 := by unfold timeB at ht; simpa using ht
    rw [if_neg (by omega)]
    rw [ht] at HT
    obtain ⟨s, rfl⟩ : ∃ s : Nat, t = s := ⟨t.toNat, by omega⟩
    rw [Int.toNat_natCast]
    have hs : s ≤ 1048576 := by omega
    have HD : ∀ (x : Int) (n : Nat), x = (n : Int) → n ≤ 1048576 → Hid (Calls Tryz.prog 45 #[.int .i64 x] w fun e w' => e = .returned (.string ⟨(Lib.decDigits n).toArray⟩) ∧ w' = w) := fun x n h1 h2 => by subst h1; exact Lib.hid (decimal_any n w h2)
    have D1 := HD ((s : Int) / 168) (s / 168) (by omega) (by omega)
    have D2 := HD ((s : Int) % 168 / 24 + 1) (s % 168 / 24 + 1) (by omega) (by omega)
    have D3 := HD ((s : Int) % 24 / 10) (s % 24 / 10) (by omega) (by omega)
    have D4 := HD ((s : Int) % 24 % 10) (s % 24 % 10) (by omega) (by omega)
    have l1 := dec_length 8 (s / 168) (by omega) (by omega)
    rw [dec_succ (s % 168 / 24 + 1), if_pos (by omega)] at D2
    rw [dec_succ (s % 24 / 10), if_pos (by omega)] at D3
    rw [dec_succ (s % 24 % 10), if_pos (by omega)] at D4
    unfold dateL
    generalize Lib.decDigits (s / 168) = A at D1 l1 ⊢
    generalize digU (s % 168 / 24 + 1) = b at D2 ⊢
    generalize digU (s % 24 / 10) = c at D3 ⊢
    generalize digU (s % 24 % 10) = d at D4 ⊢
    clear HD
    have z1 : (⟨A.toArray⟩ : ByteArray).size = A.length := by show A.toArray.size = _; simp
    have z2 : (⟨[b].toArray⟩ : ByteArray).size = 1 := rfl
    have z3 : (⟨[c].toArray⟩ : ByteArray).size = 1 := rfl
    have z4 : (⟨[d].toArray⟩ : ByteArray).size = 1 := rfl
    go_enter Tryz.func23, Tryz.ntmps23
    go_wp2_with fail
    refine HT.out.mono ?_
    rintro e w1 ⟨rfl, rfl⟩
    go_wp2_with fail
    refine D1.out.mono ?_
    rintro e w1 ⟨rfl, rfl⟩
    go_wp2_with fail
    refine D2.out.mono ?_
    rintro e w1 ⟨rfl, rfl⟩
    go_wp2_with fail
    refine D3.out.mono ?_
    rintro e w1 ⟨rfl, rfl⟩
    go_wp2_with fail
    refine D4.out.mono ?_
    rintro e w1 ⟨rfl, rfl⟩
    go_wp2_with fail
    go_ret
    have hd : (⟨#[119]⟩ : ByteArray) ++ (⟨A.toArray⟩ : ByteArray) ++ (⟨#[32, 100]⟩ : ByteArray) ++ (⟨#[b]⟩ : ByteArray) ++ (⟨#[32]⟩ : ByteArray) ++ (⟨#[c]⟩ : ByteArray) ++ (⟨#[d]⟩ : ByteArray) ++ (⟨#[104]⟩ : ByteArray) = ⟨(119 :: (A ++ [32, 100, b, 32, c, d, 104])).toArray⟩ := by
      apply ByteArray.ext
      apply Array.ext'
      simp
    exact ⟨congrArg (fun s => Ending.returned (.string s)) hd, rfl⟩
end Go.Proofs.YtbjnpiaooehmjaaGreatDoor
