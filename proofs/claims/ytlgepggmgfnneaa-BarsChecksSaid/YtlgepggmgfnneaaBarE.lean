/- Contract: pieces of bars. -/
import Derived.Test.YtlgepggmgfnneaaBarP
import Derived.Test.YtlgepggmgfnneaaBarB
namespace Go.Proofs.Ytlgepggmgfnneaa
open Go.RowKit

def SawD.agg (s : SawD) (v : Value) : Value := .agg #[.string s.bar, .int .i64 s.kerf, v]
def BarI.agg (b : BarI) : Value := .agg #[.string b.id, .string b.sec, .string b.grade, .int .i64 b.len, b.heat]

/-- the first index of a string, else -1 -/
def findS (x : ByteArray) (ss : List ByteArray) : Int := match ss.findIdx? (fun y => x.toList == y.toList) with | some i => i | none => -1
theorem findS_hit (x : ByteArray) (ss : List ByteArray) (k : Nat) (hk : k < ss.length) (h1 : ∀ j, j < k → (x.toList == (si ss j).toList) = false) (h2 : (x.toList == (si ss k).toList) = true) : findS x ss = k := by
  have : ss.findIdx? (fun y => x.toList == y.toList) = some k := by
    rw [List.findIdx?_eq_some_iff_getElem]
    refine ⟨hk, by rw [si_lt hk] at h2; exact h2, fun j hj => ?_⟩
    have := h1 j hj
    rw [si_lt (show j < ss.length by omega)] at this
    rw [this]; simp
  simp [findS, this]
theorem findS_miss (x : ByteArray) (ss : List ByteArray) (h1 : ∀ j, j < ss.length → (x.toList == (si ss j).toList) = false) : findS x ss = -1 := by
  have : ss.findIdx? (fun y => x.toList == y.toList) = none := by
    rw [List.findIdx?_eq_none_iff]
    intro y hy
    obtain ⟨j, hj, rfl⟩ := mem_si hy
    exact h1 j hj
  simp [findS, this]
theorem findS_any (x : ByteArray) (ss : List ByteArray) : decide (0 ≤ findS x ss) = ss.any fun y => x.toList == y.toList := by
  rw [Bool.eq_iff_iff, decide_eq_true_eq]
  simp only [findS]
  cases hh : ss.findIdx? (fun y => x.toList == y.toList) with
  | none => rw [List.findIdx?_eq_none_iff] at hh; simp only [List.any_eq_true]; exact ⟨fun h => by omega, fun ⟨y, hy, h⟩ => by rw [hh y hy] at h; cases h⟩
  | some i => rw [List.findIdx?_eq_some_iff_getElem] at hh; obtain ⟨h1, h2, _⟩ := hh; simp only [List.any_eq_true]; exact ⟨fun _ => ⟨_, List.getElem_mem h1, h2⟩, fun _ => by omega⟩

theorem index_str (v : Value) (x : ByteArray) (ss : List ByteArray) (w : World) (h : SStr w v ss) :
    Calls Try.prog 55 #[v, .string x] w fun e w' => e = .returned (.int .i64 (findS x ss)) ∧ ∃ m, w' = w.drewN m := by
  obtain ⟨a, cap, rfl, h1, h2, h3⟩ := h
  have H3 := Lib.hid h3; clear h3
  have hm : ss.length ≤ 9223372036854775807 := by unfold maxLen at h2; omega
  go_enter Try.func55, Try.ntmps55
  go_wp2
  go_loop [8] (fun i => ∃ k : Nat, k ≤ ss.length ∧ i = .int .i64 k ∧ Hid (∀ j, j < k → (x.toList == (si ss j).toList) = false)) (fun i => ss.length - (intOf i).toNat)
  case atStart => exact ⟨0, Nat.zero_le _, rfl, fun j hj => by omega⟩
  case round =>
    obtain ⟨k, hk, rfl, hj⟩ := hrel
    by_cases hlt : k < ss.length
    · obtain ⟨b, off, ha, hc⟩ := H3.out k hlt
      rw [ha]
      generalize hy : si ss k = y at *
      have HY := Lib.hid hy
      clear hy
      cases hxy : x.toList == y.toList
      · have HX := Lib.hid (upto hj.out (show (x.toList == (si ss k).toList) = false by rw [HY.out]; exact hxy))
        go_wp2_with fail
        go_round
        case rel => exact ⟨k + 1, by omega, by go_num, HX⟩
        case measure => simp [intOf]; omega
      · have HX : Hid (findS x ss = k) := findS_hit x ss k hlt hj.out (by rw [HY.out]; exact hxy)
        go_wp2_with fail
        go_ret
        exact ⟨ret_int HX.out.symm, 0, rfl⟩
    · go_wp2_with fail
      go_ret
      exact ⟨ret_int (findS_miss x ss (fun j h => hj.out j (by omega))).symm, 0, rfl⟩
theorem contains_str (v : Value) (x : ByteArray) (ss : List ByteArray) (w : World) (h : SStr w v ss) :
    Calls Try.prog 46 #[v, .string x] w fun e w' => e = .returned (.bool (ss.any fun y => x.toList == y.toList)) ∧ ∃ m, w' = w.drewN m := by
  have HH := Lib.hid h; clear h
  go_enter Try.func46, Try.ntmps46
  go_wp2_with fail
  refine (index_str v x ss w HH.out).mono ?_
  rintro e w1 ⟨rfl, m1, rfl⟩
  have HZ := Lib.hid (findS_any x ss)
  go_wp2_with fail
  go_ret
  exact ⟨ret_bool HZ.out, m1, rfl⟩
theorem SStr.take {w : World} {a : Option Addr} {cap : Nat} {xs : List ByteArray} (h : SStr w (.slice a xs.length cap) xs) (k : Nat) (hk : k ≤ xs.length) : SStr w (.slice a k cap) (xs.take k) := by
  obtain ⟨a', cap', he, h1, h2, h3⟩ := h
  simp at he
  obtain ⟨rfl, rfl⟩ := he
  have hl : (xs.take k).length = k := by simp; omega
  refine ⟨a, cap, by rw [hl], by omega, h2, fun i hi => ?_⟩
  rw [hl] at hi
  obtain ⟨b, off, ha, hc⟩ := h3 i (by omega)
  refine ⟨b, off, ha, ?_⟩
  rw [hc]
  simp [si, List.getElem?_take, hi]
end Go.Proofs.Ytlgepggmgfnneaa
