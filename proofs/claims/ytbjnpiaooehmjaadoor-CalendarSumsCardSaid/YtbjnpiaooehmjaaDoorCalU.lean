/- The cut at the first space. -/
import Derived.Test.YtbjnpiaooehmjaaDoorCalT
import Derived.Lib.IndexBytes
import Derived.Lib.IndexLaws
import Derived.Lib.IndexMore
import Derived.Lib.AtoiErrMem
namespace Go.Proofs.YtbjnpiaooehmjaaDoor
open Go.RowKit

theorem cut_sp (l : List UInt8) : (∃ i, i < l.length ∧ l[i]? = some 32 ∧ (∀ j, j < i → l[j]? ≠ some 32) ∧ Lib.cut l [32] = (l.take i, l.drop (i + 1), true)) ∨ ((∀ k : Nat, l[k]? ≠ some 32) ∧ Lib.cut l [32] = (l, [], false)) := by
  have hge := Lib.indexByte_ge l 32
  have e1 := Lib.index_one l 32
  by_cases h : Lib.indexByte l 32 = -1
  · right
    refine ⟨Lib.indexByte_none h, ?_⟩
    unfold Lib.cut
    rw [e1, h, if_neg (by decide)]
  · left
    obtain ⟨i, hi⟩ : ∃ i : Nat, Lib.indexByte l 32 = (i : Int) := ⟨(Lib.indexByte l 32).toNat, by omega⟩
    obtain ⟨g1, g2⟩ := Lib.indexByte_some hi
    refine ⟨i, (List.getElem?_eq_some_iff.1 g1).1, g1, g2, ?_⟩
    unfold Lib.cut
    rw [e1, hi, if_pos (by omega), Int.toNat_natCast]; rfl
theorem cut_any (s : ByteArray) (w : World) (hs : s.size ≤ 1000000) (hV : VarsC w) : Calls Tryd.prog 26 #[.string s, .string ⟨#[32]⟩] w fun e w' =>
    e = .returned (.tuple #[.string ⟨(Lib.cut s.data.toList [32]).1.toArray⟩, .string ⟨(Lib.cut s.data.toList [32]).2.1.toArray⟩, .bool (Lib.cut s.data.toList [32]).2.2]) ∧ ∃ n, w' = w.drewN n := by
  obtain ⟨m, hm⟩ := hV.ml
  exact Tryd.strings_Cut s ⟨#[32]⟩ m w (by omega) hm
/-- Atoi at digits: a number, or an error -/
theorem atoi_any (ds : List UInt8) (w : World) (hl : ds.length ≤ 1000000) (h1 : ds ≠ []) (h2 : ds.all digC = true) (hV : VarsC w) : Calls Tryd.prog 28 #[.string ⟨ds.toArray⟩] w fun e w' =>
    (numL ds < 9223372036854775808 ∧ e = .returned (.tuple #[.int .i64 (numL ds), .nilIface]) ∨ 9223372036854775808 ≤ numL ds ∧ ∃ n t p, e = .returned (.tuple #[.int .i64 n, .iface t p])) ∧ Below w.heap.size w w' := by
  have hz : (⟨ds.toArray⟩ : ByteArray).size = ds.length := by show ds.toArray.size = _; simp
  rcases atoi_digs h1 h2 with ⟨g1, g2⟩ | ⟨g1, g2⟩
  · refine (Tryd.strconv_Atoi_ok ⟨ds.toArray⟩ (by rw [hz]; omega) _ g1 w).mono ?_
    rintro e w' ⟨rfl, hw⟩
    refine ⟨.inl ⟨g2, rfl⟩, ?_⟩
    rcases hw with rfl | ⟨t, rfl⟩
    · exact Below.refl _ _
    · exact Lib.bytesWorld_below w _ t
  · obtain ⟨ev, hv, hev⟩ := hV.ra
    refine (Tryd.strconv_Atoi_range ⟨ds.toArray⟩ (by rw [hz]; omega) g1 ev w hv hev).mono ?_
    rintro e w' ⟨N, rfl, _, _, hb⟩
    exact ⟨.inr ⟨g2, _, _, _, rfl⟩, hb⟩
end Go.Proofs.YtbjnpiaooehmjaaDoor
