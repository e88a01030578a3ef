/- Contracts: lengths, Check and Offcut of the reference. -/
import Derived.Test.YtlgepggmgfnneaaBarH
namespace Go.Proofs.Ytlgepggmgfnneaa
open Go.RowKit

/-- a part put into a new box -/
theorem boxed_part (w : World) (p : PartD) : Below w.heap.size w ((w.alloc (.cells #[.string ⟨#[]⟩, .int .i64 0, .int .i64 0, .string ⟨#[]⟩, .string ⟨#[]⟩, .int .i64 0, .slice none 0 0, .slice none 0 0, .string ⟨#[]⟩, .int .i64 0, .int .i64 0, .int .i64 0, .int .i64 0, .int .i64 0, .int .i64 0, .int .i64 0, .int .i64 0, .int .i64 0] 58)).setRow w.heap.size p.arr) ∧ ∀ j, j < 18 → ((w.alloc (.cells #[.string ⟨#[]⟩, .int .i64 0, .int .i64 0, .string ⟨#[]⟩, .string ⟨#[]⟩, .int .i64 0, .slice none 0 0, .slice none 0 0, .string ⟨#[]⟩, .int .i64 0, .int .i64 0, .int .i64 0, .int .i64 0, .int .i64 0, .int .i64 0, .int .i64 0, .int .i64 0, .int .i64 0] 58)).setRow w.heap.size p.arr).cell? ⟨w.heap.size, j, none⟩ = some (p.cell j) := by
  refine ⟨below_setRow ((Below.refl _ _).alloc (Nat.le_refl _) _) (Nat.le_refl _) _, fun j hj => ?_⟩
  rw [cell_setRow_same _ _ _ _ _ _ _ (heap_alloc_new w _)]
  have : p.arr.toList[j]? = some (p.cell j) := by
    have hl : j < p.arr.toList.length := by simpa [PartD.arr] using hj
    have h1 := List.getElem?_eq_getElem hl
    rw [h1]
    have h2 := (p.arr_at j _ h1).2
    rw [h2]
  simpa using this

theorem SI_one' {w : World} {n : Nat} (h : n = w.heap.size) (x : Int) (e : TypeId) : SI (w.alloc (.cells #[.int .i64 x] e)) (.slice (some ⟨n, 0, none⟩) 1 1) [x] := by
  subst h; exact SI_one w x e

set_option maxHeartbeats 1000000 in
theorem lengths_any (v vp : Value) (s : SawD) (ps : List PartD) (w : World) (hs : SStr w v s.parts) (hp : SP w vp ps) (hl : s.parts.length ≤ 24) (hx : ∀ j, j < s.parts.length → 0 ≤ idxOf ps (si s.parts j)) :
    Calls Try.prog 28 #[s.agg v, vp] w (RetI w (lensOf ps s.parts)) := by
  have HP := Lib.hid hp
  have HX := Lib.hid hx
  obtain ⟨a, cap, rfl, h1, h2, h3⟩ := hs
  have H3 := Lib.hid h3; clear h3 hx
  obtain ⟨ap, capp, rfl, p1, p2, p3⟩ := hp
  have PA := Lib.hid p3; clear p3 p1 p2
  have HB0 := Lib.hid ((Below.refl w.heap.size w).alloc (Nat.le_refl _) (.cells #[.string s.bar, .int .i64 s.kerf, .slice a s.parts.length cap] 24))
  have HC2 : Hid ((w.alloc (.cells #[.string s.bar, .int .i64 s.kerf, .slice a s.parts.length cap] 24)).cell? ⟨w.heap.size, 2, none⟩ = some (.slice a s.parts.length cap)) := by show _ = _; simp
  unfold SawD.agg
  go_enter Try.func28, Try.ntmps28
  go_wp2_with fail
  generalize w.alloc (.cells #[.string s.bar, .int .i64 s.kerf, .slice a s.parts.length cap] 24) = w0 at *
  go_loopw [5, 6] (fun o i wr => ∃ k : Nat, k ≤ s.parts.length ∧ i = .int .i64 k ∧ Hid (Below w0.heap.size w0 wr) ∧ Hid (OwnI wr w0.heap.size o (lensOf ps (s.parts.take k)))) (fun _ i _ => s.parts.length - (intOf i).toNat)
  case atStart => exact ⟨0, Nat.zero_le _, rfl, Below.refl _ _, OwnI_nil _ _⟩
  case round =>
    obtain ⟨k, hk, rfl, hbw, how⟩ := hrel
    have HBW := Lib.hid (HB0.out.trans (hbw.out.mono HB0.out.size))
    have c2 := cell_keep hbw.out HC2.out
    by_cases hlt : k < s.parts.length
    · obtain ⟨b1, o1, ha, hc⟩ := H3.out k hlt
      have cs := cell_keep HBW.out hc
      have HXK := Lib.hid (HX.out k hlt)
      have HLS := Lib.hid (lensOf_succ (ps := ps) hlt)
      generalize si s.parts k = id at *
      clear hc
      rw [ha] at c2 ⊢
      clear ha
      go_wp2_with fail
      refine (find_any _ ps id _ (HP.out.keep HBW.out)).mono ?_
      rintro e w1 ⟨hb1, hr⟩
      have HB1 := Lib.hid hb1
      obtain ⟨t, ht, htl, rfl⟩ : ∃ t : Nat, idxOf ps id = t ∧ t < ps.length ∧ e = .returned (.tuple #[(pi ps t).agg, .bool true]) := by
        rcases hr with ⟨h, _⟩ | h
        · have := HXK.out; omega
        · exact h
      clear hr hb1 c2 cs
      have HPT : Hid (partOf ps id = pi ps t) := by show _ = _; rw [partOf, ht]; rfl
      have HONE := Lib.hid (PA.out t htl).1
      rw [HPT.out] at HLS
      clear ht
      generalize pi ps t = x at *
      have HBP := Lib.hid (boxed_part w1 x)
      have HNEW := Lib.hid (heap_alloc_new w1 (.cells #[.string ⟨#[]⟩, .int .i64 0, .int .i64 0, .string ⟨#[]⟩, .string ⟨#[]⟩, .int .i64 0, .slice none 0 0, .slice none 0 0, .string ⟨#[]⟩, .int .i64 0, .int .i64 0, .int .i64 0, .int .i64 0, .int .i64 0, .int .i64 0, .int .i64 0, .int .i64 0, .int .i64 0] 58))
      have hlk : (lensOf ps (s.parts.take k)).length ≤ 24 := by simp [lensOf]; omega
      have c9 : ((w1.alloc (.cells #[.string ⟨#[]⟩, .int .i64 0, .int .i64 0, .string ⟨#[]⟩, .string ⟨#[]⟩, .int .i64 0, .slice none 0 0, .slice none 0 0, .string ⟨#[]⟩, .int .i64 0, .int .i64 0, .int .i64 0, .int .i64 0, .int .i64 0, .int .i64 0, .int .i64 0, .int .i64 0, .int .i64 0] 58)).setRow w1.heap.size x.arr).cell? ⟨w1.heap.size, 9, none⟩ = some (.int .i64 x.len) := HBP.out.2 9 (by omega)
      have HBQ := Lib.hid (hbw.out.trans ((HB1.out.trans (HBP.out.1.mono HB1.out.size)).mono hbw.out.size))
      have HOW := Lib.hid (how.out.below (HB1.out.trans (HBP.out.1.mono HB1.out.size)))
      have hq : w0.heap.size ≤ ((w1.alloc (.cells #[.string ⟨#[]⟩, .int .i64 0, .int .i64 0, .string ⟨#[]⟩, .string ⟨#[]⟩, .int .i64 0, .slice none 0 0, .slice none 0 0, .string ⟨#[]⟩, .int .i64 0, .int .i64 0, .int .i64 0, .int .i64 0, .int .i64 0, .int .i64 0, .int .i64 0, .int .i64 0, .int .i64 0] 58)).setRow w1.heap.size x.arr).heap.size := HBQ.out.size
      unfold PartD.agg
      go_wp2_with (first
        | (refine wpList_store_row (o := ⟨none, .store _ _ _, _, _, _, _⟩) rfl 58 (.tmp 7) (.tmp 24) rfl w1.heap.size x.arr rfl rfl 58 _ HNEW.out part_info rfl HONE.out ?_)
        | (at_builtin; refine wpList_app_int rfl (.tmp 26) (.tmp 29) rfl w0.heap.size _ _ (lensOf ps (s.parts.take k)) [x.len] rfl rfl (HOW.out.alloc _) (SI_one' (by simp) _ _) (by simp; omega) (by have := HBQ.out.size; simp at this ⊢; omega) ?_))
      intro va wa hoa hga _
      have hba : Below w0.heap.size w0 wa := (HBQ.out.alloc HBQ.out.size _).grown hga (by have := HBQ.out.size; simp at this ⊢; omega) (fun k hk => (World.ownsRow.lt HOW.out k hk).1)
      rw [← HLS.out] at hoa
      have HO := Lib.hid hoa
      have HBA := Lib.hid hba
      clear hoa hba hga c9 hq
      go_wp2_with fail
      go_roundw
      case rel => exact ⟨k + 1, by omega, by go_num, HBA, HO⟩
      case measure => simp [intOf]; omega
    · obtain rfl : k = s.parts.length := by omega
      have HO := how.out.si
      rw [List.take_length] at HO
      have HOO := Lib.hid HO
      clear HO how
      go_wp2_with fail
      go_ret
      exact ⟨_, rfl, HOO.out, HBW.out⟩
end Go.Proofs.Ytlgepggmgfnneaa
