/- Contracts: find, lengths, Check and Offcut of the reference. -/
import Derived.Test.YtlgepggmgfnneaaBarG
import Derived.Laws.CopyOwn
namespace Go.Proofs.Ytlgepggmgfnneaa
open Go.RowKit

/-- the zero part -/
def zeroPart : PartD := ⟨⟨#[]⟩, ⟨#[]⟩, ⟨#[]⟩, 0, 0, fun j => if j = 3 then .string ⟨#[]⟩ else if j = 6 ∨ j = 7 then .slice none 0 0 else .int .i64 0⟩
theorem zero_arr : zeroPart.arr = #[.string ⟨#[]⟩, .int .i64 0, .int .i64 0, .string ⟨#[]⟩, .string ⟨#[]⟩, .int .i64 0, .slice none 0 0, .slice none 0 0, .string ⟨#[]⟩, .int .i64 0, .int .i64 0, .int .i64 0, .int .i64 0, .int .i64 0, .int .i64 0, .int .i64 0, .int .i64 0, .int .i64 0] := rfl
theorem part_info : (Try.prog.info? 58).map (·.size) = some 18 := by kernel_rfl
theorem results_part {w : World} {tmps : Array Value} {b : Bool} {g : Nat} {cs : Array Value} (hcs : cs.size = 18) (hp : tmps.getD 4 undef = .pointer (some ⟨g, 0, none⟩)) (hb : tmps.getD 5 undef = .bool b) (hg : w.heap[g]? = some (.cells cs 58 (0, 0))) :
    (results Try.f29 tmps).run Try.prog w = .ok (.tuple #[.agg cs, .bool b]) w := by
  have hp' : tmps[4]?.getD undef = .pointer (some ⟨g, 0, none⟩) := by simpa using hp
  have hb' : tmps[5]?.getD undef = .bool b := by simpa using hb
  simp [results, Try.results29, hp', hb', asAddr, run_loadVar_row (P := Try.prog) w g 58 58 cs (0, 0) _ hg Try.underlying58 rfl (by rw [hcs]; exact part_info)]

/-- It returns the part with an identifier, if there is one. -/
def RetPart (w : World) (ps : List PartD) (id : ByteArray) (e : Ending) (w' : World) : Prop :=
  Below w.heap.size w w' ∧ ((idxOf ps id = -1 ∧ e = .returned (.tuple #[zeroPart.agg, .bool false])) ∨ ∃ t : Nat, idxOf ps id = t ∧ t < ps.length ∧ e = .returned (.tuple #[(pi ps t).agg, .bool true]))

theorem idxOf_hit (ps : List PartD) (id : ByteArray) (k : Nat) (hk : k < ps.length) (h1 : ∀ j, j < k → ((pi ps j).id.toList == id.toList) = false) (h2 : ((pi ps k).id.toList == id.toList) = true) : idxOf ps id = k := findPt_hit _ ps k hk h1 h2
theorem idxOf_miss (ps : List PartD) (id : ByteArray) (h1 : ∀ j, j < ps.length → ((pi ps j).id.toList == id.toList) = false) : idxOf ps id = -1 := findPt_miss _ ps h1

set_option maxHeartbeats 1000000 in
theorem find_any (v : Value) (ps : List PartD) (id : ByteArray) (w : World) (h : SP w v ps) :
    Calls Try.prog 29 #[v, .string id] w (RetPart w ps id) := by
  obtain ⟨a, cap, rfl, h1, h2, h3⟩ := h
  have H3 := Lib.hid h3; clear h3
  have hm : ps.length ≤ 9223372036854775807 := by unfold maxLen at h2; omega
  go_enter Try.func29, Try.ntmps29
  go_wp2_with fail
  have HB0 := Lib.hid ((Below.refl w.heap.size w).alloc (Nat.le_refl _) (.cells #[.string ⟨#[]⟩, .int .i64 0, .int .i64 0, .string ⟨#[]⟩, .string ⟨#[]⟩, .int .i64 0, .slice none 0 0, .slice none 0 0, .string ⟨#[]⟩, .int .i64 0, .int .i64 0, .int .i64 0, .int .i64 0, .int .i64 0, .int .i64 0, .int .i64 0, .int .i64 0, .int .i64 0] 58))
  go_loop [6] (fun i => ∃ k : Nat, k ≤ ps.length ∧ i = .int .i64 k ∧ Hid (∀ j, j < k → ((pi ps j).id.toList == id.toList) = false)) (fun i => ps.length - (intOf i).toNat)
  case atStart => exact ⟨0, Nat.zero_le _, rfl, fun j hj => by omega⟩
  case round =>
    obtain ⟨k, hk, rfl, hj⟩ := hrel
    by_cases hlt : k < ps.length
    · obtain ⟨hone, b, off, ha, hc⟩ := H3.out k hlt
      rw [ha]
      have hc := fun j hj => cell_keep HB0.out (hc j hj)
      generalize hp : pi ps k = x at *
      have HP := Lib.hid hp
      have HC := Lib.hid hc
      have HONE := Lib.hid hone
      have c0 := hc 0 (by omega)
      simp only [PartD.cell, Nat.add_zero] at c0
      clear hc hp hone
      cases hx : x.id.toList == id.toList
      · have HJ := Lib.hid (upto hj.out (show ((pi ps k).id.toList == id.toList) = false by rw [HP.out]; exact hx))
        go_wp2_with fail
        go_round
        case rel => exact ⟨k + 1, by omega, by go_num, HJ⟩
        case measure => simp [intOf]; omega
      · have HI := Lib.hid (idxOf_hit ps id k hlt hj.out (by rw [HP.out]; exact hx))
        have HNEW := Lib.hid (heap_alloc_new w (.cells zeroPart.arr 58))
        rw [zero_arr] at HNEW
        go_wp2_with (first | (refine wpList_load_part (o := ⟨some 23, _, _, _, _, _⟩) rfl (.tmp 22) rfl b (off + k * 18) x rfl HC.out ?_) | (refine wpList_store_row (o := ⟨none, .store _ _ _, _, _, _, _⟩) rfl 58 (.tmp 4) (.tmp 23) rfl w.heap.size x.arr rfl rfl 58 _ HNEW.out part_info rfl HONE.out ?_))
        have HB := Lib.hid (below_setRow HB0.out (Nat.le_refl _) x.arr)
        exact bodyPost_ret (v := .tuple #[x.agg, .bool true]) (results_part rfl rfl rfl (setRow_heap _ _ _ _ _ _ HNEW.out)) rfl ⟨HB.out, .inr ⟨k, HI.out, hlt, by rw [HP.out]⟩⟩
    · have HI := Lib.hid (idxOf_miss ps id (fun j h => hj.out j (by omega)))
      have HNEW := Lib.hid (heap_alloc_new w (.cells zeroPart.arr 58))
      rw [zero_arr] at HNEW
      go_wp2_with (refine wpList_store_row (o := ⟨none, .store _ _ _, _, _, _, _⟩) rfl 58 (.tmp 4) (.tmp 24) rfl w.heap.size zeroPart.arr rfl rfl 58 _ HNEW.out part_info rfl rfl ?_)
      exact bodyPost_ret (v := .tuple #[zeroPart.agg, .bool false]) (results_part rfl rfl rfl HNEW.out) rfl ⟨HB0.out, .inl ⟨HI.out, rfl⟩⟩
end Go.Proofs.Ytlgepggmgfnneaa
