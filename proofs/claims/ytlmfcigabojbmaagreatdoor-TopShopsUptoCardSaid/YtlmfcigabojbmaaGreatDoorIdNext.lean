/- A range over a string: what the next step gives, whatever the bytes. -/
import Derived.Laws.RangeString
import Derived.Lib.MapLaws
import Derived.Lib.RuneCount
set_option linter.unusedSimpArgs false
set_option linter.unusedVariables false
namespace Go.Proofs.YtlmfcigabojbmaaGreatDoor

theorem run_next_any {P : Program} (w : World) (s : ByteArray) (pos : Nat) (ty : TypeId) (h : pos < s.size) :
    (Instr.next (.pointer (some ⟨w.heap.size, 0, none⟩)) true ty).run P (w.iter s pos) = .ok (.tuple #[.bool true, .int .i64 pos, .int .i32 (Utf8.decode s pos).1]) (w.iter s (pos + (Utf8.decode s pos).2)) := by
  obtain ⟨r, n, e⟩ : ∃ r n, Utf8.decode s pos = (r, n) := ⟨_, _, rfl⟩
  simp only [Instr.next, getObj, setObj, Sem.run_bind, Sem.run, World.iter_heap, Result.andThen, h, if_true, e, World.iter_set]
  simp [goInt, Sem.run, World.iter_heap, World.iter_set]
/-- a byte beyond ASCII begins no ASCII rune -/
theorem decode_high (s : ByteArray) (pos : Nat) (h : pos < s.size) (ha : 128 ≤ (s[pos]'h).toNat) : 128 ≤ (Utf8.decode s pos).1 ∧ (Utf8.decode s pos).1 ≤ 1114111 := by
  have e : s.get! pos = s[pos]'h := by
    simp [ByteArray.get!, getElem!_pos, h]
    rfl
  rw [Go.Lib.decode_at, e]
  have hb := (s[pos]'h).toNat_lt
  have hs := Go.Lib.decodeN_shape (s.size - pos) (s[pos]'h).toNat (s.get! (pos + 1)).toNat (s.get! (pos + 2)).toNat (s.get! (pos + 3)).toNat
  rcases hs with h1 | h1 | h1 | h1 | h1
  · omega
  · obtain ⟨a, b, c, d, e⟩ := h1; rw [e]; omega
  · obtain ⟨a, b, c, d, f, g, e⟩ := h1; rw [e]; omega
  · obtain ⟨a, b, c, d, f, g, i, e⟩ := h1; rw [e]; omega
  · rw [h1]; omega
end Go.Proofs.YtlmfcigabojbmaaGreatDoor
