/- Contracts: parts, IsId, Split, Join, Same of the reference of ident. -/
import Derived.Test.YtlmfcigabojbmaaGreatDoorIdE
set_option linter.unusedSimpArgs false
set_option linter.unusedVariables false
namespace Go.Proofs.YtlmfcigabojbmaaGreatDoor
open Go.RowKit

theorem extract_list (s : ByteArray) (f k : Nat) : (s.extract f k).data.toList = (s.data.toList.take k).drop f := by
  rw [Lib.extract_data]; simp [List.extract, List.drop_take]
/-- what has been cut so far -/
def Cut (l : List UInt8) (ss : List ByteArray) (f k : Nat) : Prop :=
  (k ≤ l.length ∧ f ≤ k ∧ (∀ j, f ≤ j → j < k → l.getD j 0 ≠ 46) ∧ cutL l = bl ss ++ cutL (l.drop f)) ∨ (k = l.length + 1 ∧ bl ss = cutL l)
theorem Cut.start (l : List UInt8) : Cut l [] 0 0 := .inl ⟨Nat.zero_le _, Nat.le_refl _, fun j _ h => by omega, rfl⟩
theorem mid_plain {l : List UInt8} {f k : Nat} (h : ∀ j, f ≤ j → j < k → l.getD j 0 ≠ 46) (hk : k ≤ l.length) : ∀ c ∈ (l.take k).drop f, c ≠ 46 := by
  intro c hc
  obtain ⟨i, hi, rfl⟩ := List.mem_iff_getElem.1 hc
  simp only [List.length_drop, List.length_take] at hi
  have := h (f + i) (by omega) (by omega)
  rw [List.getD_eq_getElem?_getD, List.getElem?_eq_getElem (by omega)] at this
  simpa using this
theorem Cut.skip {l : List UInt8} {ss : List ByteArray} {f k : Nat} (h : Cut l ss f k) (hk : k < l.length) (hc : l.getD k 0 ≠ 46) : Cut l ss f (k + 1) := by
  rcases h with ⟨_, h2, h3, h4⟩ | ⟨h1, _⟩
  · refine .inl ⟨by omega, by omega, fun j h5 h6 => ?_, h4⟩
    by_cases e : j = k
    · subst e; exact hc
    · exact h3 j h5 (by omega)
  · omega
theorem Cut.dot {l : List UInt8} {ss : List ByteArray} {f k : Nat} {x : ByteArray} (h : Cut l ss f k) (hk : k < l.length) (hc : l.getD k 0 = 46) (hx : x.data.toList = (l.take k).drop f) : Cut l (ss ++ [x]) (k + 1) (k + 1) := by
  rcases h with ⟨_, h2, h3, h4⟩ | ⟨h1, _⟩
  · refine .inl ⟨by omega, Nat.le_refl _, fun j h5 h6 => by omega, ?_⟩
    have e : l.drop f = (l.take k).drop f ++ 46 :: l.drop (k + 1) := by
      have e1 : l = l.take k ++ l.drop k := (List.take_append_drop k l).symm
      have e2 : l.drop k = 46 :: l.drop (k + 1) := by
        rw [List.drop_eq_getElem_cons hk]
        rw [List.getD_eq_getElem?_getD, List.getElem?_eq_getElem hk] at hc
        rw [show l[k] = 46 from hc]
      have e3 : l.drop f = (l.take k ++ l.drop k).drop f := by rw [← e1]
      rw [e3, List.drop_append_of_le_length (by rw [List.length_take]; omega), e2]
    rw [h4, e, cut_append (mid_plain h3 (by omega))]
    simp [bl, hx]
  · omega
theorem Cut.last {l : List UInt8} {ss : List ByteArray} {f : Nat} {x : ByteArray} (h : Cut l ss f l.length) (hx : x.data.toList = (l.take l.length).drop f) : Cut l (ss ++ [x]) (l.length + 1) (l.length + 1) := by
  rcases h with ⟨_, h2, h3, h4⟩ | ⟨h1, _⟩
  · refine .inr ⟨rfl, ?_⟩
    rw [List.take_length] at hx
    have hp := mid_plain h3 (Nat.le_refl _)
    rw [List.take_length] at hp
    rw [h4, cut_plain hp]
    simp [bl, hx]
  · omega
theorem Cut.done {l : List UInt8} {ss : List ByteArray} {f k : Nat} (h : Cut l ss f k) (hk : l.length < k) : bl ss = cutL l := by
  rcases h with ⟨h1, _⟩ | ⟨_, h2⟩
  · omega
  · exact h2
theorem Cut.le {l : List UInt8} {ss : List ByteArray} {f k : Nat} (h : Cut l ss f k) (hk : k ≤ l.length) : f ≤ k := by
  rcases h with ⟨_, h2, _⟩ | ⟨h1, _⟩ <;> omega
theorem wpList_app_str {ops : Array Oper} {rest : List Oper} {o : Oper} {a : Act} {Q : Exit → Act → World → Prop} {w : World} (hw : Region.wanted o (yielded ops a.tmps) = true) (s x : Operand)
    (ho : o.op = .call { callee := .builtin .append, args := #[s, x], argTypes := #[30, 30] }) (B : Nat) (v : Value) (ss : List ByteArray) (hs : a.eval s = v) (hown : OwnZ w B v ss)
    (g c : Nat) (y : ByteArray) (hx : a.eval x = .slice (some ⟨g, 0, none⟩) 1 c) (hy : w.cell? ⟨g, 0, none⟩ = some (.string y)) (hlen : ss.length ≤ 2000000) (hb : B ≤ w.heap.size)
    (h : ∀ v' w', OwnZ w' B v' (ss ++ [y]) → w.grownBy w' v.ownBlock → (v'.ownBlock = v.ownBlock ∨ v'.ownBlock = some w.heap.size) → wpList Tryz.prog ops Q rest (a.put o.dst v') w') : wpList Tryz.prog ops Q (o :: rest) a w :=
  wpList_step fun K hK => by rw [if_pos hw]; exact wp_app_str s x ho B v ss hs hown g c y hx hy hlen hb fun v' w' h1 h2 h3 => hK _ _ (h v' w' h1 h2 h3)
theorem OwnZ_alloc {w : World} {B : Nat} {v : Value} {r : List ByteArray} (h : OwnZ w B v r) (o : Obj) : OwnZ (w.alloc o) B v r := World.ownsRow.alloc h o
theorem lit_str (w : World) (y : ByteArray) : (w.alloc (.cells #[.string y] 9)).cell? ⟨w.heap.size, 0, none⟩ = some (.string y) := by simp

set_option maxHeartbeats 1000000 in
theorem rparts_any (s : ByteArray) (w : World) (hs : s.size ≤ 1100000) : Calls Tryz.prog 62 #[.string s] w fun e w' => ∃ v ss, e = .returned v ∧ bl ss = cutL s.data.toList ∧ SZ w' v ss ∧ ss.length ≤ s.size + 1 ∧ Below w.heap.size w w' := by
  have hls := size_data s
  go_enter Tryz.func62, Tryz.ntmps62
  go_wp2_with fail
  go_loopg [3, 4, 5] (s.size + 1) (fun g o f i wr => ∃ (k fr : Nat) (ss : List ByteArray), k ≤ s.size + 1 ∧ i = .int .i64 k ∧ f = .int .i64 fr ∧ g = s.size + 1 - k ∧ ss.length ≤ k ∧ Hid (Cut s.data.toList ss fr k) ∧ Hid (Below w.heap.size w wr) ∧ Hid (OwnZ wr w.heap.size o ss))
  case atStart => exact ⟨0, 0, [], Nat.zero_le _, rfl, rfl, by omega, Nat.le_refl _, Cut.start _, Below.refl _ _, OwnZ_nil _ _⟩
  case round =>
    obtain ⟨k, fr, ss, hk, rfl, rfl, rfl, hsl, hcut, hbw, hown⟩ := hrel
    have hsw := hbw.out.size
    have hlt' : ∀ g, u3.ownBlock = some g → w.heap.size ≤ g := fun g hg => (World.ownsRow.lt hown.out g hg).1
    by_cases hle : k ≤ s.size
    · have hfk := hcut.out.le (by rw [hls]; exact hle)
      have HX := Lib.hid (extract_list s fr k)
      by_cases heq : k = s.size
      · subst heq
        have b1 : ((s.size : Int) == (s.size : Int)) = true := by simp
        have HL : Hid (Cut s.data.toList (ss ++ [s.extract fr s.size]) (s.size + 1) (s.size + 1)) := by
          have := Cut.last (x := s.extract fr s.size) (by have := hcut.out; rw [← hls] at this; exact this) (by rw [hls]; exact HX.out)
          rw [hls] at this; exact this
        clear hls hcut
        go_wp2_with (at_builtin; refine wpList_app_str rfl (.tmp 22) (.tmp 27) rfl w.heap.size u3 ss rfl (OwnZ_alloc hown.out _) wr.heap.size 1 (s.extract fr s.size) rfl (lit_str _ _) (by omega) (by simp; omega) ?_)
        intro va wa hoa hga _
        have hba : Below w.heap.size w wa := (hbw.out.alloc hsw _).grown hga (by simp; omega) hlt'
        have HO := Lib.hid hoa
        have HBA := Lib.hid hba
        clear hoa hba hga
        go_wp2_with fail
        go_roundg (s.size + 1 - (s.size + 1))
        case measure => omega
        case rel => exact ⟨s.size + 1, s.size + 1, ss ++ [s.extract fr s.size], Nat.le_refl _, by go_num, by go_num, rfl, by simp; omega, HL.out, HBA.out, HO.out⟩
      · have hlt : k < s.size := by omega
        have b1 : ((k : Int) == (s.size : Int)) = false := by rw [beq_eq_false_iff_ne]; omega
        have HGB := Lib.hid (getD_byte s hlt)
        have e46 : ((s[k]'hlt).toNat : Int) = 46 ↔ s[k]'hlt = 46 := by rw [← UInt8.toNat_inj]; show _ ↔ _ = 46; omega
        by_cases hd : ((s[k]'hlt).toNat : Int) = 46
        · have b2 : (((s[k]'hlt).toNat : Int) == 46) = true := by rw [hd]; rfl
          have HL : Hid (Cut s.data.toList (ss ++ [s.extract fr k]) (k + 1) (k + 1)) := Cut.dot hcut.out (by rw [hls]; exact hlt) (by rw [HGB.out]; exact e46.1 hd) HX.out
          clear hls hcut hd e46 heq
          go_wp2_with (at_builtin; refine wpList_app_str rfl (.tmp 22) (.tmp 27) rfl w.heap.size u3 ss rfl (OwnZ_alloc hown.out _) wr.heap.size 1 (s.extract fr k) rfl (lit_str _ _) (by omega) (by simp; omega) ?_)
          intro va wa hoa hga _
          have hba : Below w.heap.size w wa := (hbw.out.alloc hsw _).grown hga (by simp; omega) hlt'
          have HO := Lib.hid hoa
          have HBA := Lib.hid hba
          clear hoa hba hga
          go_wp2_with fail
          go_roundg (s.size + 1 - (k + 1))
          case measure => omega
          case rel => exact ⟨k + 1, k + 1, ss ++ [s.extract fr k], by omega, by go_num, by go_num, rfl, by simp; omega, HL.out, HBA.out, HO.out⟩
        · have b2 : (((s[k]'hlt).toNat : Int) == 46) = false := by rw [beq_eq_false_iff_ne]; exact hd
          have HL : Hid (Cut s.data.toList ss fr (k + 1)) := Cut.skip hcut.out (by rw [hls]; exact hlt) (by rw [HGB.out]; exact fun h => hd (e46.2 h))
          clear hls hcut hd e46 heq
          go_wp2_with fail
          go_roundg (s.size + 1 - (k + 1))
          case measure => omega
          case rel => exact ⟨k + 1, fr, ss, by omega, by go_num, rfl, rfl, by omega, HL.out, hbw.out, hown.out⟩
    · have HD := Lib.hid (hcut.out.done (by rw [hls]; omega))
      have HS := Lib.hid hown.out.sl
      clear hls hcut
      go_wp2_with fail
      go_ret
      exact ⟨_, ss, rfl, HD.out, HS.out, by omega, hbw.out⟩
end Go.Proofs.YtlmfcigabojbmaaGreatDoor
