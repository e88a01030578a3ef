/- The reference's Parse, in plain Lean: what each of its checks says. -/
import Derived.Test.YtbjnpiaooehmjaaDoorCalV
namespace Go.Proofs.YtbjnpiaooehmjaaDoor
open Go.RowKit

theorem dsz (s : ByteArray) : s.data.toList.length = s.size := by simp
def bi (s : ByteArray) (j : Nat) : UInt8 := s.data.toList.getD j 0
theorem bi_eq (s : ByteArray) {j : Nat} (h : j < s.size) : s[j] = bi s j := by
  have h' : j < s.data.toList.length := by simpa using h
  unfold bi
  rw [List.getD_eq_getElem?_getD, List.getElem?_eq_getElem h']; rfl
theorem rp_split {x : UInt8} {t : List UInt8} {m : Nat} (h2 : m ≤ t.length) (hd : ∀ j, 1 ≤ j → j < m + 1 → digC ((x :: t).getD j 0) = true)
    (he : m = t.length ∨ digC ((x :: t).getD (m + 1) 0) = false) : t.takeWhile digC = t.take m ∧ t.dropWhile digC = t.drop m := by
  have hall : (t.take m).all digC = true := by
    rw [List.all_eq_true]
    intro c hc
    obtain ⟨j, hj, rfl⟩ := List.mem_iff_getElem.1 hc
    have hj' : j < m ∧ j < t.length := by simp at hj; omega
    have := hd (j + 1) (by omega) (by omega)
    rw [List.getD_cons_succ, List.getD_eq_getElem?_getD, List.getElem?_eq_getElem hj'.2] at this
    rw [List.getElem_take]; exact this
  by_cases e : m = t.length
  · subst e
    rw [List.take_length] at hall ⊢
    rw [List.drop_length]
    refine ⟨?_, (drop_all _ _).2 hall⟩
    have := List.takeWhile_append_dropWhile (p := digC) (l := t)
    rw [(drop_all _ _).2 hall, List.append_nil] at this
    exact this
  · have hlt : m < t.length := by omega
    have hf : digC t[m] = false := by
      rcases he with he | he
      · exact absurd he e
      · rw [List.getD_cons_succ, List.getD_eq_getElem?_getD, List.getElem?_eq_getElem hlt] at he; exact he
    have hs : t = t.take m ++ t[m] :: t.drop (m + 1) := by rw [← List.drop_eq_getElem_cons hlt, List.take_append_drop]
    obtain ⟨e1, e2⟩ := span_digits (r := t.drop (m + 1)) hall hf
    rw [← hs] at e1 e2
    exact ⟨e1, by rw [e2, ← List.drop_eq_getElem_cons hlt]⟩
/-- where the digits of a text end -/
structure RE (s : ByteArray) (k : Nat) : Prop where
  h1 : 1 ≤ k
  h2 : k ≤ s.size ∨ k = 1
  hd : ∀ j, 1 ≤ j → j < k → digC (bi s j) = true
  he : s.size ≤ k ∨ digC (bi s k) = false
theorem RE.split {s : ByteArray} {k : Nat} (h : RE s k) {x : UInt8} {t : List UInt8} (hl : s.data.toList = x :: t) : t.takeWhile digC = t.take (k - 1) ∧ t.dropWhile digC = t.drop (k - 1) ∧ k ≤ t.length + 1 ∧ s.size = t.length + 1 := by
  obtain ⟨h1, h2, hd, he⟩ := h
  have hz : s.size = t.length + 1 := by rw [← dsz, hl, List.length_cons]
  obtain ⟨m, rfl⟩ : ∃ m, k = m + 1 := ⟨k - 1, by omega⟩
  unfold bi at hd he
  rw [hl] at hd he
  have hm : m ≤ t.length := by omega
  obtain ⟨e1, e2⟩ := rp_split hm hd (he.imp (fun h => by omega) id)
  exact ⟨e1, e2, by omega, hz⟩
theorem RE.cons {s : ByteArray} (h : s.size ≠ 0) : ∃ t, s.data.toList = bi s 0 :: t := by
  cases hl : s.data.toList with
  | nil => exact absurd (show s.size = 0 by rw [← dsz, hl]; rfl) h
  | cons x t => exact ⟨t, by unfold bi; rw [hl]; rfl⟩
theorem RE.short {s : ByteArray} {k : Nat} (h : RE s k) (hk : k < 2) : parseP s.data.toList = none := by
  by_cases h0 : s.size = 0
  · rw [List.eq_nil_of_length_eq_zero (show s.data.toList.length = 0 by rw [dsz]; exact h0)]; rfl
  · obtain ⟨t, hl⟩ := RE.cons h0
    obtain ⟨e1, _⟩ := h.split hl
    rw [hl]
    refine parse_short ?_
    rw [e1, show k - 1 = 0 by omega]; rfl
theorem RE.pos {s : ByteArray} {k : Nat} (h : RE s k) (hk : ¬ k < 2) : s.size ≠ 0 := by have := h.h2; omega
theorem RE.first {s : ByteArray} {k : Nat} (h : RE s k) (hk : ¬ k < 2) (h0 : bi s 0 ≠ 119) : parseP s.data.toList = none := by
  obtain ⟨t, hl⟩ := RE.cons (h.pos hk)
  rw [hl]; exact parse_first h0
theorem RE.zero {s : ByteArray} {k : Nat} (h : RE s k) (hk : 2 < k) (h0 : bi s 1 = 48) : parseP s.data.toList = none := by
  obtain ⟨t, hl⟩ := RE.cons (h.pos (by omega))
  obtain ⟨e1, e2, e3, e4⟩ := h.split hl
  have h1 : bi s 1 = t.getD 0 0 := by unfold bi; rw [hl]; rfl
  rw [hl]
  refine parse_zero ?_
  rw [e1]
  unfold plainD
  cases t with
  | nil => simp at e3; omega
  | cons y r =>
    rw [h1] at h0
    simp only [List.getD_cons_zero] at h0
    subst h0
    obtain ⟨q, hq⟩ : ∃ q, k - 1 = q + 1 := ⟨k - 2, by omega⟩
    rw [hq, List.take_succ_cons]
    simp at e3 ⊢
    refine ⟨by omega, ?_⟩
    rintro rfl
    simp at e3
    omega
theorem RE.len {s : ByteArray} {k : Nat} (h : RE s k) (hk : ¬ k < 2) (h0 : s.size ≠ k + 7) : parseP s.data.toList = none := by
  obtain ⟨t, hl⟩ := RE.cons (h.pos hk)
  obtain ⟨e1, e2, e3, e4⟩ := h.split hl
  rw [hl]
  refine parse_len ?_
  rw [e2, List.length_drop]
  omega
theorem RE.tail {s : ByteArray} {k : Nat} (h : RE s k) (hk : ¬ k < 2) (hw : bi s 0 = 119) (h0 : ¬ (2 < k ∧ bi s 1 = 48)) (hz : s.size = k + 7) :
    parseP s.data.toList = if tailB (bi s k) (bi s (k + 1)) (bi s (k + 2)) (bi s (k + 3)) (bi s (k + 4)) (bi s (k + 5)) (bi s (k + 6)) = true then
      some (168 * numL ((s.data.toList.drop 1).take (k - 1)) + 24 * ((bi s (k + 2)).toNat - 49) + (10 * ((bi s (k + 4)).toNat - 48) + ((bi s (k + 5)).toNat - 48))) else none := by
  obtain ⟨t, hl⟩ := RE.cons (h.pos hk)
  obtain ⟨e1, e2, e3, e4⟩ := h.split hl
  have hb : ∀ j, j < 7 → bi s (k + j) = (t.drop (k - 1)).getD j 0 := fun j hj => by
    unfold bi
    rw [hl, show k + j = (k - 1 + j) + 1 by omega, List.getD_cons_succ, List.getD_eq_getElem?_getD, List.getD_eq_getElem?_getD, List.getElem?_drop]
  have hlen : (t.drop (k - 1)).length = 7 := by rw [List.length_drop]; omega
  have h1 : bi s 1 = t.getD 0 0 := by unfold bi; rw [hl]; rfl
  have b0 := hb 0 (by omega)
  have b1 := hb 1 (by omega)
  have b2 := hb 2 (by omega)
  have b3 := hb 3 (by omega)
  have b4 := hb 4 (by omega)
  have b5 := hb 5 (by omega)
  have b6 := hb 6 (by omega)
  obtain ⟨r0, r1, r2, r3, r4, r5, r6, hr⟩ : ∃ r0 r1 r2 r3 r4 r5 r6, t.drop (k - 1) = [r0, r1, r2, r3, r4, r5, r6] := by
    cases hr : t.drop (k - 1) with
    | nil => rw [hr] at hlen; simp at hlen
    | cons a0 l0 => cases l0 with
      | nil => rw [hr] at hlen; simp at hlen
      | cons a1 l1 => cases l1 with
        | nil => rw [hr] at hlen; simp at hlen
        | cons a2 l2 => cases l2 with
          | nil => rw [hr] at hlen; simp at hlen
          | cons a3 l3 => cases l3 with
            | nil => rw [hr] at hlen; simp at hlen
            | cons a4 l4 => cases l4 with
              | nil => rw [hr] at hlen; simp at hlen
              | cons a5 l5 => cases l5 with
                | nil => rw [hr] at hlen; simp at hlen
                | cons a6 l6 => cases l6 with
                  | nil => exact ⟨_, _, _, _, _, _, _, rfl⟩
                  | cons a7 l7 => rw [hr] at hlen; simp at hlen
  rw [hr] at b0 b1 b2 b3 b4 b5 b6
  simp only [List.getD_cons_succ, List.getD_cons_zero, Nat.add_zero] at b0 b1 b2 b3 b4 b5 b6
  rw [b0, b1, b2, b3, b4, b5, b6, hl, List.drop_succ_cons, List.drop_zero, ← e1]
  refine parse_tail (by rw [e2, hr]) hw ?_ ?_
  · rw [e1]
    intro hn
    have := congrArg List.length hn
    rw [List.length_take, List.length_nil] at this
    omega
  · rw [e1]
    unfold plainD
    by_cases h3 : 2 < k
    · have : bi s 1 ≠ 48 := fun e => h0 ⟨h3, e⟩
      rw [h1] at this
      cases t with
      | nil => simp at e3; omega
      | cons y r =>
        simp only [List.getD_cons_zero] at this
        obtain ⟨q, hq⟩ : ∃ q, k - 1 = q + 1 := ⟨k - 2, by omega⟩
        rw [hq, List.take_succ_cons, List.headD_cons]
        simp [this]
    · have : (t.take (k - 1)).length = 1 := by rw [List.length_take]; omega
      rw [this]; rfl
theorem numL_mono : ∀ (ds : List UInt8) (n : Nat), numL (ds.take n) ≤ numL ds := by
  intro ds n
  have e : numL ds = foldN (numL (ds.take n)) (ds.drop n) := by
    unfold numL foldN
    rw [← List.foldl_append, List.take_append_drop]
  rw [e]; exact foldN_ge _ _
theorem numL_take {ds : List UInt8} {n : Nat} (h : n < ds.length) : numL (ds.take (n + 1)) = 10 * numL (ds.take n) + ((ds.getD n 0).toNat - 48) := by
  rw [List.take_succ_eq_append_getElem h, numL_snoc, List.getD_eq_getElem?_getD, List.getElem?_eq_getElem h]; rfl
theorem rp_none {l : List UInt8} (h : parseP l = none) : Ending.returned (.tuple #[.int .i64 0, .int .i64 5]) = .returned (.tuple #[.int .i64 (parseV l), .int .i64 (parseE l)]) := by
  unfold parseV parseE; rw [h]
theorem rp_some {l : List UInt8} {t : Nat} {x : Int} (h : parseP l = some t) (e : (t : Int) = x) (ht : x ≤ 1048576) : Ending.returned (.tuple #[.int .i64 x, .int .i64 0]) = .returned (.tuple #[.int .i64 (parseV l), .int .i64 (parseE l)]) := by
  subst e
  unfold parseV parseE; rw [h]; dsimp only; rw [if_pos (by omega), if_pos (by omega)]
theorem rp_late {l : List UInt8} {t : Nat} (h : parseP l = some t) (ht : 1048576 < t) : Ending.returned (.tuple #[.int .i64 0, .int .i64 9]) = .returned (.tuple #[.int .i64 (parseV l), .int .i64 (parseE l)]) := by
  unfold parseV parseE; rw [h]; dsimp only; rw [if_neg (by omega), if_neg (by omega)]
theorem u8_dig {c : UInt8} (h : digC c = true) : IntKind.u8.wrap ((c.toNat : Int) - 48) = ((c.toNat - 48 : Nat) : Int) := by
  obtain ⟨h1, h2⟩ := digC_range h
  rw [show (c.toNat : Int) - 48 = ((c.toNat - 48 : Nat) : Int) by omega]
  unfold IntKind.wrap
  simp [IntKind.signed, IntKind.bits]
  omega
theorem u8_sub {c : UInt8} {n : Nat} (h : n ≤ c.toNat) : IntKind.u8.wrap ((c.toNat : Int) - n) = ((c.toNat - n : Nat) : Int) := by
  have := c.toNat_lt
  rw [show (c.toNat : Int) - n = ((c.toNat - n : Nat) : Int) by omega]
  unfold IntKind.wrap
  simp [IntKind.signed, IntKind.bits]
  omega
theorem u8_eq {c : UInt8} {n : Nat} (hn : n < 256) : (c.toNat : Int) = n ↔ c = UInt8.ofNat n := by
  rw [← UInt8.toNat_inj, UInt8.toNat_ofNat', Nat.mod_eq_of_lt hn]
  omega
end Go.Proofs.YtbjnpiaooehmjaaDoor
