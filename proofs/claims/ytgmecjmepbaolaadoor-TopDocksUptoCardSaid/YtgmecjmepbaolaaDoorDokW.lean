/- Contracts: with of dock's reference, from of dock. -/
import Derived.Test.YtgmecjmepbaolaaDoorDokO
import Derived.Test.YtgmecjmepbaolaaDoorApp
set_option linter.unusedSimpArgs false
set_option linter.unusedVariables false
namespace Go.Proofs.YtgmecjmepbaolaaDoor
open Go.RowKit

def wPut (xs : List Int) (n : Int) : Nat → Bool
  | 0 => false
  | k + 1 => wPut xs n k || decide (n ≤ gi xs k)
def wOut (xs : List Int) (n : Int) : Nat → List Int
  | 0 => []
  | k + 1 => (if wPut xs n k = false ∧ n < gi xs k then wOut xs n k ++ [n] else wOut xs n k) ++ [gi xs k]
def withL (xs : List Int) (n : Int) : List Int := if wPut xs n xs.length = true then wOut xs n xs.length else wOut xs n xs.length ++ [n]
theorem wOut_len (xs : List Int) (n : Int) (k : Nat) : (wOut xs n k).length ≤ k + 1 ∧ (wPut xs n k = false → (wOut xs n k).length = k) := by
  induction k with
  | zero => exact ⟨by simp [wOut], fun _ => rfl⟩
  | succ k ih =>
    have h2 : wPut xs n (k + 1) = (wPut xs n k || decide (n ≤ gi xs k)) := rfl
    unfold wOut
    cases hp : wPut xs n k with
    | true =>
      rw [if_neg (by simp)]
      refine ⟨by rw [List.length_append]; have := ih.1; simp; omega, fun h => ?_⟩
      rw [h2, hp] at h; cases h
    | false =>
      have := ih.2 hp
      by_cases h1 : n < gi xs k
      · rw [if_pos ⟨rfl, h1⟩]
        refine ⟨by simp; omega, fun h => ?_⟩
        rw [h2, hp, decide_eq_true (by omega)] at h; cases h
      · rw [if_neg (by omega)]
        exact ⟨by simp; omega, fun _ => by simp; omega⟩
theorem withL_len (xs : List Int) (n : Int) : (withL xs n).length ≤ xs.length + 1 := by
  have := wOut_len xs n xs.length
  unfold withL
  split
  · exact this.1
  · rename_i h; rw [List.length_append, this.2 (by simpa using h)]; simp
theorem wOut_mem (xs : List Int) (n x : Int) (k : Nat) : x ∈ wOut xs n k ↔ (∃ j, j < k ∧ gi xs j = x) ∨ (x = n ∧ wPut xs n k = true) := by
  induction k with
  | zero => simp [wOut, wPut]
  | succ k ih =>
    have e1 : (∃ j, j < k + 1 ∧ gi xs j = x) ↔ (∃ j, j < k ∧ gi xs j = x) ∨ gi xs k = x := by
      constructor
      · rintro ⟨j, hj, h⟩
        by_cases e : j = k
        · subst e; exact .inr h
        · exact .inl ⟨j, by omega, h⟩
      · rintro (⟨j, hj, h⟩ | h)
        · exact ⟨j, by omega, h⟩
        · exact ⟨k, by omega, h⟩
    have h2 : wPut xs n (k + 1) = (wPut xs n k || decide (n ≤ gi xs k)) := rfl
    rw [e1, h2]
    unfold wOut
    rw [List.mem_append, List.mem_singleton]
    cases hp : wPut xs n k with
    | true =>
      rw [if_neg (by simp), ih, hp]
      constructor
      · rintro ((h | h) | h)
        · exact .inl (.inl h)
        · exact .inr ⟨h.1, rfl⟩
        · exact .inl (.inr h.symm)
      · rintro ((h | h) | h)
        · exact .inl (.inl h)
        · exact .inr h.symm
        · exact .inl (.inr ⟨h.1, rfl⟩)
    | false =>
      by_cases h1 : n < gi xs k
      · rw [if_pos ⟨rfl, h1⟩, List.mem_append, List.mem_singleton, ih, hp, decide_eq_true (by omega)]
        constructor
        · rintro (((h | h) | h) | h)
          · exact .inl (.inl h)
          · cases h.2
          · exact .inr ⟨h, rfl⟩
          · exact .inl (.inr h.symm)
        · rintro ((h | h) | h)
          · exact .inl (.inl (.inl h))
          · exact .inr h.symm
          · exact .inl (.inr h.1)
      · rw [if_neg (by omega), ih, hp]
        constructor
        · rintro ((h | h) | h)
          · exact .inl (.inl h)
          · cases h.2
          · exact .inl (.inr h.symm)
        · rintro ((h | h) | h)
          · exact .inl (.inl h)
          · exact .inr h.symm
          · obtain ⟨h3, h4⟩ := h
            simp only [Bool.false_or, decide_eq_true_eq] at h4
            exact .inr (by omega)
theorem withL_mem {xs : List Int} {n x : Int} : x ∈ withL xs n ↔ x ∈ xs ∨ x = n := by
  have e : (∃ j, j < xs.length ∧ gi xs j = x) ↔ x ∈ xs := ⟨fun ⟨j, hj, h⟩ => by rw [← h]; exact gi_mem hj, fun h => mem_gi h⟩
  unfold withL
  split
  · rename_i h; rw [wOut_mem, e, h]; simp
  · rename_i h
    rw [List.mem_append, List.mem_singleton, wOut_mem, e]
    constructor
    · rintro ((h1 | h1) | h1)
      · exact .inl h1
      · exact .inr h1.1
      · exact .inr h1
    · rintro (h1 | h1)
      · exact .inl (.inl h1)
      · exact .inr h1
def RetO (w : World) (xs : List Int) (e : Ending) (w' : World) : Prop := ∃ v, e = .returned v ∧ OwnI w' w.heap.size v xs ∧ Below w.heap.size w w'
theorem grown_below {w wr w' : World} {v : Value} (hb : Below w.heap.size w wr) (hown : ∀ q, v.ownBlock = some q → w.heap.size ≤ q) (o : Obj) (hg : (wr.alloc o).grownBy w' v.ownBlock) : Below w.heap.size w w' :=
  (hb.alloc hb.size _).grown hg (by have := hb.size; simp; omega) hown
set_option maxRecDepth 100000 in
set_option maxHeartbeats 1000000 in
theorem with_any (v : Value) (xs : List Int) (n : Int) (w : World) (h : SI w v xs) (hn : xs.length ≤ 100000) : Calls Tryd.prog 24 #[v, .int .i64 n] w (RetO w (withL xs n)) := by
  obtain ⟨a, cap, rfl, h1, h2, h3⟩ := h
  have H3 := Lib.hid h3; clear h3
  have hm : xs.length ≤ 9223372036854775807 := by omega
  go_enter Tryd.func24, Tryd.ntmps24
  go_wp2_with fail
  go_loopw [5, 6, 7] (fun s p i wr => ∃ k : Nat, k ≤ xs.length ∧ i = .int .i64 k ∧ p = .bool (wPut xs n k) ∧ Hid (Below w.heap.size w wr) ∧ Hid (OwnI wr w.heap.size s (wOut xs n k))) (fun _ _ i _ => xs.length - (intOf i).toNat)
  case atStart => exact ⟨0, Nat.zero_le _, rfl, rfl, Lib.hid (Below.refl _ _), OwnI_nil _ _⟩
  case round =>
    obtain ⟨k, hk, rfl, rfl, hb, ho⟩ := hrel
    have HP : Hid (wPut xs n (k + 1) = (wPut xs n k || decide (n ≤ gi xs k))) := rfl
    have HLEN := Lib.hid (wOut_len xs n k)
    by_cases hlt : k < xs.length
    · obtain ⟨b, off, rfl, hc0⟩ := H3.out k hlt
      have hc := cell_keep hb.out hc0
      have HCC := Lib.hid hc0
      clear hc0
      have hbz : w.heap.size ≤ wr.heap.size := hb.out.size
      have HW : Hid (wOut xs n (k + 1) = (if wPut xs n k = false ∧ n < gi xs k then wOut xs n k ++ [n] else wOut xs n k) ++ [gi xs k]) := rfl
      by_cases hp : wPut xs n k = true
      · have HP2 : Hid (wPut xs n (k + 1) = true) := by show _ = _; rw [HP.out, hp]; rfl
        have HC : Hid (¬ (wPut xs n k = false ∧ n < gi xs k)) := by show ¬ _; rw [hp]; simp
        rw [hp]
        clear hp
        have HOA := Lib.hid (ho.out.alloc (.cells #[.int .i64 (gi xs k)] 3))
        have HSA := Lib.hid (SI_one wr (gi xs k) 3)
        have HL1 : Hid ((wOut xs n k).length + ([gi xs k] : List Int).length ≤ 100000000) := by show _ ≤ _; have := HLEN.out.1; simp; omega
        go_wp2_with (at_builtin; refine wpList_app_int rfl (.tmp 34) (.tmp 39) rfl w.heap.size _ _ (wOut xs n k) [gi xs k] rfl rfl HOA.out HSA.out HL1.out ?c4 ?_)
        case c4 => first | omega | (simp; omega)
        intro v' w' ho' hg' _
        have HB' := Lib.hid (grown_below hb.out (fun q hq => (World.ownsRow.lt ho.out q hq).1) _ hg')
        have HO' : Hid (OwnI w' w.heap.size v' (wOut xs n (k + 1))) := by show _; rw [HW.out, if_neg HC.out]; exact ho'
        clear ho' hg' hc
        go_wp2_with fail
        go_roundw
        case rel => exact ⟨k + 1, by omega, by go_num, by rw [HP2.out], HB', HO'⟩
        case measure => simp [intOf]; omega
      have hpf : wPut xs n k = false := by cases hq : wPut xs n k with | false => rfl | true => exact absurd hq hp
      have HPF := Lib.hid hpf
      rw [hpf]
      clear hp hpf
      by_cases hle : n ≤ gi xs k
      rotate_left
      · have HP2 : Hid (wPut xs n (k + 1) = false) := by show _ = _; rw [HP.out, HPF.out, decide_eq_false hle]; rfl
        have HC : Hid (¬ (wPut xs n k = false ∧ n < gi xs k)) := fun h => by omega
        have HOA := Lib.hid (ho.out.alloc (.cells #[.int .i64 (gi xs k)] 3))
        have HSA := Lib.hid (SI_one wr (gi xs k) 3)
        have HL1 : Hid ((wOut xs n k).length + ([gi xs k] : List Int).length ≤ 100000000) := by show _ ≤ _; have := HLEN.out.1; simp; omega
        go_wp2_with (at_builtin; refine wpList_app_int rfl (.tmp 34) (.tmp 39) rfl w.heap.size _ _ (wOut xs n k) [gi xs k] rfl rfl HOA.out HSA.out HL1.out ?c4 ?_)
        case c4 => first | omega | (simp; omega)
        intro v' w' ho' hg' _
        have HB' := Lib.hid (grown_below hb.out (fun q hq => (World.ownsRow.lt ho.out q hq).1) _ hg')
        have HO' : Hid (OwnI w' w.heap.size v' (wOut xs n (k + 1))) := by show _; rw [HW.out, if_neg HC.out]; exact ho'
        clear ho' hg' hc
        go_wp2_with fail
        go_roundw
        case rel => exact ⟨k + 1, by omega, by go_num, by rw [HP2.out], HB', HO'⟩
        case measure => simp [intOf]; omega
      by_cases hlt2 : n < gi xs k
      rotate_left
      · have HP2 : Hid (wPut xs n (k + 1) = true) := by show _ = _; rw [HP.out, HPF.out, decide_eq_true hle]; rfl
        have HC : Hid (¬ (wPut xs n k = false ∧ n < gi xs k)) := fun h => by omega
        have HOA := Lib.hid (ho.out.alloc (.cells #[.int .i64 (gi xs k)] 3))
        have HSA := Lib.hid (SI_one wr (gi xs k) 3)
        have HL1 : Hid ((wOut xs n k).length + ([gi xs k] : List Int).length ≤ 100000000) := by show _ ≤ _; have := HLEN.out.1; simp; omega
        go_wp2_with (at_builtin; refine wpList_app_int rfl (.tmp 34) (.tmp 39) rfl w.heap.size _ _ (wOut xs n k) [gi xs k] rfl rfl HOA.out HSA.out HL1.out ?c4 ?_)
        case c4 => first | omega | (simp; omega)
        intro v' w' ho' hg' _
        have HB' := Lib.hid (grown_below hb.out (fun q hq => (World.ownsRow.lt ho.out q hq).1) _ hg')
        have HO' : Hid (OwnI w' w.heap.size v' (wOut xs n (k + 1))) := by show _; rw [HW.out, if_neg HC.out]; exact ho'
        clear ho' hg' hc
        go_wp2_with fail
        go_roundw
        case rel => exact ⟨k + 1, by omega, by go_num, by rw [HP2.out], HB', HO'⟩
        case measure => simp [intOf]; omega
      · have HP2 : Hid (wPut xs n (k + 1) = true) := by show _ = _; rw [HP.out, HPF.out, decide_eq_true hle]; rfl
        have HOA := Lib.hid (ho.out.alloc (.cells #[.int .i64 n] 3))
        have HSA := Lib.hid (SI_one wr n 3)
        have HL1 : Hid ((wOut xs n k).length + ([n] : List Int).length ≤ 100000000) := by show _ ≤ _; have := HLEN.out.1; simp; omega
        go_wp2_with (at_builtin; refine wpList_app_int rfl (.tmp 30) (.tmp 32) rfl w.heap.size _ _ (wOut xs n k) [n] rfl rfl HOA.out HSA.out HL1.out ?c4 ?_)
        case c4 => first | omega | (simp; omega)
        intro v1 w1 ho1 hg1 _
        have HB1 := Lib.hid (grown_below hb.out (fun q hq => (World.ownsRow.lt ho.out q hq).1) _ hg1)
        have HO1 := Lib.hid ho1
        have hc := cell_keep HB1.out (show w.cell? ⟨b, off + k, none⟩ = some (.int .i64 (gi xs k)) from HCC.out)
        have hbz1 : w.heap.size ≤ w1.heap.size := HB1.out.size
        clear ho1 hg1
        have HOB := Lib.hid (HO1.out.alloc (.cells #[.int .i64 (gi xs k)] 3))
        have HSB := Lib.hid (SI_one w1 (gi xs k) 3)
        have HL2 : Hid ((wOut xs n k ++ [n]).length + ([gi xs k] : List Int).length ≤ 100000000) := by show _ ≤ _; have := HLEN.out.1; simp; omega
        go_wp2_with (at_builtin; refine wpList_app_int rfl (.tmp 34) (.tmp 39) rfl w.heap.size _ _ (wOut xs n k ++ [n]) [gi xs k] rfl rfl HOB.out HSB.out HL2.out ?c5 ?_)
        case c5 => first | omega | (simp; omega)
        intro v' w' ho' hg' _
        have HB' := Lib.hid (grown_below HB1.out (fun q hq => (World.ownsRow.lt HO1.out q hq).1) _ hg')
        have HO' : Hid (OwnI w' w.heap.size v' (wOut xs n (k + 1))) := by show _; rw [HW.out, if_pos ⟨HPF.out, hlt2⟩, List.append_assoc]; exact ho'
        clear ho' hg' hc
        go_wp2_with fail
        go_roundw
        case rel => exact ⟨k + 1, by omega, by go_num, by rw [HP2.out], HB', HO'⟩
        case measure => simp [intOf]; omega
    · obtain rfl : k = xs.length := by omega
      have hbz : w.heap.size ≤ wr.heap.size := hb.out.size
      by_cases hp : wPut xs n xs.length = true
      · have HV : Hid (withL xs n = wOut xs n xs.length) := by show _ = _; unfold withL; rw [if_pos hp]
        rw [hp]
        clear hp
        go_wp2_with fail
        go_ret
        exact ⟨_, rfl, by rw [HV.out]; exact ho.out, hb.out⟩
      · have HV : Hid (withL xs n = wOut xs n xs.length ++ [n]) := by show _ = _; unfold withL; rw [if_neg hp]
        have hpf : wPut xs n xs.length = false := by cases hq : wPut xs n xs.length with | false => rfl | true => exact absurd hq hp
        rw [hpf]
        clear hp hpf
        have HOA := Lib.hid (ho.out.alloc (.cells #[.int .i64 n] 3))
        have HSA := Lib.hid (SI_one wr n 3)
        have HL1 : Hid ((wOut xs n xs.length).length + ([n] : List Int).length ≤ 100000000) := by show _ ≤ _; have := HLEN.out.1; simp; omega
        go_wp2_with (at_builtin; refine wpList_app_int rfl (.tmp 43) (.tmp 45) rfl w.heap.size _ _ (wOut xs n xs.length) [n] rfl rfl HOA.out HSA.out HL1.out ?c4 ?_)
        case c4 => first | omega | (simp; omega)
        intro v' w' ho' hg' _
        have HB' := Lib.hid (grown_below hb.out (fun q hq => (World.ownsRow.lt ho.out q hq).1) _ hg')
        have HO' : Hid (OwnI w' w.heap.size v' (withL xs n)) := by show _; rw [HV.out]; exact ho'
        clear ho' hg'
        go_wp2_with fail
        go_ret
        exact ⟨_, rfl, HO'.out, HB'.out⟩
end Go.Proofs.YtgmecjmepbaolaaDoor
