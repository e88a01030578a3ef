/- Contract: Parse of certify. -/
import Derived.Test.YtehbnckdllbmgaaGreatDoorCerM
import Derived.Lib.AtoiErrMem
set_option linter.unusedSimpArgs false
set_option linter.unusedVariables false

/- Contracts: number and cut of certify. -/
namespace Go.Proofs.YtehbnckdllbmgaaGreatDoor
open Go.RowKit

/-- no number, or this one -/
def NumR (l : List UInt8) (x : Int) (b : Bool) : Prop := numP l = if b then some x else none
def NumE (l : List UInt8) (e : Ending) : Prop := ∃ x b, e = .returned (.tuple #[.int .i64 x, .bool b]) ∧ NumR l x b
theorem num_none {l : List UInt8} (h : ∀ n : Int, okN n = true → Lib.atoiAll l ≠ .ok n) : numP l = none := numP_none fun n hn e => h n hn (by rw [← e]; exact atoi_itoa hn)
theorem num_ok {l : List UInt8} {v : Int} (h : Lib.atoiAll l = .ok v) : numP l = if (decide (0 ≤ v) && decide (v ≤ 1099511627776) && decide (Lib.itoa v = l)) = true then some v else none := by
  by_cases c : (decide (0 ≤ v) && decide (v ≤ 1099511627776) && decide (Lib.itoa v = l)) = true
  · rw [if_pos c]
    simp only [Bool.and_eq_true, decide_eq_true_eq] at c
    exact numP_iff.2 ⟨okN_iff.2 c.1, c.2⟩
  · rw [if_neg c]
    refine numP_none fun n hn e => c ?_
    have := atoi_itoa hn
    rw [e, h] at this
    cases this
    have := okN_iff.1 hn
    simp only [Bool.and_eq_true, decide_eq_true_eq]
    exact ⟨this, e⟩
theorem bs_eql (l : List UInt8) (s : ByteArray) : ((⟨l.toArray⟩ : ByteArray).data.toList = s.data.toList) ↔ l = s.data.toList := by simp

set_option maxRecDepth 100000 in
set_option maxHeartbeats 1000000 in
theorem number_any (s : ByteArray) (w : World) (hs : s.size ≤ 1000000) (hV : VarsC w) :
    Calls Tryz.prog 84 #[.string s] w fun e w' => NumE s.data.toList e ∧ Below w.heap.size w w' := by
  have HV := Lib.hid hV; clear hV
  cases ha : Lib.atoiAll s.data.toList with
  | ok v =>
    have HN := Lib.hid (num_ok ha)
    go_enter Tryz.func84, Tryz.ntmps84
    go_wp2_with fail
    refine (Tryz.strconv_Atoi_ok s (by omega) v ha w).mono ?_
    rintro e w1 ⟨rfl, hw1⟩
    have hb1 : Below w.heap.size w w1 := by
      rcases hw1 with rfl | ⟨t, rfl⟩
      · exact Below.refl _ _
      · exact Lib.bytesWorld_below w _ t
    have HB1 := Lib.hid hb1
    clear hw1 hb1 ha
    by_cases c1 : 0 ≤ v
    rotate_left
    · have HF := Lib.hid (show NumR s.data.toList v false by show numP _ = _; rw [HN.out, decide_eq_false c1]; rfl)
      have c1' : v < 0 := by omega
      go_wp2_with fail
      refine bodyPost_ret (v := .tuple #[.int .i64 v, .bool false]) (by simp [results, Tryz.results84, go_sem]) rfl ?_
      exact ⟨⟨_, _, rfl, HF.out⟩, HB1.out⟩
    by_cases c2 : v ≤ 1099511627776
    rotate_left
    · have HF := Lib.hid (show NumR s.data.toList v false by show numP _ = _; rw [HN.out, decide_eq_false c2]; simp)
      have c2' : 1099511627776 < v := by omega
      go_wp2_with fail
      refine bodyPost_ret (v := .tuple #[.int .i64 v, .bool false]) (by simp [results, Tryz.results84, go_sem]) rfl ?_
      exact ⟨⟨_, _, rfl, HF.out⟩, HB1.out⟩
    have HF := Lib.hid (show numP s.data.toList = if Lib.itoa v = s.data.toList then some v else none by rw [HN.out, decide_eq_true c1, decide_eq_true c2]; simp)
    go_wp2_with fail
    refine (itoa_any v w1 (by unfold in64; omega) (HV.out.keep HB1.out)).mono ?_
    rintro e w2 ⟨rfl, hb2⟩
    have HB2 := Lib.hid (ext_trans HB1.out hb2)
    clear hb2 HN
    go_wp2_with fail
    refine bodyPost_ret (v := .tuple #[.int .i64 v, .bool (Lib.itoa v == s.toList)]) (by simp [results, Tryz.results84, go_sem]) rfl ?_
    refine ⟨⟨_, _, rfl, ?_⟩, HB2.out⟩
    show numP _ = _
    rw [HF.out, Lib.toList_data]
    by_cases he : Lib.itoa v = s.data.toList
    · rw [if_pos he, he]; simp
    · rw [if_neg he, if_neg (by simpa using he)]
  | range =>
    obtain ⟨ev, hv, hev⟩ := HV.out.ra
    have HF := Lib.hid (show NumR s.data.toList (Lib.atoiSat s.data.toList) false from num_none fun n _ e => by rw [ha] at e; cases e)
    go_enter Tryz.func84, Tryz.ntmps84
    go_wp2_with fail
    refine (Tryz.strconv_Atoi_range s (by omega) ha ev w hv hev).mono ?_
    rintro e w1 ⟨N, rfl, _, _, hb1⟩
    have HB1 := Lib.hid hb1
    clear hb1 ha hv
    go_wp2_with fail
    refine bodyPost_ret (v := .tuple #[.int .i64 (Lib.atoiSat s.data.toList), .bool false]) (by simp [results, Tryz.results84, go_sem]) rfl ?_
    exact ⟨⟨_, _, rfl, HF.out⟩, HB1.out⟩
  | _ =>
    obtain ⟨ev, hv, hev⟩ := HV.out.sy
    have HF := Lib.hid (show NumR s.data.toList 0 false from num_none fun n _ e => by rw [ha] at e; cases e)
    go_enter Tryz.func84, Tryz.ntmps84
    go_wp2_with fail
    refine (Any.strconv_Atoi_syntax Tryz.laysC172 s (by omega) ha ev w hv hev).mono ?_
    rintro e w1 ⟨N, rfl, _, _, hb1⟩
    have HB1 := Lib.hid hb1
    clear hb1 ha hv
    go_wp2_with fail
    refine bodyPost_ret (v := .tuple #[.int .i64 0, .bool false]) (by simp [results, Tryz.results84, go_sem]) rfl ?_
    exact ⟨⟨_, _, rfl, HF.out⟩, HB1.out⟩
end Go.Proofs.YtehbnckdllbmgaaGreatDoor

/- Contract: cut of certify. -/
namespace Go.Proofs.YtehbnckdllbmgaaGreatDoor
open Go.RowKit

/-- how cut ends -/
def CutE (w : World) (l : List UInt8) (e : Ending) (w' : World) : Prop := ∃ u n b, e = .returned (.tuple #[.agg #[u, .int .i64 n], .bool b]) ∧ (∃ p k c, u = .slice p k c) ∧ Below w.heap.size w w' ∧
  if b = true then ∃ c : Cut, cutS l = some c ∧ n = c.2 ∧ OwnI w' w.heap.size u c.1 else cutS l = none
theorem cutE_no {w w' : World} {l : List UInt8} {u : Value} {n : Int} (hu : ∃ p k c, u = .slice p k c) (hb : Below w.heap.size w w') (h : cutS l = none) : CutE w l (.returned (.tuple #[.agg #[u, .int .i64 n], .bool false])) w' := ⟨u, n, false, rfl, hu, hb, h⟩
theorem cutE_yes {w w' : World} {l : List UInt8} {u : Value} {c : Cut} (hb : Below w.heap.size w w') (h : cutS l = some c) (ho : OwnI w' w.heap.size u c.1) : CutE w l (.returned (.tuple #[.agg #[u, .int .i64 c.2], .bool true])) w' := ⟨u, c.2, true, rfl, (by obtain ⟨p, c, e, _⟩ := ho.si.sl; exact ⟨_, _, _, e⟩), hb, c, h, rfl, ho⟩

/-- the variable of a cut -/
def CB (w : World) (g : Nat) (v : Value) (n : Int) : Prop := w.heap[g]? = some (.cells #[v, .int .i64 n] 54 (0, 0))
theorem CB.lt {w : World} {g : Nat} {v : Value} {n : Int} (h : CB w g v n) : g < w.heap.size := (Array.getElem?_eq_some_iff.1 h).1
theorem CB.cell {w : World} {g : Nat} {v : Value} {n : Int} (h : CB w g v n) (k : Nat) : w.cell? ⟨g, k, none⟩ = #[v, .int .i64 n][k]? := by rw [cell_of_row w g k #[v, .int .i64 n] 54 (0, 0) h]
theorem CB.frozen {w : World} {g : Nat} {v : Value} {n : Int} (h : CB w g v n) (k : Nat) : w.frozen? ⟨g, k, none⟩ = false := by simp [World.frozen?, show w.heap[g]? = _ from h]
theorem CB.below {w w' : World} {m g : Nat} {v : Value} {n : Int} (h : CB w g v n) (hb : Below m w w') (hg : g < m) : CB w' g v n := (hb.block g hg).trans h
theorem CB.set0 {w : World} {g : Nat} {v : Value} {n : Int} (h : CB w g v n) (x : Value) : CB (w.setCell ⟨g, 0, none⟩ x) g x n := by
  obtain ⟨hlt, hk⟩ := Array.getElem?_eq_some_iff.1 h
  show (w.heap.modify g _)[g]? = _
  rw [Array.getElem?_eq_getElem (by rw [Array.size_modify]; exact hlt), Array.getElem_modify_self, hk]
  rfl
theorem CB.set1 {w : World} {g : Nat} {v : Value} {n : Int} (h : CB w g v n) (x : Int) : CB (w.setCell ⟨g, 1, none⟩ (.int .i64 x)) g v x := by
  obtain ⟨hlt, hk⟩ := Array.getElem?_eq_some_iff.1 h
  show (w.heap.modify g _)[g]? = _
  rw [Array.getElem?_eq_getElem (by rw [Array.size_modify]; exact hlt), Array.getElem_modify_self, hk]
  rfl
theorem CB.ne {w : World} {g B : Nat} {v u : Value} {n : Int} {e : TypeId} {s k : Nat} {xs : List Value} (h : CB w g v n) (ho : w.ownsRow B e s u k xs) (he : e ≠ 54) : u.ownBlock ≠ some g := by
  intro hv
  rcases ho.2 with ⟨rfl, _⟩ | ⟨g', cap, cur, rfl, _, hg, _⟩
  · cases hv
  · cases hv
    rw [show w.heap[g']? = _ from h] at hg
    simp at hg
    exact he hg.2.symm
theorem OwnI.set {w : World} {g B k : Nat} {v u x : Value} {n : Int} {r : List Int} (ho : OwnI w B u r) (h : CB w g v n) : OwnI (w.setCell ⟨g, k, none⟩ x) B u r :=
  World.ownsRow.kept ho ⟨rfl, rfl, rfl, by simp [World.setCell], fun j _ hj => Below.heap_setCell _ _ _ _ (fun e => hj (by rw [e]))⟩ (.inr fun e => h.ne ho (by decide) e)

/-! the words -/
theorem split_words (s : ByteArray) : (Lib.splitB ⟨#[32]⟩ 0 (Lib.countB s ⟨#[32]⟩) s).map (·.data.toList) = cutW s.data.toList ∧ (Lib.splitB ⟨#[32]⟩ 0 (Lib.countB s ⟨#[32]⟩) s).length = Lib.countB s ⟨#[32]⟩ + 1 := by
  have h : (Lib.splitB ⟨#[32]⟩ 0 (Lib.countB s ⟨#[32]⟩) s).map (·.data.toList) = cutW s.data.toList := by
    rw [Lib.splitB_data]
    exact split_sp s.data.toList
  refine ⟨h, ?_⟩
  have h2 := congrArg List.length h
  rw [List.length_map, cutW_length] at h2
  rw [h2]
  show _ = Lib.count s.data.toList [32] + 1
  rw [count_sp _ _ rfl]
theorem split_any (s : ByteArray) (w : World) (hs : s.size ≤ 1000000) (hV : VarsC w) : Calls Tryz.prog 85 #[.string s, .string ⟨#[32]⟩] w fun e w' => ∃ ss : List ByteArray, ss.map (·.data.toList) = cutW s.data.toList ∧ e = .returned (.slice (some ⟨w.heap.size, 0, none⟩) ss.length ss.length) ∧
    (∀ i, i < ss.length → w'.cell? ⟨w.heap.size, i, none⟩ = some (.string (zi ss i))) ∧ Below w.heap.size w w' := by
  obtain ⟨m, hm⟩ := hV.ml
  obtain ⟨hb, hl⟩ := split_words s
  refine (Tryz.strings_Split s ⟨#[32]⟩ m w (by omega) hm (by decide)).mono ?_
  rintro e w' ⟨rfl, rfl⟩
  refine ⟨_, hb, by rw [hl], fun i hi => ?_, (Below.refl _ _).alloc (Nat.le_refl _) _⟩
  refine cell_new rfl ?_
  simp [zi, hi]
theorem cutS_none1 {l : List UInt8} (h : cut2 l = none) : cutS l = none := by unfold cutS; rw [h]
theorem cutS_none2 {l a b : List UInt8} (h : cut2 l = some (a, b)) (h2 : numP b = none) : cutS l = none := by unfold cutS; rw [h]; dsimp only; rw [h2]
theorem cutS_nil {l a b : List UInt8} {n : Int} (h : cut2 l = some (a, b)) (h2 : numP b = some n) (h3 : a = []) : cutS l = some ([], n) := by unfold cutS; rw [h]; dsimp only; rw [h2]; dsimp only; rw [if_pos h3]
theorem cutS_all {l a b : List UInt8} {n : Int} (h : cut2 l = some (a, b)) (h2 : numP b = some n) (h3 : a ≠ []) : cutS l = match allN (cutW a) with | none => none | some ns => some (ns, n) := by unfold cutS; rw [h]; dsimp only; rw [h2]; dsimp only; rw [if_neg h3]; cases allN (cutW a) <;> rfl
theorem allN_take {xs : List (List UInt8)} {k : Nat} {ns : List Int} (hk : k < xs.length) (h : allN (xs.take k) = some ns) : allN (xs.take (k + 1)) = match numP xs[k] with | none => none | some n => some (ns ++ [n]) := by
  rw [List.take_succ_eq_append_getElem hk, allN_append, h]
  cases h2 : numP xs[k] with
  | none => simp [allN, h2]
  | some n => simp [allN, h2]
theorem allN_stop {xs : List (List UInt8)} {k : Nat} (h : allN (xs.take k) = none) : allN xs = none := by
  have : xs = xs.take k ++ xs.drop k := (List.take_append_drop k xs).symm
  rw [this, allN_append, h]

set_option maxRecDepth 100000 in
set_option maxHeartbeats 2000000 in
theorem cut_any (s : ByteArray) (w : World) (hs : s.size ≤ 1000000) (hV : VarsC w) : Calls Tryz.prog 55 #[.string s] w (CutE w s.data.toList) := by
  have HV := Lib.hid hV; clear hV
  obtain ⟨W1, hW1⟩ : ∃ W1, W1 = w.alloc (.cells #[.slice none 0 0, .int .i64 0] 54) := ⟨_, rfl⟩
  have hb1 : Below w.heap.size w W1 := by rw [hW1]; exact (Below.refl _ _).alloc (Nat.le_refl _) _
  have hc1 : CB W1 w.heap.size (.slice none 0 0) 0 := by rw [hW1]; exact World.alloc_heap_new w _
  have HB1 := Lib.hid hb1; have HC1 := Lib.hid hc1
  have HV1 := Lib.hid (HV.out.keep hb1)
  obtain ⟨m, hm⟩ := HV1.out.ml
  have HM := Lib.hid hm
  have hct := cut_cut2 s.data.toList
  have k0 := hc1.cell 0; have k1 := hc1.cell 1
  have f0 := hc1.frozen 0; have f1 := hc1.frozen 1
  simp at k0 k1
  clear hb1 hc1 hm
  cases h2 : cut2 s.data.toList with
  | none =>
    rw [h2] at hct
    have HCT := Lib.hid hct
    have HF := Lib.hid (cutS_none1 h2)
    clear hct h2
    go_enter Tryz.func55, Tryz.ntmps55
    go_wp2_with fail
    rw [← hW1]
    refine (Tryz.strings_Cut s ⟨#[58, 32]⟩ m W1 (by omega) HM.out).mono ?_
    rintro e w2 ⟨he, q, rfl⟩
    rw [show (⟨#[58, 32]⟩ : ByteArray).data.toList = [58, 32] from rfl, HCT.out] at he
    subst he
    clear hW1
    dsimp only
    go_wp2_with fail
    have hcf := CB.set1 (CB.set0 (w := W1.drewN q) HC1.out (.slice none 0 0)) 0
    have e0 := hcf.cell 0; have e1 := hcf.cell 1
    simp at e0 e1
    refine bodyPost_ret (v := .tuple #[.agg #[.slice none 0 0, .int .i64 0], .bool false]) (by simp [results, Tryz.f55, go_sem, e0, e1]) rfl ?_
    exact cutE_no ⟨_, _, _, rfl⟩ (((below_drewN' HB1.out q).setCell (p := ⟨w.heap.size, 0, none⟩) (Nat.le_refl _) _).setCell (p := ⟨w.heap.size, 1, none⟩) (Nat.le_refl _) _) HF.out
  | some ab =>
    obtain ⟨a, b⟩ := ab
    rw [h2] at hct
    have HCT := Lib.hid hct
    have H2 := Lib.hid h2
    have hle := cut2_some h2
    have hla : a.length + 2 + b.length = s.size := by rw [← size_data s, hle]; simp; omega
    clear hct h2 hle
    go_enter Tryz.func55, Tryz.ntmps55
    go_wp2_with fail
    rw [← hW1]
    refine (Tryz.strings_Cut s ⟨#[58, 32]⟩ m W1 (by omega) HM.out).mono ?_
    rintro e w2 ⟨he, q, rfl⟩
    rw [show (⟨#[58, 32]⟩ : ByteArray).data.toList = [58, 32] from rfl, HCT.out] at he
    subst he
    clear hW1
    dsimp only
    go_wp2_with fail
    refine (number_any (bs b) (W1.drewN q) (by rw [bs_size]; omega) (HV1.out.keep (below_drewN' (Below.refl _ _) q))).mono ?_
    rintro e w3 ⟨⟨x, ok, rfl, hnr⟩, hb3⟩
    have hc3 := CB.below (m := W1.heap.size) HC1.out ((below_drewN' (Below.refl _ _) q).trans hb3) HC1.out.lt
    have HB3 := Lib.hid (HB1.out.trans ((below_drewN' (Below.refl _ W1) q).trans hb3 |>.mono HB1.out.size))
    have HC3 := Lib.hid hc3; have HNR := Lib.hid hnr
    have k0 := hc3.cell 0; have k1 := hc3.cell 1
    have f0 := hc3.frozen 0; have f1 := hc3.frozen 1
    simp at k0 k1
    have hc4 := hc3.set1 x
    have HC4 := Lib.hid hc4
    have HB4 := Lib.hid (HB3.out.setCell (p := ⟨w.heap.size, 1, none⟩) (Nat.le_refl _) (.int .i64 x))
    obtain ⟨W4, hW4⟩ : ∃ W4, W4 = w3.setCell ⟨w.heap.size, 1, none⟩ (.int .i64 x) := ⟨_, rfl⟩
    have HW4 := Lib.hid hW4
    rw [← hW4] at hc4 HC4 HB4
    have j0 := hc4.cell 0; have j1 := hc4.cell 1
    have g0 := hc4.frozen 0; have g1 := hc4.frozen 1
    simp at j0 j1
    clear hc3 hc4 hb3 hnr hW4
    cases ok with
    | false =>
      have HF := Lib.hid (cutS_none2 H2.out (by have := HNR.out; unfold NumR at this; rw [bs_list] at this; simpa using this))
      go_wp2_with fail
      rw [← HW4.out]
      go_wp2_with fail
      have hcf := CB.set1 (CB.set0 (w := W4) HC4.out (.slice none 0 0)) x
      have e0 := hcf.cell 0; have e1 := hcf.cell 1
      simp at e0 e1
      refine bodyPost_ret (v := .tuple #[.agg #[.slice none 0 0, .int .i64 x], .bool false]) (by simp [results, Tryz.f55, go_sem, e0, e1]) rfl ?_
      exact cutE_no ⟨_, _, _, rfl⟩ ((HB4.out.setCell (p := ⟨w.heap.size, 0, none⟩) (Nat.le_refl _) _).setCell (p := ⟨w.heap.size, 1, none⟩) (Nat.le_refl _) _) HF.out
    | true =>
      have HNB := Lib.hid (show numP b = some x by have := HNR.out; unfold NumR at this; rw [bs_list] at this; simpa using this)
      by_cases ha : a = []
      · have HY := Lib.hid (cutS_nil H2.out HNB.out ha)
        subst ha
        go_wp2_with fail
        rw [← HW4.out]
        go_wp2_with fail
        have hcf := CB.set1 (CB.set0 (w := W4) HC4.out (.slice none 0 0)) x
        have e0 := hcf.cell 0; have e1 := hcf.cell 1
        simp at e0 e1
        refine bodyPost_ret (v := .tuple #[.agg #[.slice none 0 0, .int .i64 x], .bool true]) (by simp [results, Tryz.f55, go_sem, e0, e1]) rfl ?_
        exact cutE_yes (c := ([], x)) ((HB4.out.setCell (p := ⟨w.heap.size, 0, none⟩) (Nat.le_refl _) _).setCell (p := ⟨w.heap.size, 1, none⟩) (Nat.le_refl _) _) HY.out (OwnI_nil _ _)
      · have HY := Lib.hid (cutS_all H2.out HNB.out ha)
        have hne : (a == ([] : List UInt8)) = false := by rw [beq_eq_false_iff_ne]; exact ha
        go_wp2_with fail
        rw [← HW4.out]
        clear HW4
        refine (split_any (bs a) W4 (by rw [bs_size]; omega) (HV.out.keep HB4.out)).mono ?_
        rintro e w5 ⟨ss, hss, rfl, hcells, hb5⟩
        rw [bs_list] at hss
        have HSS := Lib.hid hss; have HCL := Lib.hid hcells
        have HB5 := Lib.hid (HB4.out.trans (hb5.mono HB4.out.size))
        have HC5 := Lib.hid (HC4.out.below hb5 HC4.out.lt)
        have hlt4 := HC4.out.lt
        have hs45 := Lib.hid hb5.size
        have hlen : ss.length ≤ 1000001 := by
          have h1 := congrArg List.length hss
          rw [List.length_map, cutW_length] at h1
          have h2 := List.count_le_length (a := (32 : UInt8)) (l := a)
          omega
        have hssm : ss.length ≤ 9223372036854775807 := by omega
        obtain ⟨sb4, hsb4⟩ : ∃ k, k = W4.heap.size := ⟨_, rfl⟩
        rw [← hsb4] at HCL hlt4
        have HSB := Lib.hid hsb4
        clear hss hcells hb5 k0 k1 f0 f1 j0 j1 g0 g1
        rw [← HSB.out]
        clear hsb4
        go_wp2_with fail
        go_loopw [34] (fun i wr => ∃ (k : Nat) (v : Value) (ns : List Int), k ≤ ss.length ∧ i = .int .i64 k ∧ Hid (Below w.heap.size w wr) ∧ Hid (CB wr w.heap.size v x) ∧ Hid (OwnI wr w.heap.size v ns) ∧ Hid (allN ((ss.map (·.data.toList)).take k) = some ns) ∧ Hid (ns.length = k) ∧ Hid (∀ i, i < ss.length → wr.cell? ⟨sb4, i, none⟩ = some (.string (zi ss i))) ∧ Hid (w5.heap.size ≤ wr.heap.size ∧ (v.ownBlock = none ∨ ∃ j, v.ownBlock = some j ∧ w5.heap.size ≤ j))) (fun i _ => ss.length - (intOf i).toNat)
        case atStart => exact ⟨0, .slice none 0 0, [], Nat.zero_le _, rfl, HB5, HC5, OwnI_nil _ _, rfl, rfl, HCL.out, Nat.le_refl _, .inl rfl⟩
        case round =>
          obtain ⟨k, v, ns, hk, rfl, hb, hcb, ho, hall, hln, hcl, hfr⟩ := hrel
          by_cases hlt : k < ss.length
          · have hcell := hcl.out k hlt
            have hzs : (zi ss k).size ≤ 1000000 := by
              have h1 : (zi ss k).data.toList ∈ cutW a := by rw [← HSS.out]; simp only [zi]; rw [show ss.getD k .empty = ss[k] by simp [hlt]]; exact List.mem_map.2 ⟨_, List.getElem_mem hlt, rfl⟩
              have h2 := joinW_len (cutW a) _ h1
              rw [joinW_cut, size_data] at h2
              omega
            have hml : k < (ss.map (·.data.toList)).length := by simpa using hlt
            have hat := allN_take hml hall.out
            rw [List.getElem_map, show ss[k] = zi ss k by simp [zi, hlt]] at hat
            have HAT := Lib.hid hat; clear hat
            obtain ⟨va, vc, hv, _, _⟩ := ho.out.si.sl
            have q0 := hcb.out.cell 0; have q1 := hcb.out.cell 1
            have f0 := hcb.out.frozen 0; have f1 := hcb.out.frozen 1
            simp at q0 q1
            obtain ⟨y, hy⟩ : ∃ y, zi ss k = y := ⟨_, rfl⟩
            rw [hy] at hcell hzs HAT
            clear hy
            go_wp2_with fail
            refine (number_any y wr hzs (HV.out.keep hb.out)).mono ?_
            rintro e w6 ⟨⟨z, ok, rfl, hnr⟩, hb6⟩
            have hc6 := CB.below (m := wr.heap.size) hcb.out hb6 hcb.out.lt
            have HC6 := Lib.hid hc6
            have HB6 := Lib.hid (ext_trans hb.out hb6)
            have HO6 := Lib.hid (ho.out.below hb6)
            have HNR := Lib.hid hnr
            have HCL6 : Hid (∀ i, i < ss.length → w6.cell? ⟨sb4, i, none⟩ = some (.string (zi ss i))) := fun i hi => cell_keep hb6 (hcl.out i hi)
            have HS6 := Lib.hid (show w5.heap.size ≤ w6.heap.size from Nat.le_trans hfr.out.1 hb6.size)
            have r0 := hc6.cell 0; have r1 := hc6.cell 1
            have rf0 := hc6.frozen 0; have rf1 := hc6.frozen 1
            simp at r0 r1
            clear hc6 hb6 hnr q0 q1 f0 f1
            cases ok with
            | false =>
              have HF := Lib.hid (show cutS s.data.toList = none by
                rw [HY.out, ← HSS.out, allN_stop (k := k + 1)]
                rw [HAT.out]
                have h1 := HNR.out
                unfold NumR at h1
                rw [h1]; rfl)
              subst hv
              go_wp2_with fail
              have hcf := CB.set1 (CB.set0 HC6.out (.slice va ns.length vc)) x
              have e0 := hcf.cell 0; have e1 := hcf.cell 1
              simp at e0 e1
              refine bodyPost_ret (v := .tuple #[.agg #[.slice va ns.length vc, .int .i64 x], .bool false]) (by simp [results, Tryz.f55, go_sem, e0, e1]) rfl ?_
              exact cutE_no ⟨_, _, _, rfl⟩ ((HB6.out.setCell (p := ⟨w.heap.size, 0, none⟩) (Nat.le_refl _) _).setCell (p := ⟨w.heap.size, 1, none⟩) (Nat.le_refl _) _) HF.out
            | true =>
              have HNX := Lib.hid (show allN ((ss.map (·.data.toList)).take (k + 1)) = some (ns ++ [z]) by
                rw [HAT.out]
                have h1 := HNR.out
                unfold NumR at h1
                rw [h1]; rfl)
              have hsb5 : sb4 < w5.heap.size := World.block_lt_of_cell? w5 ⟨sb4, k, none⟩ (HCL.out k hlt)
              subst hv
              go_wp2_with (at_builtin; refine wpList_app_int rfl _ _ rfl w.heap.size _ _ ns [z] rfl rfl (HO6.out.alloc _) (SI_one _ _ _) (by have := hln.out; simp; omega) (by have := HB6.out.size; simp; omega) ?_)
              intro v' w7 ho7 hg7 hat7
              have hB7 : Below w.heap.size w w7 := (HB6.out.alloc HB6.out.size _).grown hg7 (by have := HB6.out.size; simp; omega) (fun j hj => (World.ownsRow.lt HO6.out j hj).1)
              have hC6 : CB (w6.alloc (.cells #[.int .i64 z] 3)) w.heap.size (.slice va ns.length vc) x := HC6.out.below ((Below.refl _ _).alloc (Nat.le_refl _) _) HC6.out.lt
              have hC7 : CB w7 w.heap.size (.slice va ns.length vc) x := (hg7.block _ hC6.lt (fun e => hC6.ne (World.ownsRow.alloc HO6.out _) (by decide) e.symm)).trans hC6
              have hL7 : ∀ i, i < ss.length → w7.cell? ⟨sb4, i, none⟩ = some (.string (zi ss i)) := fun i hi => by
                have h1 := cell_keep (w' := w6.alloc (.cells #[.int .i64 z] 3)) ((Below.refl _ _).alloc (Nat.le_refl _) _) (HCL6.out i hi)
                have h2 : w7.heap[sb4]? = (w6.alloc (.cells #[.int .i64 z] 3)).heap[sb4]? := hg7.block _ (World.block_lt_of_cell? _ ⟨sb4, i, none⟩ h1) (fun e => by
                  rcases hfr.out.2 with h | ⟨j, h, hj⟩
                  · rw [h] at e; cases e
                  · rw [h] at e; cases e; omega)
                unfold World.cell? at h1 ⊢
                rw [h2]; exact h1
              obtain ⟨va', vc', hv', _, _⟩ := ho7.si.sl
              have hfr7 : v'.ownBlock = none ∨ ∃ j, v'.ownBlock = some j ∧ w5.heap.size ≤ j := by
                rcases hat7 with h | h
                · rw [h]; exact hfr.out.2
                · exact .inr ⟨_, h, by have := HS6.out; simp; omega⟩
              rw [show (ns ++ [z]).length = ns.length + 1 by simp] at hv'
              have q0 := hC7.cell 0; have qf0 := hC7.frozen 0
              simp at q0
              have HB7 := Lib.hid hB7; have HC7 := Lib.hid hC7; have HL7 := Lib.hid hL7; have HO7 := Lib.hid ho7; have HFR7 := Lib.hid hfr7
              have HS7 := Lib.hid (show w5.heap.size ≤ w7.heap.size from Nat.le_trans (by have := HS6.out; simp; omega) hg7.size)
              have HVV := Lib.hid hv'
              clear hB7 hC6 hC7 hL7 ho7 hg7 hat7 hfr7 r0 r1 rf0 rf1
              subst hv'
              go_wp2_with fail
              go_roundw
              case rel =>
                refine ⟨k + 1, _, ns ++ [z], by omega, by go_num, HB7.out.setCell (p := ⟨w.heap.size, 0, none⟩) (Nat.le_refl _) _, HC7.out.set0 _, OwnI.set HO7.out HC7.out, HNX, by have := hln.out; show _ = _; simp; omega, fun i hi => ?_, by simp [World.setCell]; exact HS7.out, HFR7.out⟩
                have h1 := HL7.out i hi
                unfold World.cell? at h1 ⊢
                rw [Below.heap_setCell _ _ _ _ (by dsimp only; have := HSB.out; have := hs45.out; omega)]
                exact h1
              case measure => simp [intOf]; omega
          · obtain rfl : k = ss.length := by omega
            have hall2 := hall.out
            rw [List.take_of_length_le (by simp), HSS.out] at hall2
            have HF := Lib.hid (show cutS s.data.toList = some (ns, x) by rw [HY.out, hall2])
            obtain ⟨va, vc, hv, _, _⟩ := ho.out.si.sl
            subst hv
            have q0 := hcb.out.cell 0; have q1 := hcb.out.cell 1
            have f0 := hcb.out.frozen 0; have f1 := hcb.out.frozen 1
            simp at q0 q1
            clear hall2
            go_wp2_with fail
            have hcf := CB.set1 (CB.set0 hcb.out (.slice va ns.length vc)) x
            have e0 := hcf.cell 0; have e1 := hcf.cell 1
            simp at e0 e1
            refine bodyPost_ret (v := .tuple #[.agg #[.slice va ns.length vc, .int .i64 x], .bool true]) (by simp [results, Tryz.f55, go_sem, e0, e1]) rfl ?_
            exact cutE_yes (c := (ns, x)) ((hb.out.setCell (p := ⟨w.heap.size, 0, none⟩) (Nat.le_refl _) _).setCell (p := ⟨w.heap.size, 1, none⟩) (Nat.le_refl _) _) HF.out (OwnI.set (OwnI.set ho.out hcb.out) (CB.set0 hcb.out _))
end Go.Proofs.YtehbnckdllbmgaaGreatDoor

/- Contract: Parse of certify. -/
namespace Go.Proofs.YtehbnckdllbmgaaGreatDoor
open Go.RowKit

def RetP (w : World) (r : List Cut × Int × Int) (e : Ending) (w' : World) : Prop := ∃ v, e = .returned (.tuple #[v, .int .i64 r.2.1, .int .i64 r.2.2]) ∧ SC w' v r.1 ∧ Below w.heap.size w w'
theorem retP {w w' : World} {r : List Cut × Int × Int} {l : List Cut} {x y : Int} {v : Value} (h : r = (l, x, y)) (hs : SC w' v l) (hb : Below w.heap.size w w') : RetP w r (.returned (.tuple #[v, .int .i64 x, .int .i64 y])) w' := by subst h; exact ⟨v, rfl, hs, hb⟩
theorem ext_list (s : ByteArray) (k : Nat) (hk : k ≤ s.size) : (s.extract k s.size).data.toList = s.data.toList.drop k := by
  rw [ByteArray.data_extract, Array.toList_extract]
  rw [List.extract_eq_take_drop]
  exact List.take_of_length_le (by rw [List.length_drop, size_data]; exact Nat.le_refl _)
theorem parseG_long {f k : Nat} {r : List UInt8} {acc : List Cut} (h0 : r ≠ []) (hf : 0 < f) (h : acc.length = 20000) : parseG f r k acc = ([], 4, (k : Int)) := by
  cases f with
  | zero => omega
  | succ f => rw [parseG, if_neg h0, if_pos h]
theorem parseG_bad {f k : Nat} {r : List UInt8} {acc : List Cut} (h0 : r ≠ []) (hf : 0 < f) (h : acc.length ≠ 20000) (hb : (lnL r).length = r.length ∨ cutS (lnL r) = none) : parseG f r k acc = ([], 5, (k : Int)) := by
  cases f with
  | zero => omega
  | succ f =>
    rw [parseG, if_neg h0, if_neg h]
    by_cases h2 : (lnL r).length = r.length
    · rw [if_pos h2]
    · rw [if_neg h2, hb.resolve_left h2]
theorem parseG_next {f k : Nat} {r : List UInt8} {acc : List Cut} {c : Cut} (h0 : r ≠ []) (hf : 0 < f) (h : acc.length ≠ 20000) (h2 : (lnL r).length ≠ r.length) (h3 : cutS (lnL r) = some c) :
    parseG f r k acc = parseG (f - 1) (r.drop ((lnL r).length + 1)) (k + (lnL r).length + 1) (acc ++ [c]) := by
  cases f with
  | zero => omega
  | succ f => exact parseG_step h0 h h2 h3

set_option maxRecDepth 100000 in
set_option maxHeartbeats 2000000 in
theorem Parse_any (s : ByteArray) (w : World) (hs : s.size ≤ 1000000) (hV : VarsC w) : Calls Tryz.prog 25 #[.string s] w (RetP w (parseT s.data.toList)) := by
  have HV := Lib.hid hV; clear hV
  go_enter Tryz.func25, Tryz.ntmps25
  go_wp2_with fail
  go_loopw [2, 4] (fun v at_ wr => ∃ (k : Nat) (acc : List Cut), k ≤ s.size ∧ at_ = .int .i64 k ∧ Hid (Below w.heap.size w wr) ∧ Hid (OwnC wr w.heap.size v acc) ∧ Hid (acc.length ≤ 20000) ∧ Hid (∃ f, s.size - k ≤ f ∧ parseT s.data.toList = parseG f (s.data.toList.drop k) k acc)) (fun _ at_ _ => s.size - (intOf at_).toNat)
  case atStart => exact ⟨0, [], Nat.zero_le _, rfl, Below.refl _ _, OwnC_nil _ _, Nat.zero_le _, s.data.toList.length, by rw [size_data]; omega, by rw [List.drop_zero]; rfl⟩
  case round =>
    obtain ⟨k, acc, hk, rfl, hb, ho, hcc, hp⟩ := hrel
    obtain ⟨va, vc, hv, hv1, hv2, _⟩ := ho.out.sc
    subst hv
    obtain ⟨f, hf1, hf2⟩ := hp.out
    have HF1 := Lib.hid hf1; have HF2 := Lib.hid hf2
    clear hf1 hf2 hp
    have hac : acc.length ≤ 9223372036854775807 := by have := hcc.out; omega
    by_cases hlt : k < s.size
    · by_cases hfull : acc.length = 20000
      · have HP := Lib.hid (show parseT s.data.toList = ([], 4, (k : Int)) by
          rw [HF2.out]; exact parseG_long (fun e => by have := congrArg List.length e; rw [List.length_drop, size_data] at this; simp at this; omega) (by have := HF1.out; omega) hfull)
        have hfb : ((acc.length : Int) == 20000) = true := by rw [beq_iff_eq]; omega
        go_wp2_with fail
        refine bodyPost_ret (v := .tuple #[.slice none 0 0, .int .i64 4, .int .i64 k]) (by simp [results, Tryz.results25, go_sem]) rfl ?_
        exact retP HP.out (SC_nil _) hb.out
      · have hfb : ((acc.length : Int) == 20000) = false := by rw [beq_eq_false_iff_ne]; omega
        have HFL := Lib.hid (show acc.length + 1 ≤ 20000 by have := hcc.out; omega)
        have HLT := Lib.hid hlt
        obtain ⟨r, hr⟩ : ∃ r, s.extract k s.size = r := ⟨_, rfl⟩
        have hrl : r.data.toList = s.data.toList.drop k := by rw [← hr]; exact ext_list s k hk
        have hrs : r.size = s.size - k := by rw [← size_data, hrl, List.length_drop, size_data]
        have HRL := Lib.hid hrl; have HRS := Lib.hid hrs
        clear hrl hrs
        go_wp2_with fail
        have hbw := hb.out
        obtain ⟨m, hm⟩ := (HV.out.keep hbw).ml
        obtain ⟨rest, hct⟩ := cut_ln r.data.toList
        obtain ⟨x, hx⟩ : ∃ x, lnL r.data.toList = x := ⟨_, rfl⟩
        rw [hx] at hct
        have hxl : x.length ≤ r.size := by rw [← hx, ← size_data]; exact lnL_le _
        obtain ⟨en, hen⟩ : ∃ en, decide (x.length ≠ r.data.toList.length) = en := ⟨_, rfl⟩
        rw [hen] at hct
        have HCT := Lib.hid hct; have HX := Lib.hid hx; have HXL := Lib.hid hxl; have HEN := Lib.hid hen
        clear hct hx hxl hbw hen
        refine (Tryz.strings_Cut r ⟨#[10]⟩ m wr (by have := HRS.out; omega) hm).mono ?_
        rintro e w2 ⟨he, q, rfl⟩
        rw [show (⟨#[10]⟩ : ByteArray).data.toList = [10] from rfl, HCT.out] at he
        subst he
        dsimp only
        clear hm
        go_wp2_with fail
        have hbq := below_drewN' hb.out q
        refine (cut_any (bs x) (wr.drewN q) (by rw [bs_size]; have := HXL.out; have := HRS.out; omega) (HV.out.keep hbq)).mono ?_
        rintro e w3 ⟨u, n, ok, rfl, ⟨up, un, uc, rfl⟩, hb3, hres⟩
        rw [bs_list] at hres
        have hb3' : Below wr.heap.size wr w3 := (below_drewN' (Below.refl _ _) q).trans hb3
        have HRES := Lib.hid hres; have HB3 := Lib.hid (hb.out.trans (hb3'.mono hb.out.size)); have HO3 := Lib.hid (ho.out.below hb3')
        have hws : w.heap.size ≤ wr.heap.size := hb.out.size
        have HWS := Lib.hid hws
        clear hres hb3 hb3' hbq hws
        have hne : s.data.toList.drop k ≠ [] := fun e => by have := congrArg List.length e; rw [List.length_drop, size_data] at this; simp at this; omega
        have HNE := Lib.hid hne; clear hne
        cases en with
        | false =>
          have hend : ¬ x.length ≠ r.data.toList.length := of_decide_eq_false HEN.out
          have HP := Lib.hid (show parseT s.data.toList = ([], 5, (k : Int)) by
            rw [HF2.out]
            exact parseG_bad HNE.out (by have := HF1.out; omega) hfull (.inl (by rw [← HRL.out, HX.out]; omega)))
          clear hend
          cases ok
          · go_wp2_with fail
            refine bodyPost_ret (v := .tuple #[.slice none 0 0, .int .i64 5, .int .i64 k]) (by simp [results, Tryz.results25, go_sem]) rfl ?_
            exact retP HP.out (SC_nil _) (HB3.out.alloc HB3.out.size _)
          · go_wp2_with fail
            refine bodyPost_ret (v := .tuple #[.slice none 0 0, .int .i64 5, .int .i64 k]) (by simp [results, Tryz.results25, go_sem]) rfl ?_
            exact retP HP.out (SC_nil _) (HB3.out.alloc HB3.out.size _)
        | true =>
          have HEND := Lib.hid (of_decide_eq_true HEN.out)
          cases ok
          · have HP := Lib.hid (show parseT s.data.toList = ([], 5, (k : Int)) by
              rw [HF2.out]
              exact parseG_bad HNE.out (by have := HF1.out; omega) hfull (.inr (by rw [← HRL.out, HX.out]; exact HRES.out)))
            go_wp2_with fail
            refine bodyPost_ret (v := .tuple #[.slice none 0 0, .int .i64 5, .int .i64 k]) (by simp [results, Tryz.results25, go_sem]) rfl ?_
            exact retP HP.out (SC_nil _) (HB3.out.alloc HB3.out.size _)
          · obtain ⟨c, hc1, rfl, hc3⟩ := HRES.out
            have hstep := parseG_next (f := f) (k := k) HNE.out (by have := HF1.out; omega) hfull (by rw [← HRL.out, HX.out]; exact HEND.out) (by rw [← HRL.out, HX.out]; exact hc1)
            rw [← HRL.out, HX.out] at hstep
            have hxr : x.length + 1 ≤ r.size := by have := HXL.out; have := HEND.out; rw [size_data] at this; omega
            have HST := Lib.hid hstep
            have HXR := Lib.hid hxr
            have HC3 := Lib.hid (show OwnI w3 w.heap.size (.slice up un uc) c.1 from hc3.mono HWS.out)
            clear hstep hc1 hc3 HRES hxr
            go_wp2_with (at_builtin; refine wpList_app_cut rfl _ _ rfl w.heap.size _ acc rfl ((HO3.out.alloc _).alloc _) (w3.heap.size + 1) 1 (.slice up un uc) c rfl (cell_new (by simp) rfl) (cell_new (by simp) rfl) ((HC3.out.alloc _).alloc _) (by have := hcc.out; omega) (by have := HB3.out.size; simp; omega) ?_)
            intro v' w4 ho4 hg4 _
            have hb4 : Below w.heap.size w w4 := ((HB3.out.alloc HB3.out.size _).alloc (by have := HB3.out.size; simp; omega) _).grown hg4 (by have := HB3.out.size; simp; omega) (fun j hj => (HO3.out.lt j hj).1)
            have HB4 := Lib.hid hb4; have HO4 := Lib.hid ho4
            clear hb4 ho4 hg4
            have hbx : x.length ≤ 1000000 := by have := HXR.out; have := HRS.out; omega
            have hbk : k ≤ 1000000 := by omega
            go_wp2_with fail
            go_roundw
            case rel => exact ⟨k + (x.length + 1), acc ++ [c], by have := HRS.out; have := HXR.out; omega, by go_num, HB4, HO4, by have := HFL.out; show _ ≤ _; simp; omega, f - 1, by have := HF1.out; have := HXR.out; have := HLT.out; omega, by rw [HF2.out, ← HRL.out, HST.out, HRL.out, List.drop_drop, Nat.add_assoc]⟩
            case measure => simp [intOf]; have := HRS.out; have := HXR.out; have := HLT.out; omega
    · obtain rfl : k = s.size := by omega
      have HP := Lib.hid (show parseT s.data.toList = (acc, 0, 0) by
        rw [HF2.out, ← size_data, List.drop_length]; exact parseG_nil)
      go_wp2_with fail
      refine bodyPost_ret (v := .tuple #[.slice va acc.length vc, .int .i64 0, .int .i64 0]) (by simp [results, Tryz.results25, go_sem]) rfl ?_
      exact retP HP.out ho.out.sc hb.out
end Go.Proofs.YtehbnckdllbmgaaGreatDoor
