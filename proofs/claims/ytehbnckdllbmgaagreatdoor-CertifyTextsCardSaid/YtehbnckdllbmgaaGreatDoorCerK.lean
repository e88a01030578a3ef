/- Contract: Make of certify. -/
import Derived.Test.YtehbnckdllbmgaaGreatDoorCerJ
import Derived.Test.YtehbnckdllbmgaaGreatDoorFlowQ
set_option linter.unusedSimpArgs false
set_option linter.unusedVariables false
namespace Go.Proofs.YtehbnckdllbmgaaGreatDoor
open Go.RowKit Go.Shelf

theorem under_any {w0 : World} {p : List (List Int)} {pv : Value} {b B : Nat} (H : MkOk w0 p pv b B) (span : Int) : ∀ f, UndC w0 p pv span b B f
  | 0 => under_step H span 0 fun f' h => by cases h
  | f + 1 => under_step H span (f + 1) fun f' h => by cases h; exact under_any H span f
/-- the steps that Make has -/
def stepsV (s : Int) : Nat := (max (min s 100000) 0).toNat
/-- the search of Make -/
def makeS (p : List (List Int)) (s : Int) : Option MS := und p (bestN p s) p.length ⟨stepsV s, []⟩ []
def makeE (p : List (List Int)) (s : Int) : Int := if bestE p s ≠ 0 then bestE p s else if (makeS p s).isNone then 29 else 0
def makeL (p : List (List Int)) (s : Int) : List Int := if makeE p s ≠ 0 then [] else bestL p s
def makeC (p : List (List Int)) (s : Int) : List Cut := if makeE p s ≠ 0 then [] else ((makeS p s).getD ⟨0, []⟩).cuts
def RetM (w : World) (o : List Int) (l : List Cut) (er : Int) (e : Ending) (w' : World) : Prop := ∃ vo vl, e = .returned (.tuple #[vo, vl, .int .i64 er]) ∧ SI w' vo o ∧ SC w' vl l ∧ Below w.heap.size w w'
def mk7d (i : Nat) : Nat := if i < 5 then i + 29 else i - 1
def mk7V (vo vl : Value) (b : Nat) : Nat → Value
  | 0 => vo
  | 1 => .pointer (some ⟨b, 0, none⟩)
  | 2 => .pointer (some ⟨b, 0, none⟩)
  | 3 => .pointer (some ⟨b, 0 + 3, none⟩)
  | 4 => vl
  | 5 => vo
  | 6 => vl
  | 7 => .int .i64 0
  | _ => undef
theorem bestE_zero {p : List (List Int)} {s : Int} (h : bestE p s = 0) : checkE p = 0 := by
  unfold bestE at h
  by_cases h0 : checkE p = 0
  · exact h0
  · rw [if_pos h0] at h; exact h
theorem gmin (a b : Int) : (if a < b then a else b) = min a b := by split <;> omega

set_option maxRecDepth 100000 in
set_option maxHeartbeats 2000000 in
theorem Make_any (v : Value) (p : List (List Int)) (s : Int) (w : World) (h : SS w v p) (hs : -9223372036854775808 ≤ s ∧ s ≤ 9223372036854775807) :
    Calls Tryz.prog 21 #[v, .int .i64 s] w (RetM w (makeL p s) (makeC p s) (makeE p s)) := by
  have H := Lib.hid h
  obtain ⟨pa, pc, rfl, p1, p2⟩ : ∃ a c, v = .slice a p.length c ∧ p.length ≤ c ∧ c ≤ maxLen := by obtain ⟨vs, ⟨a, c, h1, h2, h3, _⟩, _⟩ := h; exact ⟨a, c, h1, h2, h3⟩
  clear h
  go_enter Tryz.func21, Tryz.ntmps21
  go_wp2_with fail
  refine (Best_any _ p s w H.out).mono ?_
  rintro e w1 ⟨vo, rfl, hvo, hb1⟩
  obtain ⟨oa, oc, rfl, _, _⟩ := hvo.sl
  have HVO := Lib.hid hvo; have HB1 := Lib.hid hb1
  clear hvo hb1
  by_cases c0 : bestE p s = 0
  rotate_left
  · have hb : (bestE p s != 0) = true := by rw [bne_iff_ne]; exact c0
    have hE : makeE p s = bestE p s := by unfold makeE; rw [if_pos c0]
    have HE := Lib.hid hE
    have HL := Lib.hid (show makeL p s = [] by unfold makeL; rw [if_pos (by rw [hE]; exact c0)])
    have HC := Lib.hid (show makeC p s = [] by unfold makeC; rw [if_pos (by rw [hE]; exact c0)])
    clear c0 hE
    go_wp2_with fail
    refine bodyPost_ret (v := .tuple #[.slice none 0 0, .slice none 0 0, .int .i64 (bestE p s)]) (by simp [results, Tryz.results21, go_sem]) rfl ?_
    exact ⟨_, _, by rw [HE.out], by rw [HL.out]; exact SI_nil _, by rw [HC.out]; exact SC_nil _, HB1.out⟩
  have hb : (bestE p s != 0) = false := by rw [bne_eq_false_iff_eq]; exact c0
  have HC0 := Lib.hid c0; clear c0
  obtain ⟨W2, hW2⟩ : ∃ W2, W2 = w1.alloc (.cells #[.slice pa p.length pc, .int .i64 (bestN p s), .int .i64 (stepsV s : Nat), .slice none 0 0] 72) := ⟨_, rfl⟩
  have hm2 : MkAt W2 w1.heap.size (.slice pa p.length pc) (bestN p s) (stepsV s : Nat) (.slice none 0 0) := by rw [hW2]; exact World.alloc_heap_new w1 _
  have hb2 : Below w1.heap.size w1 W2 := by rw [hW2]; exact (Below.refl _ _).alloc (Nat.le_refl _) _
  have HM2 := Lib.hid hm2; have HB2 := Lib.hid hb2
  clear hm2 hb2
  have hst : max (min s 100000) 0 = ((stepsV s : Nat) : Int) := by unfold stepsV; omega
  have HST := Lib.hid hst; clear hst
  have HOK : Hid (MkOk w1 p (.slice pa p.length pc) w1.heap.size w1.heap.size) := ⟨H.out.keep HB1.out, bestE_zero HC0.out, Nat.le_refl _, Nat.le_refl _⟩
  go_wp2_with fail
  rw [HST.out, ← hW2]
  have hst5 : stepsV s ≤ 100000 := by unfold stepsV; omega
  refine (under_any HOK.out (bestN p s) p.length ⟨stepsV s, []⟩ [] (.slice none 0 0) (.slice none 0 0) W2 (by simp) (by simp [rightB]) (by simp) hst5 HB2.out HM2.out (OwnC_nil _ _) (SI_nil _) (.inl rfl) (fun a n c e => by cases e)).mono ?_
  rintro e w3 ⟨ho3, hp3⟩
  have hb3 : Below w1.heap.size W2 w3 := ho3.below (Nat.le_refl _) (fun k hk => by cases hk) HB2.out.size
  have HB3 := Lib.hid (ext_trans HB1.out (HB2.out.trans hb3))
  have HB13 := Lib.hid (HB2.out.trans hb3)
  obtain ⟨r, hr⟩ : ∃ r, makeS p s = r := ⟨_, rfl⟩
  have hp4 : UndP w1.heap.size w1.heap.size (.slice pa p.length pc) (bestN p s) (.slice none 0 0) W2.heap.size r e w3 := by rw [← hr]; exact hp3
  have HR := Lib.hid hr
  clear hr hp3 ho3 hb3 hW2
  have HP4 := Lib.hid hp4; clear hp4
  cases r with
  | none =>
    obtain rfl : e = .returned (.bool false) := HP4.out
    have hE : makeE p s = 29 := by unfold makeE; rw [if_neg (by simp [HC0.out]), HR.out]; rfl
    have HE := Lib.hid hE
    have HL := Lib.hid (show makeL p s = [] by unfold makeL; rw [if_pos (by rw [hE]; decide)])
    have HC := Lib.hid (show makeC p s = [] by unfold makeC; rw [if_pos (by rw [hE]; decide)])
    clear hE HP4
    go_wp2_with fail
    refine bodyPost_ret (v := .tuple #[.slice none 0 0, .slice none 0 0, .int .i64 29]) (by simp [results, Tryz.results21, go_sem]) rfl ?_
    exact ⟨_, _, by rw [HE.out], by rw [HL.out]; exact SI_nil _, by rw [HC.out]; exact SC_nil _, HB3.out⟩
  | some st =>
    obtain ⟨rfl, vl, hm3, ho3, _⟩ := HP4.out
    clear HP4
    have hE : makeE p s = 0 := by unfold makeE; rw [if_neg (by simp [HC0.out]), HR.out]; rfl
    have HE := Lib.hid hE
    have HL := Lib.hid (show makeL p s = bestL p s by unfold makeL; rw [if_neg (by simp [hE])])
    have HC := Lib.hid (show makeC p s = st.cuts by unfold makeC; rw [if_neg (by simp [hE]), HR.out]; rfl)
    have HM3 := Lib.hid hm3; have HO3 := Lib.hid ho3
    clear hE hm3 ho3
    obtain ⟨ca, cc, hcv, _⟩ := HO3.out.sc
    have c3 := HM3.out.cell 3
    simp only [List.getElem?_toArray, List.getElem?_cons_succ, List.getElem?_cons_zero] at c3
    have HSC := Lib.hid HO3.out.sc
    rw [hcv] at c3 HSC
    clear hcv
    go_wp2_with fail
    go_quiet (fail)
    go_wp2_with fail
    refine bodyPost_ret (v := .tuple #[.slice oa (bestL p s).length oc, .slice ca st.cuts.length cc, .int .i64 0]) (by simp [results, Tryz.results21, go_sem]) rfl ?_
    exact ⟨_, _, by rw [HE.out], by rw [HL.out]; exact (HVO.out.keep HB13.out).drewN _, by rw [HC.out]; exact HSC.out.drewN _, below_drewN' HB3.out _⟩
end Go.Proofs.YtehbnckdllbmgaaGreatDoor
