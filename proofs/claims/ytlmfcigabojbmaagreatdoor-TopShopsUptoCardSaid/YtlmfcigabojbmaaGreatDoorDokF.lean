/- Contracts: slices.IndexFunc, slices.ContainsFunc at docks, berths, stays. -/
import Derived.Test.YtlmfcigabojbmaaGreatDoorDokB
set_option linter.unusedSimpArgs false
set_option linter.unusedVariables false
namespace Go.Proofs.YtlmfcigabojbmaaGreatDoor
open Go.RowKit

def dyV (x : DBay) : Value := .agg #[.string (bs x.name), .int .i64 x.len, .int .i64 x.wid]
/-- the first index at which p holds, else -1 -/
def findG {α : Type} (p : α → Bool) (xs : List α) : Int := match xs.findIdx? p with | some i => i | none => -1
theorem findG_hit {α : Type} [Inhabited α] (p : α → Bool) (xs : List α) (k : Nat) (hk : k < xs.length) (h1 : ∀ j, j < k → p (xs.getD j default) = false) (h2 : p (xs.getD k default) = true) : findG p xs = k := by
  have : xs.findIdx? p = some k := by
    rw [List.findIdx?_eq_some_iff_getElem]
    refine ⟨hk, ?_, ?_⟩
    · simpa [hk] using h2
    · intro j hj
      have := h1 j hj
      simp [show j < xs.length by omega] at this
      simp [this]
  simp [findG, this]
theorem findG_miss {α : Type} [Inhabited α] (p : α → Bool) (xs : List α) (h1 : ∀ j, j < xs.length → p (xs.getD j default) = false) : findG p xs = -1 := by
  have : xs.findIdx? p = none := by
    rw [List.findIdx?_eq_none_iff]
    intro x hx
    obtain ⟨j, hj, rfl⟩ := List.mem_iff_getElem.1 hx
    have := h1 j hj
    simpa [hj] using this
  simp [findG, this]
theorem findG_any {α : Type} (p : α → Bool) (xs : List α) : decide (0 ≤ findG p xs) = xs.any p := by
  unfold findG
  cases h : xs.findIdx? p with
  | none =>
    have : xs.any p = false := by
      rw [List.findIdx?_eq_none_iff] at h
      rw [List.any_eq_false]
      intro x hx; rw [h x hx]; decide
    rw [this]; rfl
  | some i =>
    have : xs.any p = true := by
      rw [List.findIdx?_eq_some_iff_getElem] at h
      obtain ⟨hi, h1, _⟩ := h
      rw [List.any_eq_true]
      exact ⟨_, List.getElem_mem hi, h1⟩
    rw [this]; simp

/-! DBay: SD -/
/-- A function value that answers a predicate, in every world that keeps what W0 has. -/
def FnD (fv : Value) (W0 : World) (q : DBay → Prop) (p : DBay → Bool) : Prop :=
  ∃ F caps, fv = .func (.func F) #[] caps ∧ (∀ args w, (callFunc F args).run Tryz.prog w = .ok (.enter F args) w) ∧
    ∀ (x : DBay) (w : World), q x → Below W0.heap.size W0 w → Calls Tryz.prog F (#[dyV x] ++ caps) w (Ret w (.bool (p x)))
set_option maxHeartbeats 800000 in
theorem indexFunc_D (fv v : Value) (q : DBay → Prop) (p : DBay → Bool) (xs : List DBay) (w : World) (h : SD w v xs) (hq : ∀ x ∈ xs, q x) (hf : FnD fv w q p) :
    Calls Tryz.prog 45 #[v, fv] w (Ret w (.int .i64 (findG p xs))) := by
  obtain ⟨F, caps, rfl, hcf, hf⟩ := hf
  obtain ⟨a, cap, rfl, h1, h2, h3⟩ := h
  have HF := Lib.hid hf; clear hf
  have H3 := Lib.hid h3; clear h3
  have HQ := Lib.hid hq; clear hq
  have hm : xs.length ≤ 9223372036854775807 := by unfold maxLen at h2; omega
  go_enter Tryz.func45, Tryz.ntmps45
  go_wp2
  go_loopw [8] (fun i wr => ∃ k : Nat, k ≤ xs.length ∧ i = .int .i64 k ∧ Hid (Below w.heap.size w wr) ∧ Hid (∀ j, j < k → p (byi xs j) = false)) (fun i _ => xs.length - (intOf i).toNat)
  case atStart => exact ⟨0, Nat.zero_le _, rfl, Lib.hid (Below.refl _ _), Lib.hid fun j hj => by omega⟩
  case round =>
    obtain ⟨k, hk, rfl, hb, hj⟩ := hrel
    by_cases hlt : k < xs.length
    · obtain ⟨b, off, ha, hc⟩ := H3.out k hlt
      rw [ha]
      have hc' := hc.keep hb.out
      have c0 := hc'.c0
      have c1 := hc'.c1
      have c2 := hc'.c2
      clear hc hc'
      go_wp2_with fail
      refine (HF.out (byi xs k) _ (HQ.out _ (byi_mem hlt)) hb.out).mono ?_
      rintro e w1 ⟨rfl, hb1⟩
      have HB1 := Lib.hid (ext_trans hb.out hb1)
      clear hb1 c0 c1 c2
      generalize hx : p (byi xs k) = x
      have HX := Lib.hid hx; clear hx
      cases x
      · go_wp2_with fail
        go_roundw
        case rel =>
          refine ⟨k+1, by omega, by go_num, HB1, Lib.hid ?_⟩
          intro j hjk
          by_cases e : j = k
          · subst e; exact HX.out
          · exact hj.out j (by omega)
        case measure => simp [intOf]; omega
      · go_wp2_with fail
        go_ret
        exact ⟨ret_int (findG_hit p xs k hlt hj.out HX.out).symm, HB1.out⟩
    · go_wp2_with fail
      go_ret
      exact ⟨ret_int (findG_miss p xs (fun j h => hj.out j (by omega))).symm, hb.out⟩

/-! Ber: SB -/
/-- A function value that answers a predicate, in every world that keeps what W0 has. -/
def FnB (fv : Value) (W0 : World) (q : Ber → Prop) (p : Ber → Bool) : Prop :=
  ∃ F caps, fv = .func (.func F) #[] caps ∧ (∀ args w, (callFunc F args).run Tryz.prog w = .ok (.enter F args) w) ∧
    ∀ (x : Ber) (w : World), q x → Below W0.heap.size W0 w → Calls Tryz.prog F (#[syV x] ++ caps) w (Ret w (.bool (p x)))
set_option maxHeartbeats 800000 in
theorem indexFunc_B (fv v : Value) (q : Ber → Prop) (p : Ber → Bool) (xs : List Ber) (w : World) (h : SB w v xs) (hq : ∀ x ∈ xs, q x) (hf : FnB fv w q p) :
    Calls Tryz.prog 66 #[v, fv] w (Ret w (.int .i64 (findG p xs))) := by
  obtain ⟨F, caps, rfl, hcf, hf⟩ := hf
  obtain ⟨a, cap, rfl, h1, h2, h3⟩ := h
  have HF := Lib.hid hf; clear hf
  have H3 := Lib.hid h3; clear h3
  have HQ := Lib.hid hq; clear hq
  have hm : xs.length ≤ 9223372036854775807 := by unfold maxLen at h2; omega
  go_enter Tryz.func66, Tryz.ntmps66
  go_wp2
  go_loopw [8] (fun i wr => ∃ k : Nat, k ≤ xs.length ∧ i = .int .i64 k ∧ Hid (Below w.heap.size w wr) ∧ Hid (∀ j, j < k → p (bri xs j) = false)) (fun i _ => xs.length - (intOf i).toNat)
  case atStart => exact ⟨0, Nat.zero_le _, rfl, Lib.hid (Below.refl _ _), Lib.hid fun j hj => by omega⟩
  case round =>
    obtain ⟨k, hk, rfl, hb, hj⟩ := hrel
    by_cases hlt : k < xs.length
    · obtain ⟨b, off, ha, hc⟩ := H3.out k hlt
      rw [ha]
      have hc' := hc.keep hb.out
      have c0 := hc'.c0
      have c1 := hc'.c1
      have c2 := hc'.c2
      have c3 := hc'.c3
      have c4 := hc'.c4
      have c5 := hc'.c5
      have c6 := hc'.c6
      have c7 := hc'.c7
      clear hc hc'
      go_wp2_with fail
      refine (HF.out (bri xs k) _ (HQ.out _ (bri_mem hlt)) hb.out).mono ?_
      rintro e w1 ⟨rfl, hb1⟩
      have HB1 := Lib.hid (ext_trans hb.out hb1)
      clear hb1 c0 c1 c2 c3 c4 c5 c6 c7
      generalize hx : p (bri xs k) = x
      have HX := Lib.hid hx; clear hx
      cases x
      · go_wp2_with fail
        go_roundw
        case rel =>
          refine ⟨k+1, by omega, by go_num, HB1, Lib.hid ?_⟩
          intro j hjk
          by_cases e : j = k
          · subst e; exact HX.out
          · exact hj.out j (by omega)
        case measure => simp [intOf]; omega
      · go_wp2_with fail
        go_ret
        exact ⟨ret_int (findG_hit p xs k hlt hj.out HX.out).symm, HB1.out⟩
    · go_wp2_with fail
      go_ret
      exact ⟨ret_int (findG_miss p xs (fun j h => hj.out j (by omega))).symm, hb.out⟩
theorem containsFunc_B (fv v : Value) (q : Ber → Prop) (p : Ber → Bool) (xs : List Ber) (w : World) (h : SB w v xs) (hq : ∀ x ∈ xs, q x) (hf : FnB fv w q p) :
    Calls Tryz.prog 47 #[v, fv] w (Ret w (.bool (xs.any p))) := by
  have HI := Lib.hid (indexFunc_B fv v q p xs w h hq hf)
  have HV := Lib.hid (findG_any p xs)
  obtain ⟨F, caps, rfl, _, _⟩ := hf
  obtain ⟨a, n, c, rfl⟩ : ∃ a n c, v = .slice a n c := by obtain ⟨a, cap, rfl, _⟩ := h; exact ⟨_, _, _, rfl⟩
  clear h hq
  go_enter Tryz.func47, Tryz.ntmps47
  go_wp2_with fail
  refine HI.out.mono ?_
  rintro e w1 ⟨rfl, hb⟩
  have HB := Lib.hid hb; clear hb
  go_wp2_with fail
  go_ret
  exact ⟨ret_bool HV.out, HB.out⟩

/-! Ber: SY -/
/-- A function value that answers a predicate, in every world that keeps what W0 has. -/
def FnY (fv : Value) (W0 : World) (q : Ber → Prop) (p : Ber → Bool) : Prop :=
  ∃ F caps, fv = .func (.func F) #[] caps ∧ (∀ args w, (callFunc F args).run Tryz.prog w = .ok (.enter F args) w) ∧
    ∀ (x : Ber) (w : World), q x → Below W0.heap.size W0 w → Calls Tryz.prog F (#[syV x] ++ caps) w (Ret w (.bool (p x)))
set_option maxHeartbeats 800000 in
theorem indexFunc_Y (fv v : Value) (q : Ber → Prop) (p : Ber → Bool) (xs : List Ber) (w : World) (h : SY w v xs) (hq : ∀ x ∈ xs, q x) (hf : FnY fv w q p) :
    Calls Tryz.prog 66 #[v, fv] w (Ret w (.int .i64 (findG p xs))) := by
  obtain ⟨F, caps, rfl, hcf, hf⟩ := hf
  obtain ⟨a, cap, rfl, h1, h2, h3⟩ := h
  have HF := Lib.hid hf; clear hf
  have H3 := Lib.hid h3; clear h3
  have HQ := Lib.hid hq; clear hq
  have hm : xs.length ≤ 9223372036854775807 := by unfold maxLen at h2; omega
  go_enter Tryz.func66, Tryz.ntmps66
  go_wp2
  go_loopw [8] (fun i wr => ∃ k : Nat, k ≤ xs.length ∧ i = .int .i64 k ∧ Hid (Below w.heap.size w wr) ∧ Hid (∀ j, j < k → p (bri xs j) = false)) (fun i _ => xs.length - (intOf i).toNat)
  case atStart => exact ⟨0, Nat.zero_le _, rfl, Lib.hid (Below.refl _ _), Lib.hid fun j hj => by omega⟩
  case round =>
    obtain ⟨k, hk, rfl, hb, hj⟩ := hrel
    by_cases hlt : k < xs.length
    · obtain ⟨b, off, ha, hc⟩ := H3.out k hlt
      rw [ha]
      have hc' := hc.keep hb.out
      have c0 := hc'.c0
      have c1 := hc'.c1
      have c2 := hc'.c2
      have c3 := hc'.c3
      have c4 := hc'.c4
      have c5 := hc'.c5
      have c6 := hc'.c6
      have c7 := hc'.c7
      clear hc hc'
      go_wp2_with fail
      refine (HF.out (bri xs k) _ (HQ.out _ (bri_mem hlt)) hb.out).mono ?_
      rintro e w1 ⟨rfl, hb1⟩
      have HB1 := Lib.hid (ext_trans hb.out hb1)
      clear hb1 c0 c1 c2 c3 c4 c5 c6 c7
      generalize hx : p (bri xs k) = x
      have HX := Lib.hid hx; clear hx
      cases x
      · go_wp2_with fail
        go_roundw
        case rel =>
          refine ⟨k+1, by omega, by go_num, HB1, Lib.hid ?_⟩
          intro j hjk
          by_cases e : j = k
          · subst e; exact HX.out
          · exact hj.out j (by omega)
        case measure => simp [intOf]; omega
      · go_wp2_with fail
        go_ret
        exact ⟨ret_int (findG_hit p xs k hlt hj.out HX.out).symm, HB1.out⟩
    · go_wp2_with fail
      go_ret
      exact ⟨ret_int (findG_miss p xs (fun j h => hj.out j (by omega))).symm, hb.out⟩
theorem containsFunc_Y (fv v : Value) (q : Ber → Prop) (p : Ber → Bool) (xs : List Ber) (w : World) (h : SY w v xs) (hq : ∀ x ∈ xs, q x) (hf : FnY fv w q p) :
    Calls Tryz.prog 47 #[v, fv] w (Ret w (.bool (xs.any p))) := by
  have HI := Lib.hid (indexFunc_Y fv v q p xs w h hq hf)
  have HV := Lib.hid (findG_any p xs)
  obtain ⟨F, caps, rfl, _, _⟩ := hf
  obtain ⟨a, n, c, rfl⟩ : ∃ a n c, v = .slice a n c := by obtain ⟨a, cap, rfl, _⟩ := h; exact ⟨_, _, _, rfl⟩
  clear h hq
  go_enter Tryz.func47, Tryz.ntmps47
  go_wp2_with fail
  refine HI.out.mono ?_
  rintro e w1 ⟨rfl, hb⟩
  have HB := Lib.hid hb; clear hb
  go_wp2_with fail
  go_ret
  exact ⟨ret_bool HV.out, HB.out⟩
end Go.Proofs.YtlmfcigabojbmaaGreatDoor
