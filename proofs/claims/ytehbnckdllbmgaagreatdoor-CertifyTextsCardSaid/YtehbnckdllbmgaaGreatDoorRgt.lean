/- Drawn regions as before, with a property T of the world that holds until operation t comes up. -/
import Derived.Test.YtehbnckdllbmgaaGreatDoorRgq
set_option linter.unusedSimpArgs false
set_option linter.unusedVariables false
namespace Go.Proofs.YtehbnckdllbmgaaGreatDoor
open Go.RowKit

/-- Dp says of which operations an operation waits, itself or by one that it waits for -/
def dpB (ops : Array Oper) (Dp : Nat → Nat → Bool) : Bool := (List.range ops.size).all fun j => (List.range ops.size).all fun i => !(Dp j i) || match ops[j]? with
  | some o => o.after.any fun e => Region.binds .any e && (decide (e.on = i) || Dp e.on i)
  | none => false
theorem dp_open {ops : Array Oper} {Dp : Nat → Nat → Bool} (h : dpB ops Dp = true) (ho : ordB ops = true) {L : Nat → Bool} (hcl : ClosedL ops L) {i : Nat} (hD : ∀ j, ¬ j < ops.size ∨ ¬ i < ops.size → Dp j i = false) : ∀ n j, j < n → Dp j i = true → L i = false → L j = false := by
  intro n
  induction n with
  | zero => intro j hj; omega
  | succ n ih =>
    intro j hj hd hL
    by_cases hji : j < ops.size ∧ i < ops.size
    · unfold dpB at h
      rw [List.all_eq_true] at h
      have h1 := h j (List.mem_range.2 hji.1)
      rw [List.all_eq_true] at h1
      have h2 := h1 i (List.mem_range.2 hji.2)
      rw [hd] at h2
      have hoj : ops[j]? = some ops[j] := Array.getElem?_eq_getElem hji.1
      rw [hoj] at h2
      simp only [Bool.not_true, Bool.false_or] at h2
      rw [Array.any_eq_true'] at h2
      obtain ⟨e, he, h3⟩ := h2
      simp only [Bool.and_eq_true, Bool.or_eq_true, decide_eq_true_eq] at h3
      have hlt := ordB_spec ho hoj e he h3.1
      cases hlj : L j
      · rfl
      · have hle := hcl j _ hoj hlj e he h3.1
        rcases h3.2 with h4 | h4
        · rw [h4, hL] at hle; cases hle
        · rw [ih e.on (by omega) h4 hL] at hle; cases hle
    · have := hD j (by omega)
      rw [hd] at this; cases this
theorem tl {L : Nat → Bool} {i t : Nat} (hLi : L i = false) (hl : updL L i t = false) : L t = false := by
  by_cases e : t = i
  · subst e; exact hLi
  · rwa [updL_other e] at hl
theorem wp_region_iqt {P : Program} {id : Nat} {ops : Array Oper} {Q : Exit → Act → World → Prop} {a0 : Act} {w : World} (d : Nat → Nat) (Pr : Nat → Value → World → Prop) (C : Nat → Nat → Bool) (R : World → Prop) (t : Nat) (T : World → Prop) (Dp : Nat → Nat → Bool) (hdp : dpB ops Dp = true) (hdb : ∀ i j, ¬ j < ops.size ∨ ¬ i < ops.size → Dp j i = false)
    (hm : P.follows .mixedOrders = true) (ho : ordB ops = true) (hs : slotsB d ops.size a0.tmps.size = true) (hd : destB d ops = true) (h0 : R w.drew) (hT0 : T w.drew)
    (step : ∀ i o a w, ops[i]? = some o → (∀ e ∈ o.after, Region.binds .any e = true → (∀ k, k ≠ i → Dp k i = false → C k e.on = false) → Pr e.on (a.eval (.tmp (d e.on))) w) → Sm (slots d ops.size) a0 a → R w → (i = t ∨ Dp t i = true → T w) →
      ∀ K : Act → World → Prop, (∀ v w', R w' → (i ≠ t → T w → T w') → (∀ j u, j ≠ i → C i j = false → Dp j i = false → Pr j u w → Pr j u w') → Pr i v w' → K (a.put o.dst v) w') → Oper.wp P o a w K Q)
    (done : ∀ a w, Sm (slots d ops.size) a0 a → R w → (∀ i, i < ops.size → (∀ k, C k i = false) → Pr i (a.eval (.tmp (d i))) w) → Q .normal a w) : (Code.region id ops true).wp P Q a0 w := by
  obtain ⟨s1, s2⟩ := slotsB_spec hs
  refine wp_region_inv hm ho (fun L a w => Sm (slots d ops.size) a0 a ∧ R w ∧ (L t = false → T w) ∧ ∀ j, j < ops.size → L j = true → (∀ k, C k j = true → L k = false) → Pr j (a.eval (.tmp (d j))) w) ?_ ?_ ?_
  · exact ⟨Sm.refl _ _, h0, fun _ => hT0, fun i _ h => (by cases h)⟩
  · rintro i o L a w hop hLi hdep hcl ⟨I1, I2, I4, I3⟩ K hK
    have hi : i < ops.size := (Array.getElem?_eq_some_iff.1 hop).1
    obtain ⟨e1, e2⟩ := destB_spec hd hop
    rw [if_pos (by unfold Region.wanted; rw [e2])]
    refine step i o a w hop (fun e he hb hc => I3 e.on ?_ (hdep e he hb) fun k hk => ?_) I1 I2 (fun e => I4 (e.elim (fun e => by subst e; exact hLi) fun e => dp_open hdp ho hcl (hdb i) (t + 1) t (Nat.lt_succ_self _) e hLi)) K fun v w' r1 r0 r2 r3 => hK _ _ ⟨?_, r1, fun hl => r0 (fun e => by subst e; rw [updL_same] at hl; cases hl) (I4 (tl hLi hl)), fun j hj hl hc => ?_⟩
    · have := ordB_spec ho hop e he hb; omega
    · by_cases e3 : k = i
      · subst e3; exact hLi
      · cases hdk : Dp k i
        · rw [hc k e3 hdk] at hk; cases hk
        · exact dp_open hdp ho hcl (hdb i) (k + 1) k (Nat.lt_succ_self _) hdk hLi
    · rw [e1]; exact I1.put (mem_slots hi) _
    · rw [e1]
      by_cases e : j = i
      · subst e
        rw [eval_put_same (by rw [I1.1]; exact s1 j hj)]
        exact r3
      · rw [eval_put_other (fun h => e (s2 j i hj hi h))]
        rw [updL_other e] at hl
        have hci : C i j = false := by
          cases hh : C i j
          · rfl
          · have := hc i hh; rw [updL_same] at this; cases this
        refine r2 j _ e hci (by
          cases hh : Dp j i
          · rfl
          · rw [dp_open hdp ho hcl (hdb i) (j + 1) j (Nat.lt_succ_self _) hh hLi] at hl; cases hl) (I3 j hj hl fun k hk => ?_)
        have hki : k ≠ i := fun e4 => by subst e4; rw [hci] at hk; cases hk
        have := hc k hk
        rwa [updL_other hki] at this
  · rintro L a w hall ⟨I1, I2, _, I3⟩
    exact done a w I1 I2 fun i hi hc => I3 i hi (hall i hi) fun k hk => by rw [hc k] at hk; cases hk
theorem wpIn_region_iqt {P : Program} {id : Nat} {ops : Array Oper} {Q : Exit → Act → World → Prop} {a0 : Act} {w : World} {l n : Nat} (d : Nat → Nat) (Pr : Nat → Value → World → Prop) (C : Nat → Nat → Bool) (R : World → Prop) (t : Nat) (T : World → Prop) (Dp : Nat → Nat → Bool) (hdp : dpB ops Dp = true) (hdb : ∀ i j, ¬ j < ops.size ∨ ¬ i < ops.size → Dp j i = false)
    (hm : P.follows .mixedOrders = true) (ho : ordB ops = true) (hs : slotsB d ops.size a0.tmps.size = true) (hd : destB d ops = true) (hdf : (ops.all fun o => match o.op with | .defer _ => false | _ => true) = true) (h0 : R w.drew) (hT0 : T w.drew)
    (step : ∀ i o a w, ops[i]? = some o → (∀ e ∈ o.after, Region.binds .any e = true → (∀ k, k ≠ i → Dp k i = false → C k e.on = false) → Pr e.on (a.eval (.tmp (d e.on))) w) → Sm (slots d ops.size) a0 a → R w → (i = t ∨ Dp t i = true → T w) →
      ∀ K : Act → World → Prop, (∀ v w', R w' → (i ≠ t → T w → T w') → (∀ j u, j ≠ i → C i j = false → Dp j i = false → Pr j u w → Pr j u w') → Pr i v w' → K (a.put o.dst v) w') → Oper.wp P o a w K Q)
    (done : ∀ a w, Sm (slots d ops.size) a0 a → R w → (∀ i, i < ops.size → (∀ k, C k i = false) → Pr i (a.eval (.tmp (d i))) w) → Q .normal a w) : (Code.region id ops true).wpIn (Fence.wide.inRound l) n P Q a0 w := by
  obtain ⟨s1, s2⟩ := slotsB_spec hs
  refine wpIn_region_inv hm ho hdf (fun L a w => Sm (slots d ops.size) a0 a ∧ R w ∧ (L t = false → T w) ∧ ∀ j, j < ops.size → L j = true → (∀ k, C k j = true → L k = false) → Pr j (a.eval (.tmp (d j))) w) ?_ ?_ ?_
  · exact ⟨Sm.refl _ _, h0, fun _ => hT0, fun i _ h => (by cases h)⟩
  · rintro i o L a w hop hLi hdep hcl ⟨I1, I2, I4, I3⟩ K hK
    have hi : i < ops.size := (Array.getElem?_eq_some_iff.1 hop).1
    obtain ⟨e1, e2⟩ := destB_spec hd hop
    rw [if_pos (by unfold Region.wanted; rw [e2])]
    refine step i o a w hop (fun e he hb hc => I3 e.on ?_ (hdep e he hb) fun k hk => ?_) I1 I2 (fun e => I4 (e.elim (fun e => by subst e; exact hLi) fun e => dp_open hdp ho hcl (hdb i) (t + 1) t (Nat.lt_succ_self _) e hLi)) K fun v w' r1 r0 r2 r3 => hK _ _ ⟨?_, r1, fun hl => r0 (fun e => by subst e; rw [updL_same] at hl; cases hl) (I4 (tl hLi hl)), fun j hj hl hc => ?_⟩
    · have := ordB_spec ho hop e he hb; omega
    · by_cases e3 : k = i
      · subst e3; exact hLi
      · cases hdk : Dp k i
        · rw [hc k e3 hdk] at hk; cases hk
        · exact dp_open hdp ho hcl (hdb i) (k + 1) k (Nat.lt_succ_self _) hdk hLi
    · rw [e1]; exact I1.put (mem_slots hi) _
    · rw [e1]
      by_cases e : j = i
      · subst e
        rw [eval_put_same (by rw [I1.1]; exact s1 j hj)]
        exact r3
      · rw [eval_put_other (fun h => e (s2 j i hj hi h))]
        rw [updL_other e] at hl
        have hci : C i j = false := by
          cases hh : C i j
          · rfl
          · have := hc i hh; rw [updL_same] at this; cases this
        refine r2 j _ e hci (by
          cases hh : Dp j i
          · rfl
          · rw [dp_open hdp ho hcl (hdb i) (j + 1) j (Nat.lt_succ_self _) hh hLi] at hl; cases hl) (I3 j hj hl fun k hk => ?_)
        have hki : k ≠ i := fun e4 => by subst e4; rw [hci] at hk; cases hk
        have := hc k hk
        rwa [updL_other hki] at this
  · rintro L a w hall ⟨I1, I2, _, I3⟩
    exact done a w I1 I2 fun i hi hc => I3 i hi (hall i hi) fun k hk => by rw [hc k] at hk; cases hk
/-- operation m waits for all others, itself or by one that it waits for -/
def waits2B (ops : Array Oper) (m : Nat) : Bool := match ops[m]? with
  | some o => (List.range m).all fun j => (o.after.any fun e => decide (e.on = j) && Region.binds .any e) || (List.range m).any fun k => (o.after.any fun e => decide (e.on = k) && Region.binds .any e) && match ops[k]? with
    | some o' => o'.after.any fun e => decide (e.on = j) && Region.binds .any e
    | none => false
  | none => false
theorem waits2B_spec {ops : Array Oper} {m : Nat} (h : waits2B ops m = true) {o : Oper} (ho : ops[m]? = some o) {L : Nat → Bool} (hcl : ClosedL ops L) (hd : ∀ e ∈ o.after, Region.binds .any e = true → L e.on = true) {j : Nat} (hj : j < m) : L j = true := by
  unfold waits2B at h
  rw [ho] at h
  simp only [List.all_eq_true] at h
  have := h j (List.mem_range.2 hj)
  rw [Bool.or_eq_true] at this
  rcases this with h1 | h1
  · rw [Array.any_eq_true'] at h1
    obtain ⟨e, he, h2⟩ := h1
    simp only [Bool.and_eq_true, decide_eq_true_eq] at h2
    rw [← h2.1]; exact hd e he h2.2
  · rw [List.any_eq_true] at h1
    obtain ⟨k, _, h2⟩ := h1
    rw [Bool.and_eq_true] at h2
    obtain ⟨h3, h4⟩ := h2
    rw [Array.any_eq_true'] at h3
    obtain ⟨e, he, h5⟩ := h3
    simp only [Bool.and_eq_true, decide_eq_true_eq] at h5
    have hk := hd e he h5.2
    rw [h5.1] at hk
    cases hok : ops[k]? with
    | none => rw [hok] at h4; cases h4
    | some o' =>
      rw [hok] at h4
      dsimp only at h4
      rw [Array.any_eq_true'] at h4
      obtain ⟨e', he', h6⟩ := h4
      simp only [Bool.and_eq_true, decide_eq_true_eq] at h6
      rw [← h6.1]
      exact hcl k o' hok hk e' he' h6.2
/-- the same where the last operation writes: it waits for all others -/
theorem wp_region_iqst {P : Program} {id : Nat} {ops : Array Oper} {Q : Exit → Act → World → Prop} {a0 : Act} {w : World} (m : Nat) (d : Nat → Nat) (Pr : Nat → Value → World → Prop) (C : Nat → Nat → Bool) (R : World → Prop) (t : Nat) (T : World → Prop) (Dp : Nat → Nat → Bool) (hdp : dpB ops Dp = true) (hdb : ∀ i j, ¬ j < ops.size ∨ ¬ i < ops.size → Dp j i = false) (Post : Act → World → Prop)
    (hsz : ops.size = m + 1) (hm : P.follows .mixedOrders = true) (ho : ordB ops = true) (hs : slotsB d m a0.tmps.size = true) (hd : destB' d m ops = true) (hw : waits2B ops m = true) (h0 : R w.drew) (hT0 : T w.drew)
    (step : ∀ i o a w, i < m → ops[i]? = some o → (∀ e ∈ o.after, Region.binds .any e = true → (∀ k, k ≠ i → Dp k i = false → C k e.on = false) → Pr e.on (a.eval (.tmp (d e.on))) w) → Sm (slots d m) a0 a → R w → (i = t ∨ Dp t i = true → T w) →
      ∀ K : Act → World → Prop, (∀ v w', R w' → (i ≠ t → T w → T w') → (∀ j u, j ≠ i → C i j = false → Dp j i = false → Pr j u w → Pr j u w') → Pr i v w' → K (a.put o.dst v) w') → Oper.wp P o a w K Q)
    (last : ∀ o a w, ops[m]? = some o → Sm (slots d m) a0 a → R w → (∀ i, i < m → (∀ k, k ≠ m → C k i = false) → Pr i (a.eval (.tmp (d i))) w) → ∀ K : Act → World → Prop, (∀ a' w', Post a' w' → K a' w') → Oper.wp P o a w K Q)
    (done : ∀ a w, Post a w → Q .normal a w) : (Code.region id ops true).wp P Q a0 w := by
  obtain ⟨s1, s2⟩ := slotsB_spec hs
  refine wp_region_inv hm ho (fun L a w => (L m = false → Sm (slots d m) a0 a ∧ R w ∧ (L t = false → T w) ∧ ∀ j, j < m → L j = true → (∀ k, C k j = true → L k = false) → Pr j (a.eval (.tmp (d j))) w) ∧ (L m = true → Post a w)) ?_ ?_ ?_
  · exact ⟨fun _ => ⟨Sm.refl _ _, h0, fun _ => hT0, fun i _ h => by cases h⟩, fun h => by cases h⟩
  · rintro i o L a w hop hLi hdep hcl ⟨I, J⟩ K hK
    have hi : i < ops.size := (Array.getElem?_eq_some_iff.1 hop).1
    obtain ⟨e1, e2⟩ := destB'_spec hd hop
    rw [if_pos (by unfold Region.wanted; rw [e2])]
    by_cases him : i = m
    · subst him
      obtain ⟨I1, I2, _, I3⟩ := I hLi
      refine last o a w hop I1 I2 (fun j hj hc => I3 j hj ?_ fun k hk => ?_) K fun a' w' hp => hK _ _ ⟨fun h => (by rw [updL_same] at h; cases h), fun _ => hp⟩
      · exact waits2B_spec hw hop hcl hdep hj
      · by_cases e3 : k = i
        · subst e3; exact hLi
        · rw [hc k e3] at hk; cases hk
    · have him' : i < m := by omega
      have e1 := e1 him'
      have hLm : L m = false := by
        cases h : L m
        · rfl
        · have hom : ops[m]? = some ops[m] := Array.getElem?_eq_getElem (by omega)
          have := waits2B_spec hw hom hcl (hcl m _ hom h) him'
          rw [hLi] at this; cases this
      obtain ⟨I1, I2, I4, I3⟩ := I hLm
      refine step i o a w him' hop (fun e he hb hc => I3 e.on ?_ (hdep e he hb) fun k hk => ?_) I1 I2 (fun e => I4 (e.elim (fun e => by subst e; exact hLi) fun e => dp_open hdp ho hcl (hdb i) (t + 1) t (Nat.lt_succ_self _) e hLi)) K fun v w' r1 r0 r2 r3 => hK _ _ ⟨fun _ => ⟨?_, r1, fun hl => r0 (fun e => by subst e; rw [updL_same] at hl; cases hl) (I4 (tl hLi hl)), fun j hj hl hc => ?_⟩, fun h => ?_⟩
      · have := ordB_spec ho hop e he hb; omega
      · by_cases e3 : k = i
        · subst e3; exact hLi
        · cases hdk : Dp k i
          · rw [hc k e3 hdk] at hk; cases hk
          · exact dp_open hdp ho hcl (hdb i) (k + 1) k (Nat.lt_succ_self _) hdk hLi
      · rw [e1]; exact I1.put (mem_slots him') _
      · rw [e1]
        by_cases e : j = i
        · subst e
          rw [eval_put_same (by rw [I1.1]; exact s1 j hj)]
          exact r3
        · rw [eval_put_other (fun h => e (s2 j i hj him' h))]
          rw [updL_other e] at hl
          have hci : C i j = false := by
            cases hh : C i j
            · rfl
            · have := hc i hh; rw [updL_same] at this; cases this
          refine r2 j _ e hci (by
          cases hh : Dp j i
          · rfl
          · rw [dp_open hdp ho hcl (hdb i) (j + 1) j (Nat.lt_succ_self _) hh hLi] at hl; cases hl) (I3 j hj hl fun k hk => ?_)
          have hki : k ≠ i := fun e4 => by subst e4; rw [hci] at hk; cases hk
          have := hc k hk
          rwa [updL_other hki] at this
      · rw [updL_other (fun h => him h.symm), hLm] at h; cases h
  · rintro L a w hall ⟨_, J⟩
    exact done a w (J (hall m (by omega)))
end Go.Proofs.YtehbnckdllbmgaaGreatDoor
