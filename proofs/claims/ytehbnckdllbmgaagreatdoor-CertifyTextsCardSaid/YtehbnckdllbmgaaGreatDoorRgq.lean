/- Drawn regions whose operations have properties known ahead, where an operation may spend what another one made (an append into a row of the call's own): in a function and in a round. -/
import Derived.Test.YtehbnckdllbmgaaGreatDoorRgn
set_option linter.unusedSimpArgs false
set_option linter.unusedVariables false
namespace Go.Proofs.YtehbnckdllbmgaaGreatDoor
open Go.RowKit

theorem wp_region_iq {P : Program} {id : Nat} {ops : Array Oper} {Q : Exit → Act → World → Prop} {a0 : Act} {w : World} (d : Nat → Nat) (Pr : Nat → Value → World → Prop) (C : Nat → Nat → Bool) (R : World → Prop)
    (hm : P.follows .mixedOrders = true) (ho : ordB ops = true) (hs : slotsB d ops.size a0.tmps.size = true) (hd : destB d ops = true) (h0 : R w.drew)
    (step : ∀ i o a w, ops[i]? = some o → (∀ e ∈ o.after, Region.binds .any e = true → (∀ k, k ≠ i → C k e.on = false) → Pr e.on (a.eval (.tmp (d e.on))) w) → Sm (slots d ops.size) a0 a → R w →
      ∀ K : Act → World → Prop, (∀ v w', R w' → (∀ j u, j ≠ i → C i j = false → Pr j u w → Pr j u w') → Pr i v w' → K (a.put o.dst v) w') → Oper.wp P o a w K Q)
    (done : ∀ a w, Sm (slots d ops.size) a0 a → R w → (∀ i, i < ops.size → (∀ k, C k i = false) → Pr i (a.eval (.tmp (d i))) w) → Q .normal a w) : (Code.region id ops true).wp P Q a0 w := by
  obtain ⟨s1, s2⟩ := slotsB_spec hs
  refine wp_region_inv hm ho (fun L a w => Sm (slots d ops.size) a0 a ∧ R w ∧ ∀ j, j < ops.size → L j = true → (∀ k, C k j = true → L k = false) → Pr j (a.eval (.tmp (d j))) w) ?_ ?_ ?_
  · exact ⟨Sm.refl _ _, h0, fun i _ h => (by cases h)⟩
  · rintro i o L a w hop hLi hdep hcl ⟨I1, I2, I3⟩ K hK
    have hi : i < ops.size := (Array.getElem?_eq_some_iff.1 hop).1
    obtain ⟨e1, e2⟩ := destB_spec hd hop
    rw [if_pos (by unfold Region.wanted; rw [e2])]
    refine step i o a w hop (fun e he hb hc => I3 e.on ?_ (hdep e he hb) fun k hk => ?_) I1 I2 K fun v w' r1 r2 r3 => hK _ _ ⟨?_, r1, fun j hj hl hc => ?_⟩
    · have := ordB_spec ho hop e he hb; omega
    · by_cases e3 : k = i
      · subst e3; exact hLi
      · rw [hc k e3] at hk; cases hk
    · rw [e1]; exact I1.put (mem_slots hi) _
    · rw [e1]
      by_cases e : j = i
      · subst e
        rw [eval_put_same (by rw [I1.1]; exact s1 j hj)]
        exact r3
      · rw [eval_put_other (fun h => e (s2 j i hj hi h))]
        rw [updL_other e] at hl
        have hci : C i j = false := by
          cases hh : C i j
          · rfl
          · have := hc i hh; rw [updL_same] at this; cases this
        refine r2 j _ e hci (I3 j hj hl fun k hk => ?_)
        have hki : k ≠ i := fun e4 => by subst e4; rw [hci] at hk; cases hk
        have := hc k hk
        rwa [updL_other hki] at this
  · rintro L a w hall ⟨I1, I2, I3⟩
    exact done a w I1 I2 fun i hi hc => I3 i hi (hall i hi) fun k hk => by rw [hc k] at hk; cases hk
theorem wpIn_region_iq {P : Program} {id : Nat} {ops : Array Oper} {Q : Exit → Act → World → Prop} {a0 : Act} {w : World} {l n : Nat} (d : Nat → Nat) (Pr : Nat → Value → World → Prop) (C : Nat → Nat → Bool) (R : World → Prop)
    (hm : P.follows .mixedOrders = true) (ho : ordB ops = true) (hs : slotsB d ops.size a0.tmps.size = true) (hd : destB d ops = true) (hdf : (ops.all fun o => match o.op with | .defer _ => false | _ => true) = true) (h0 : R w.drew)
    (step : ∀ i o a w, ops[i]? = some o → (∀ e ∈ o.after, Region.binds .any e = true → (∀ k, k ≠ i → C k e.on = false) → Pr e.on (a.eval (.tmp (d e.on))) w) → Sm (slots d ops.size) a0 a → R w →
      ∀ K : Act → World → Prop, (∀ v w', R w' → (∀ j u, j ≠ i → C i j = false → Pr j u w → Pr j u w') → Pr i v w' → K (a.put o.dst v) w') → Oper.wp P o a w K Q)
    (done : ∀ a w, Sm (slots d ops.size) a0 a → R w → (∀ i, i < ops.size → (∀ k, C k i = false) → Pr i (a.eval (.tmp (d i))) w) → Q .normal a w) : (Code.region id ops true).wpIn (Fence.wide.inRound l) n P Q a0 w := by
  obtain ⟨s1, s2⟩ := slotsB_spec hs
  refine wpIn_region_inv hm ho hdf (fun L a w => Sm (slots d ops.size) a0 a ∧ R w ∧ ∀ j, j < ops.size → L j = true → (∀ k, C k j = true → L k = false) → Pr j (a.eval (.tmp (d j))) w) ?_ ?_ ?_
  · exact ⟨Sm.refl _ _, h0, fun i _ h => (by cases h)⟩
  · rintro i o L a w hop hLi hdep hcl ⟨I1, I2, I3⟩ K hK
    have hi : i < ops.size := (Array.getElem?_eq_some_iff.1 hop).1
    obtain ⟨e1, e2⟩ := destB_spec hd hop
    rw [if_pos (by unfold Region.wanted; rw [e2])]
    refine step i o a w hop (fun e he hb hc => I3 e.on ?_ (hdep e he hb) fun k hk => ?_) I1 I2 K fun v w' r1 r2 r3 => hK _ _ ⟨?_, r1, fun j hj hl hc => ?_⟩
    · have := ordB_spec ho hop e he hb; omega
    · by_cases e3 : k = i
      · subst e3; exact hLi
      · rw [hc k e3] at hk; cases hk
    · rw [e1]; exact I1.put (mem_slots hi) _
    · rw [e1]
      by_cases e : j = i
      · subst e
        rw [eval_put_same (by rw [I1.1]; exact s1 j hj)]
        exact r3
      · rw [eval_put_other (fun h => e (s2 j i hj hi h))]
        rw [updL_other e] at hl
        have hci : C i j = false := by
          cases hh : C i j
          · rfl
          · have := hc i hh; rw [updL_same] at this; cases this
        refine r2 j _ e hci (I3 j hj hl fun k hk => ?_)
        have hki : k ≠ i := fun e4 => by subst e4; rw [hci] at hk; cases hk
        have := hc k hk
        rwa [updL_other hki] at this
  · rintro L a w hall ⟨I1, I2, I3⟩
    exact done a w I1 I2 fun i hi hc => I3 i hi (hall i hi) fun k hk => by rw [hc k] at hk; cases hk
/-- the same where the last operation writes: it waits for all others -/
theorem wp_region_iqs {P : Program} {id : Nat} {ops : Array Oper} {Q : Exit → Act → World → Prop} {a0 : Act} {w : World} (m : Nat) (d : Nat → Nat) (Pr : Nat → Value → World → Prop) (C : Nat → Nat → Bool) (R : World → Prop) (Post : Act → World → Prop)
    (hsz : ops.size = m + 1) (hm : P.follows .mixedOrders = true) (ho : ordB ops = true) (hs : slotsB d m a0.tmps.size = true) (hd : destB' d m ops = true) (hw : waitsB ops m = true) (h0 : R w.drew)
    (step : ∀ i o a w, i < m → ops[i]? = some o → (∀ e ∈ o.after, Region.binds .any e = true → (∀ k, k ≠ i → C k e.on = false) → Pr e.on (a.eval (.tmp (d e.on))) w) → Sm (slots d m) a0 a → R w →
      ∀ K : Act → World → Prop, (∀ v w', R w' → (∀ j u, j ≠ i → C i j = false → Pr j u w → Pr j u w') → Pr i v w' → K (a.put o.dst v) w') → Oper.wp P o a w K Q)
    (last : ∀ o a w, ops[m]? = some o → Sm (slots d m) a0 a → R w → (∀ i, i < m → (∀ k, k ≠ m → C k i = false) → Pr i (a.eval (.tmp (d i))) w) → ∀ K : Act → World → Prop, (∀ a' w', Post a' w' → K a' w') → Oper.wp P o a w K Q)
    (done : ∀ a w, Post a w → Q .normal a w) : (Code.region id ops true).wp P Q a0 w := by
  obtain ⟨s1, s2⟩ := slotsB_spec hs
  refine wp_region_inv hm ho (fun L a w => (L m = false → Sm (slots d m) a0 a ∧ R w ∧ ∀ j, j < m → L j = true → (∀ k, C k j = true → L k = false) → Pr j (a.eval (.tmp (d j))) w) ∧ (L m = true → Post a w)) ?_ ?_ ?_
  · exact ⟨fun _ => ⟨Sm.refl _ _, h0, fun i _ h => by cases h⟩, fun h => by cases h⟩
  · rintro i o L a w hop hLi hdep hcl ⟨I, J⟩ K hK
    have hi : i < ops.size := (Array.getElem?_eq_some_iff.1 hop).1
    obtain ⟨e1, e2⟩ := destB'_spec hd hop
    rw [if_pos (by unfold Region.wanted; rw [e2])]
    by_cases him : i = m
    · subst him
      obtain ⟨I1, I2, I3⟩ := I hLi
      refine last o a w hop I1 I2 (fun j hj hc => I3 j hj ?_ fun k hk => ?_) K fun a' w' hp => hK _ _ ⟨fun h => (by rw [updL_same] at h; cases h), fun _ => hp⟩
      · obtain ⟨e, he, rfl, hb⟩ := waitsB_spec hw hop hj
        exact hdep e he hb
      · by_cases e3 : k = i
        · subst e3; exact hLi
        · rw [hc k e3] at hk; cases hk
    · have him' : i < m := by omega
      have e1 := e1 him'
      have hLm : L m = false := by
        cases h : L m
        · rfl
        · have hom : ops[m]? = some ops[m] := Array.getElem?_eq_getElem (by omega)
          obtain ⟨e, he, e3, hb⟩ := waitsB_spec hw hom him'
          have := hcl m _ hom h e he hb
          rw [e3, hLi] at this; cases this
      obtain ⟨I1, I2, I3⟩ := I hLm
      refine step i o a w him' hop (fun e he hb hc => I3 e.on ?_ (hdep e he hb) fun k hk => ?_) I1 I2 K fun v w' r1 r2 r3 => hK _ _ ⟨fun _ => ⟨?_, r1, fun j hj hl hc => ?_⟩, fun h => ?_⟩
      · have := ordB_spec ho hop e he hb; omega
      · by_cases e3 : k = i
        · subst e3; exact hLi
        · rw [hc k e3] at hk; cases hk
      · rw [e1]; exact I1.put (mem_slots him') _
      · rw [e1]
        by_cases e : j = i
        · subst e
          rw [eval_put_same (by rw [I1.1]; exact s1 j hj)]
          exact r3
        · rw [eval_put_other (fun h => e (s2 j i hj him' h))]
          rw [updL_other e] at hl
          have hci : C i j = false := by
            cases hh : C i j
            · rfl
            · have := hc i hh; rw [updL_same] at this; cases this
          refine r2 j _ e hci (I3 j hj hl fun k hk => ?_)
          have hki : k ≠ i := fun e4 => by subst e4; rw [hci] at hk; cases hk
          have := hc k hk
          rwa [updL_other hki] at this
      · rw [updL_other (fun h => him h.symm), hLm] at h; cases h
  · rintro L a w hall ⟨_, J⟩
    exact done a w (J (hall m (by omega)))
end Go.Proofs.YtehbnckdllbmgaaGreatDoor
