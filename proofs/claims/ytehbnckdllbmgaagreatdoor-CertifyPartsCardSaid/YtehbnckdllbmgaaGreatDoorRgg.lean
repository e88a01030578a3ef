/- Drawn regions as in Rgt, with guards all of which hold. -/
import Derived.Test.YtehbnckdllbmgaaGreatDoorRgt
set_option linter.unusedSimpArgs false
set_option linter.unusedVariables false
namespace Go.Proofs.YtehbnckdllbmgaaGreatDoor
open Go.RowKit

theorem wp_region_iqg {P : Program} {id : Nat} {ops : Array Oper} {Q : Exit → Act → World → Prop} {a0 : Act} {w : World} (d : Nat → Nat) (Pr : Nat → Value → World → Prop) (C : Nat → Nat → Bool) (R : World → Prop) (Dp : Nat → Nat → Bool) (hdp : dpB ops Dp = true) (hdb : ∀ i j, ¬ j < ops.size ∨ ¬ i < ops.size → Dp j i = false)
    (hm : P.follows .mixedOrders = true) (ho : ordB ops = true) (hs : slotsB d ops.size a0.tmps.size = true) (hd : destG d ops = true) (h0 : R w.drew)
    (hgd : ∀ (i : Nat) (o : Oper) (j : Nat) (b : Bool), ops[i]? = some o → o.guard = some (j, b) → (∀ k, C k j = false) ∧ ∀ v w, Pr j v w → v = .bool b)
    (step : ∀ i o a w, ops[i]? = some o → (∀ e ∈ o.after, Region.binds .any e = true → (∀ k, k ≠ i → Dp k i = false → C k e.on = false) → Pr e.on (a.eval (.tmp (d e.on))) w) → Sm (slots d ops.size) a0 a → R w →
      ∀ K : Act → World → Prop, (∀ v w', R w' → (∀ j u, j ≠ i → C i j = false → Dp j i = false → Pr j u w → Pr j u w') → Pr i v w' → K (a.put o.dst v) w') → Oper.wp P o a w K Q)
    (done : ∀ a w, Sm (slots d ops.size) a0 a → R w → (∀ i, i < ops.size → (∀ k, C k i = false) → Pr i (a.eval (.tmp (d i))) w) → Q .normal a w) : (Code.region id ops true).wp P Q a0 w := by
  obtain ⟨s1, s2⟩ := slotsB_spec hs
  refine wp_region_inv hm ho (fun L a w => Sm (slots d ops.size) a0 a ∧ R w ∧ ∀ j, j < ops.size → L j = true → (∀ k, C k j = true → L k = false) → Pr j (a.eval (.tmp (d j))) w) ?_ ?_ ?_
  · exact ⟨Sm.refl _ _, h0, fun i _ h => (by cases h)⟩
  · rintro i o L a w hop hLi hdep hcl ⟨I1, I2, I3⟩ K hK
    have hi : i < ops.size := (Array.getElem?_eq_some_iff.1 hop).1
    obtain ⟨e1, e2⟩ := destG_spec hd hop
    have hwt : Region.wanted o (yielded ops a.tmps) = true := by
      unfold Region.wanted
      cases hg : o.guard with
      | none => rfl
      | some jb =>
        obtain ⟨j, b⟩ := jb
        obtain ⟨e, he, rfl, hb⟩ := e2 j b hg
        obtain ⟨g1, g2⟩ := hgd i o e.on b hop hg
        have hj : e.on < ops.size := by have := ordB_spec ho hop e he hb; omega
        have hv := g2 _ _ (I3 e.on hj (hdep e he hb) fun k hk => by rw [g1 k] at hk; cases hk)
        have hoj : ops[e.on]? = some ops[e.on] := Array.getElem?_eq_getElem hj
        have hz : d e.on < a.tmps.size := by rw [I1.1]; exact s1 _ hj
        rw [eval_tmp] at hv
        rw [Array.getD_eq_getD_getElem?, Array.getElem?_eq_getElem hz] at hv
        simp only [Option.getD_some] at hv
        dsimp only
        unfold yielded
        rw [hoj]
        simp only [Option.bind_some]
        rw [(destG_spec hd hoj).1]
        simp only [Option.bind_some]
        rw [Array.getElem?_eq_getElem hz, hv]
        cases b <;> rfl
    rw [if_pos hwt]
    refine step i o a w hop (fun e he hb hc => I3 e.on ?_ (hdep e he hb) fun k hk => ?_) I1 I2 K fun v w' r1 r2 r3 => hK _ _ ⟨?_, r1, fun j hj hl hc => ?_⟩
    · have := ordB_spec ho hop e he hb; omega
    · by_cases e3 : k = i
      · subst e3; exact hLi
      · cases hdk : Dp k i
        · rw [hc k e3 hdk] at hk; cases hk
        · exact dp_open hdp ho hcl (hdb i) (k + 1) k (Nat.lt_succ_self _) hdk hLi
    · rw [e1]; exact I1.put (mem_slots hi) _
    · rw [e1]
      by_cases e : j = i
      · subst e
        rw [eval_put_same (by rw [I1.1]; exact s1 j hj)]
        exact r3
      · rw [eval_put_other (fun h => e (s2 j i hj hi h))]
        rw [updL_other e] at hl
        have hci : C i j = false := by
          cases hh : C i j
          · rfl
          · have := hc i hh; rw [updL_same] at this; cases this
        refine r2 j _ e hci (by
          cases hh : Dp j i
          · rfl
          · rw [dp_open hdp ho hcl (hdb i) (j + 1) j (Nat.lt_succ_self _) hh hLi] at hl; cases hl) (I3 j hj hl fun k hk => ?_)
        have hki : k ≠ i := fun e4 => by subst e4; rw [hci] at hk; cases hk
        have := hc k hk
        rwa [updL_other hki] at this
  · rintro L a w hall ⟨I1, I2, I3⟩
    exact done a w I1 I2 fun i hi hc => I3 i hi (hall i hi) fun k hk => by rw [hc k] at hk; cases hk
end Go.Proofs.YtehbnckdllbmgaaGreatDoor
