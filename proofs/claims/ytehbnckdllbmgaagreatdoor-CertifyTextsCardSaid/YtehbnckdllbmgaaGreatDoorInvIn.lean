/- A drawn region in a round of a range over a function: the laws of operations serve as they stand. -/
import Derived.Test.YtehbnckdllbmgaaGreatDoorInv
import Derived.RangeFuncNested
import Derived.RangeFuncCalls
import Derived.OrdersIn
set_option linter.unusedSimpArgs false
set_option linter.unusedVariables false
namespace Go.Proofs.YtehbnckdllbmgaaGreatDoor
open Go.RowKit

/-- an operation that is no defer statement is carried out in a round as everywhere -/
theorem op_in {P : Program} {o : Oper} {a : Act} {w : World} {K : Act → World → Prop} {Q : Exit → Act → World → Prop} (l n : Nat) (hd : ∀ c, o.op ≠ .defer c) (h : o.wp P a w K Q) : o.wpIn (Fence.wide.inRound l) n P a w K Q := by
  refine ⟨fun _ _ => trivial, ?_⟩
  rw [show (Fence.wide.inRound l).round = some l from rfl, Oper.semAt_eq _ _ _ hd]
  unfold Oper.wp at h
  generalize (execOp a.eval o).run P w = r at *
  cases r with
  | ok x w' =>
    cases x with
    | value v => exact h
    | skip => exact h
    | defer d => exact h
    | enter f args => exact ⟨fun e => (by cases e), (callsIn_wide.2 h).inRound l⟩
    | row row args => exact ⟨fun e => (by cases e), fun c cs _ => let ⟨v, w'', r, s⟩ := h c cs; ⟨v, w'', r, stepsIn_wide.2 s⟩⟩
    | _ => exact h.elim
  | halt x w' => cases x <;> exact h
section
variable {P : Program} {ops : Array Oper} {Q : Exit → Act → World → Prop} {F : Fence} {n : Nat}
theorem wpOpIn_step' {i : Nat} {o : Oper} {a : Act} {w : World} {K0 : Act → World → Prop} (ho : ops[i]? = some o)
    (h : ∀ K : Act → World → Prop, (∀ a' w', K0 a' w' → K a' w') → if Region.wanted o (yielded ops a.tmps) = true then Oper.wpIn F n P o a w K Q else (∀ f, o.about P w a.eval = some f → F.fn f) ∧ K (a.put o.dst undef) w) : wpOpIn F n P ops Q i K0 a w := by
  have := h K0 (fun _ _ h => h)
  unfold wpOpIn
  rw [ho]
  dsimp only
  by_cases hw : Region.wanted o (yielded ops a.tmps) = true
  · rw [if_pos hw] at this ⊢; exact this
  · rw [if_neg hw] at this ⊢; exact this
theorem wpAnyIn_inv (ho : ordB ops = true) (I : (Nat → Bool) → Act → World → Prop)
    (step : ∀ i o L a w, ops[i]? = some o → L i = false → (∀ e ∈ o.after, Region.binds .any e = true → L e.on = true) → ClosedL ops L → I L a w →
      ∀ K : Act → World → Prop, (∀ a' w', I (updL L i) a' w' → K a' w') → if Region.wanted o (yielded ops a.tmps) = true then Oper.wpIn F n P o a w K Q else (∀ f, o.about P w a.eval = some f → F.fn f) ∧ K (a.put o.dst undef) w)
    (done : ∀ L a w, (∀ i, i < ops.size → L i = true) → I L a w → Q .normal a w) :
    ∀ fuel listed a w, listed.size = ops.size → listed.toList.count false ≤ fuel → ClosedL ops (lst listed) → I (lst listed) a w → wpAnyIn F n P .any ops Q fuel listed a w := by
  intro fuel
  induction fuel with
  | zero =>
    intro listed a w hs hc hcl hI
    have hall : ∀ i, i < ops.size → lst listed i = true := by
      intro i hi
      cases hl : lst listed i
      · exfalso
        have hi' : i < listed.size := by omega
        have : false ∈ listed.toList := by
          unfold lst at hl
          simp [hi'] at hl
          rw [← hl]; simp
        have := List.count_pos_iff.2 this
        omega
      · rfl
    refine ⟨?_, done _ a w hall hI⟩
    refine List.eq_nil_iff_forall_not_mem.2 fun i hi => ?_
    obtain ⟨h1, o, h2, _⟩ := mem_ready.1 hi
    have hi' : i < ops.size := (Array.getElem?_eq_some_iff.1 h2).1
    have h3 := hall i hi'
    unfold lst at h3
    have hi'' : i < listed.size := by omega
    simp [hi''] at h1 h3
    rw [h3] at h1; cases h1
  | succ fuel ih =>
    intro listed a w hs hc hcl hI
    refine ⟨fun h => done _ a w (ready_none ho hs h) hI, fun i hi => ?_⟩
    obtain ⟨h1, o, h2, h3⟩ := mem_ready.1 hi
    have hi' : i < ops.size := (Array.getElem?_eq_some_iff.1 h2).1
    have hil : i < listed.size := by omega
    have h1' : listed[i] = false := by simpa [hil] using h1
    refine wpOpIn_step' h2 fun K hK => step i o (lst listed) a w h2 ?_ h3 hcl hI K fun a' w' hI' => hK a' w' (ih _ a' w' (by simpa using hs) ?_ ?_ ?_)
    · unfold lst; simp [hil, h1']
    · have hcs := List.count_set (l := listed.toList) (i := i) (a := true) (b := false) (by simpa using hil)
      have hp : 0 < listed.toList.count false := List.count_pos_iff.2 (by
        have := List.getElem_mem (l := listed.toList) (n := i) (by simpa using hil)
        rw [Array.getElem_toList, h1'] at this; exact this)
      simp [h1'] at hcs
      simp only [Array.toList_setIfInBounds]
      have e : (listed.toList.set i true).count false = listed.toList.count false - 1 := by rw [hcs]; simp
      omega
    · rw [lst_set hil]; exact hcl.upd h2 h3
    · rw [lst_set hil]; exact hI'
/-- the law in a round: operations by their plain laws -/
theorem wpIn_region_inv {id l : Nat} {a : Act} {w : World} (hm : P.follows .mixedOrders = true) (ho : ordB ops = true) (hdf : (ops.all fun o => match o.op with | .defer _ => false | _ => true) = true) (I : (Nat → Bool) → Act → World → Prop)
    (h0 : I (fun _ => false) a w.drew)
    (step : ∀ i o L a w, ops[i]? = some o → L i = false → (∀ e ∈ o.after, Region.binds .any e = true → L e.on = true) → ClosedL ops L → I L a w →
      ∀ K : Act → World → Prop, (∀ a' w', I (updL L i) a' w' → K a' w') → if Region.wanted o (yielded ops a.tmps) = true then Oper.wp P o a w K Q else K (a.put o.dst undef) w)
    (done : ∀ L a w, (∀ i, i < ops.size → L i = true) → I L a w → Q .normal a w) : (Code.region id ops true).wpIn (Fence.wide.inRound l) n P Q a w := by
  have e : lst (Array.replicate ops.size false) = fun _ => false := by
    funext j
    unfold lst
    rcases Nat.lt_or_ge j ops.size with h | h
    · simp [h]
    · simp [h]
  refine wpIn_region_any hm (wpAnyIn_inv ho I (fun i o L a w hop hL hd hcl hI K hK => ?_) done _ _ _ _ (by simp) (by simp) ?_ ?_)
  · have st := step i o L a w hop hL hd hcl hI K hK
    by_cases hw : Region.wanted o (yielded ops a.tmps) = true
    · rw [if_pos hw] at st ⊢
      refine op_in l n (fun c hc => ?_) st
      have := (Array.all_eq_true'.1 hdf) o (Array.mem_of_getElem? hop)
      rw [hc] at this
      cases this
    · rw [if_neg hw] at st ⊢
      exact ⟨fun _ _ => trivial, st⟩
  · rw [e]; exact fun _ _ _ h => by cases h
  · rw [e]; exact h0
end
end Go.Proofs.YtehbnckdllbmgaaGreatDoor
