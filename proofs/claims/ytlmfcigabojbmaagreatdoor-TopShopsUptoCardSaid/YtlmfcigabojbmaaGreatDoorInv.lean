/- A region that draws its order, by an invariant: each operation is looked at once, whatever came before it. -/
import Derived.Test.YtlmfcigabojbmaaGreatDoorApp
set_option linter.unusedSimpArgs false
set_option linter.unusedVariables false
namespace Go.Proofs.YtlmfcigabojbmaaGreatDoor
open Go.RowKit

/-- which operations have come up -/
def lst (listed : Array Bool) : Nat → Bool := fun i => listed.getD i false
def updL (L : Nat → Bool) (i : Nat) : Nat → Bool := fun j => if j = i then true else L j
theorem updL_same (L i) : updL L i i = true := by simp [updL]
theorem updL_other {L : Nat → Bool} {i j : Nat} (h : j ≠ i) : updL L i j = L j := by simp [updL, h]
theorem lst_set {listed : Array Bool} {i : Nat} (h : i < listed.size) : lst (listed.setIfInBounds i true) = updL (lst listed) i := by
  funext j
  unfold lst updL
  simp only [Array.getD_eq_getD_getElem?, Array.getElem?_setIfInBounds]
  by_cases e : i = j
  · subst e; simp [h]
  · rw [if_neg e, if_neg (fun h => e h.symm)]

/-- every operation waits for earlier ones alone -/
def ordB (ops : Array Oper) : Bool := (List.range ops.size).all fun i => match ops[i]? with
  | some o => o.after.all fun e => !(Region.binds .any e) || decide (e.on < i)
  | none => true
theorem ordB_spec {ops : Array Oper} (h : ordB ops = true) {i : Nat} {o : Oper} (ho : ops[i]? = some o) : ∀ e ∈ o.after, Region.binds .any e = true → e.on < i := by
  intro e he hbi
  have hi : i < ops.size := (Array.getElem?_eq_some_iff.1 ho).1
  unfold ordB at h
  rw [List.all_eq_true] at h
  have := h i (List.mem_range.2 hi)
  rw [ho] at this
  simp only [Array.all_eq_true'] at this
  simpa [hbi] using this e he

section
variable {P : Program} {ops : Array Oper} {Q : Exit → Act → World → Prop}

theorem ready_none {listed : Array Bool} (ho : ordB ops = true) (hs : listed.size = ops.size) (h : Region.ready .any ops listed = []) : ∀ i, i < ops.size → lst listed i = true := by
  intro i
  induction i using Nat.strongRecOn with
  | _ i ih =>
    intro hi
    cases hl : lst listed i
    · exfalso
      have hoi : ops[i]? = some ops[i] := Array.getElem?_eq_getElem hi
      have : i ∈ Region.ready .any ops listed := by
        rw [mem_ready]
        refine ⟨?_, ops[i], hoi, fun e he hbi => ?_⟩
        · unfold lst at hl
          have hi' : i < listed.size := by omega
          simp [hi'] at hl ⊢; exact hl
        · have he' := ordB_spec ho hoi e he hbi
          exact ih e.on he' (by omega)
      rw [h] at this; cases this
    · rfl

/-- what has come up has come behind what it waits for -/
def ClosedL (ops : Array Oper) (L : Nat → Bool) : Prop := ∀ i o, ops[i]? = some o → L i = true → ∀ e ∈ o.after, Region.binds .any e = true → L e.on = true
theorem ClosedL.upd {L : Nat → Bool} {i : Nat} {o : Oper} (h : ClosedL ops L) (ho : ops[i]? = some o) (hd : ∀ e ∈ o.after, Region.binds .any e = true → L e.on = true) : ClosedL ops (updL L i) := by
  intro j oj hj hl e he hb
  by_cases e2 : e.on = i
  · rw [e2, updL_same]
  · rw [updL_other e2]
    by_cases e3 : j = i
    · subst e3
      have : oj = o := Option.some.inj (hj.symm.trans ho)
      subst this
      exact hd e he hb
    · rw [updL_other e3] at hl
      exact h j oj hj hl e he hb

theorem wpAny_inv (ho : ordB ops = true) (I : (Nat → Bool) → Act → World → Prop)
    (step : ∀ i o L a w, ops[i]? = some o → L i = false → (∀ e ∈ o.after, Region.binds .any e = true → L e.on = true) → ClosedL ops L → I L a w →
      ∀ K : Act → World → Prop, (∀ a' w', I (updL L i) a' w' → K a' w') → if Region.wanted o (yielded ops a.tmps) = true then Oper.wp P o a w K Q else K (a.put o.dst undef) w)
    (done : ∀ L a w, (∀ i, i < ops.size → L i = true) → I L a w → Q .normal a w) :
    ∀ fuel listed a w, listed.size = ops.size → listed.toList.count false ≤ fuel → ClosedL ops (lst listed) → I (lst listed) a w → wpAny P .any ops Q fuel listed a w := by
  intro fuel
  induction fuel with
  | zero =>
    intro listed a w hs hc hcl hI
    have hall : ∀ i, i < ops.size → lst listed i = true := by
      intro i hi
      cases hl : lst listed i
      · exfalso
        have hi' : i < listed.size := by omega
        have : false ∈ listed.toList := by
          unfold lst at hl
          simp [hi'] at hl
          rw [← hl]; simp
        have := List.count_pos_iff.2 this
        omega
      · rfl
    refine ⟨?_, done _ a w hall hI⟩
    refine List.eq_nil_iff_forall_not_mem.2 fun i hi => ?_
    obtain ⟨h1, o, h2, _⟩ := mem_ready.1 hi
    have hi' : i < ops.size := (Array.getElem?_eq_some_iff.1 h2).1
    have h3 := hall i hi'
    unfold lst at h3
    have hi'' : i < listed.size := by omega
    simp [hi''] at h1 h3
    rw [h3] at h1; cases h1
  | succ fuel ih =>
    intro listed a w hs hc hcl hI
    refine ⟨fun h => done _ a w (ready_none ho hs h) hI, fun i hi => ?_⟩
    obtain ⟨h1, o, h2, h3⟩ := mem_ready.1 hi
    have hi' : i < ops.size := (Array.getElem?_eq_some_iff.1 h2).1
    have hil : i < listed.size := by omega
    have h1' : listed[i] = false := by simpa [hil] using h1
    refine wpOp_step h2 fun K hK => step i o (lst listed) a w h2 ?_ h3 hcl hI K fun a' w' hI' => hK a' w' (ih _ a' w' (by simpa using hs) ?_ ?_ ?_)
    · unfold lst; simp [hil, h1']
    · have hcs := List.count_set (l := listed.toList) (i := i) (a := true) (b := false) (by simpa using hil)
      have hp : 0 < listed.toList.count false := List.count_pos_iff.2 (by
        have := List.getElem_mem (l := listed.toList) (n := i) (by simpa using hil)
        rw [Array.getElem_toList, h1'] at this; exact this)
      simp [h1'] at hcs
      simp only [Array.toList_setIfInBounds]
      have e : (listed.toList.set i true).count false = listed.toList.count false - 1 := by rw [hcs]; simp
      omega
    · rw [lst_set hil]; exact hcl.upd h2 h3
    · rw [lst_set hil]; exact hI'

theorem wp_region_inv {id : Nat} {a : Act} {w : World} (hm : P.follows .mixedOrders = true) (ho : ordB ops = true) (I : (Nat → Bool) → Act → World → Prop)
    (h0 : I (fun _ => false) a w.drew)
    (step : ∀ i o L a w, ops[i]? = some o → L i = false → (∀ e ∈ o.after, Region.binds .any e = true → L e.on = true) → ClosedL ops L → I L a w →
      ∀ K : Act → World → Prop, (∀ a' w', I (updL L i) a' w' → K a' w') → if Region.wanted o (yielded ops a.tmps) = true then Oper.wp P o a w K Q else K (a.put o.dst undef) w)
    (done : ∀ L a w, (∀ i, i < ops.size → L i = true) → I L a w → Q .normal a w) : (Code.region id ops true).wp P Q a w := by
  have e : lst (Array.replicate ops.size false) = fun _ => false := by
    funext j
    unfold lst
    rcases Nat.lt_or_ge j ops.size with h | h
    · simp [h]
    · simp [h]
  refine wp_region_any hm (wpAny_inv ho I step done _ _ _ _ (by simp) (by simp) ?_ ?_)
  · rw [e]; exact fun _ _ _ h => by cases h
  · rw [e]; exact h0
end

/-! the frame: only some slots have changed -/
def Sm (S : List Nat) (a0 a : Act) : Prop := a.tmps.size = a0.tmps.size ∧ a.defers = a0.defers ∧ ∀ m, m ∉ S → a.tmps[m]? = a0.tmps[m]?
theorem Sm.refl (S) (a : Act) : Sm S a a := ⟨rfl, rfl, fun _ _ => rfl⟩
theorem Sm.put {S : List Nat} {a0 a : Act} (h : Sm S a0 a) {m : Nat} (hm : m ∈ S) (v : Value) : Sm S a0 (a.put (some m) v) := by
  refine ⟨by simp [Act.put, h.1], by simp [Act.put, h.2.1], fun n hn => ?_⟩
  have : n ≠ m := fun e => hn (e ▸ hm)
  simp only [Act.put, Array.getElem?_setIfInBounds]
  rw [if_neg (fun e => this e.symm)]
  exact h.2.2 n hn
theorem eval_tmp (a : Act) (m : Nat) : a.eval (.tmp m) = a.tmps.getD m undef := rfl
theorem Sm.eval {S : List Nat} {a0 a : Act} (h : Sm S a0 a) {m : Nat} (hm : m ∉ S) : a.eval (.tmp m) = a0.eval (.tmp m) := by
  rw [eval_tmp, eval_tmp, Array.getD_eq_getD_getElem?, Array.getD_eq_getD_getElem?, h.2.2 m hm]
theorem eval_put_same {a : Act} {m : Nat} (h : m < a.tmps.size) (v : Value) : (a.put (some m) v).eval (.tmp m) = v := by
  rw [eval_tmp]; simp [Act.put, h]
theorem eval_put_other {a : Act} {m n : Nat} (h : n ≠ m) (v : Value) : (a.put (some m) v).eval (.tmp n) = a.eval (.tmp n) := by
  rw [eval_tmp, eval_tmp]
  simp only [Act.put, Array.getD_eq_getD_getElem?, Array.getElem?_setIfInBounds]
  rw [if_neg (fun e => h e.symm)]
theorem fold_put_size (f : Nat → Value) (S : List Nat) : ∀ a : Act, (S.foldl (fun b m => b.put (some m) (f m)) a).tmps.size = a.tmps.size ∧ (S.foldl (fun b m => b.put (some m) (f m)) a).defers = a.defers := by
  induction S with
  | nil => intro a; exact ⟨rfl, rfl⟩
  | cons m S ih => intro a; rw [List.foldl_cons]; have := ih (a.put (some m) (f m)); simpa [Act.put] using this
theorem fold_put_get (f : Nat → Value) (S : List Nat) : ∀ (a : Act) (n : Nat), n < a.tmps.size → (S.foldl (fun b m => b.put (some m) (f m)) a).tmps[n]? = if n ∈ S then some (f n) else a.tmps[n]? := by
  induction S with
  | nil => intro a n _; simp
  | cons m S ih =>
    intro a n hn
    rw [List.foldl_cons, ih _ n (by simpa [Act.put] using hn)]
    by_cases h : n ∈ S
    · rw [if_pos h, if_pos (by simp [h])]
    · rw [if_neg h]
      by_cases e : n = m
      · subst e; rw [if_pos (by simp)]; simp [Act.put, hn]
      · rw [if_neg (by simp [e, h])]
        simp only [Act.put, Array.getElem?_setIfInBounds]
        rw [if_neg (fun h => e h.symm)]
/-- the frame, written out -/
theorem Sm.lit {S : List Nat} {a0 a : Act} (h : Sm S a0 a) : a = S.foldl (fun b m => b.put (some m) (a.eval (.tmp m))) a0 := by
  obtain ⟨h1, h2, h3⟩ := h
  have hz := fold_put_size (fun m => a.eval (.tmp m)) S a0
  have hg := fold_put_get (fun m => a.eval (.tmp m)) S a0
  generalize hb : S.foldl (fun b m => b.put (some m) (a.eval (.tmp m))) a0 = b at *
  cases a with
  | mk at_ ad =>
  cases b with
  | mk bt bd =>
  dsimp only at *
  have e1 : at_ = bt := by
    apply Array.ext
    · omega
    · intro i hi hj
      have := hg i (by omega)
      rw [Array.getElem?_eq_getElem hj] at this
      by_cases hS : i ∈ S
      · rw [if_pos hS, eval_tmp] at this
        simp [hi] at this
        exact this.symm
      · rw [if_neg hS, ← h3 i hS, Array.getElem?_eq_getElem hi] at this
        simpa using this.symm
  rw [e1, h2, hz.2]
end Go.Proofs.YtlmfcigabojbmaaGreatDoor
