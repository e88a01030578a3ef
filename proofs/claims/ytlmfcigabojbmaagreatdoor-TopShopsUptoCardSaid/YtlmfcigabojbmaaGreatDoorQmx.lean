/- Regions that draw their order, in which some operations make or write memory: the others are reckoned in one go. -/
import Derived.Test.YtlmfcigabojbmaaGreatDoorQev
import Derived.Test.YtlmfcigabojbmaaGreatDoorInv
import Derived.Orders
set_option linter.unusedSimpArgs false
set_option linter.unusedVariables false
namespace Go.Proofs.YtlmfcigabojbmaaGreatDoor
open Go.RowKit

def dstsL (l : List Oper) : List Nat := l.filterMap (·.dst)
/-- those that are not special, by their numbers -/
def quietL (sp : List Nat) : Nat → List Oper → List Oper
  | _, [] => []
  | i, o :: l => match sp.contains i with | true => quietL sp (i + 1) l | false => o :: quietL sp (i + 1) l
def selB (o : Oper) : Bool := match o.op with | .select .. => false | _ => true
/-- of the quiet ones: none looks at a slot that is written by it or behind it; each writes a slot of its own -/
def chkB (ops : Array Oper) : List Oper → Bool
  | [] => true
  | o :: l => (o.looksAt ops).all (fun m => !(dstsL (o :: l)).contains m) && (match o.dst with | some n => !(dstsL l).contains n | none => false) && selB o && chkB ops l
def nodB : List Nat → Bool
  | [] => true
  | n :: l => !l.contains n && nodB l
/-- a special operation that writes slot m waits for operation i -/
def befB (sp : List Nat) (ops : Array Oper) (i m : Nat) : Bool := (List.range ops.size).any fun j => match ops[j]? with
  | some oj => oj.dst == some m && sp.contains j && oj.after.any fun e => Region.binds .any e && (e.on == i || match ops[e.on]? with | some oe => oe.after.any fun e' => Region.binds .any e' && e'.on == i | none => false)
  | none => false
/-- what one looks at, it waits for (or it is written later by a special one); a quiet one looks at quiet ones alone; a special one has no guard -/
def depB (sp : List Nat) (ops : Array Oper) : Bool := (List.range ops.size).all fun i => match ops[i]? with
  | some o => ((o.looksAt ops).all fun m => !(dstsL ops.toList).contains m || o.after.any (fun e => Region.binds .any e && (sp.contains i || !sp.contains e.on) && (match ops[e.on]? with | some oj => oj.dst == some m | none => false)) || (!sp.contains i && befB sp ops i m)) && (!sp.contains i || o.guard.isNone)
  | none => true
theorem befB_spec {sp : List Nat} {ops : Array Oper} {i m : Nat} (h : befB sp ops i m = true) : ∃ (j : Nat) (oj : Oper), ops[j]? = some oj ∧ oj.dst = some m ∧ sp.contains j = true ∧ ∀ L : Nat → Bool, ClosedL ops L → L j = true → L i = true := by
  unfold befB at h
  rw [List.any_eq_true] at h
  obtain ⟨j, _, h⟩ := h
  split at h
  · rename_i oj hoj
    simp only [Bool.and_eq_true] at h
    obtain ⟨⟨h1, h2⟩, h3⟩ := h
    rw [Array.any_eq_true'] at h3
    obtain ⟨e, he, h4⟩ := h3
    simp only [Bool.and_eq_true, Bool.or_eq_true] at h4
    obtain ⟨hb, h5⟩ := h4
    refine ⟨j, oj, hoj, eq_of_beq h1, h2, fun L hL hl => ?_⟩
    have h6 := hL j oj hoj hl e he hb
    rcases h5 with h5 | h5
    · rw [eq_of_beq h5] at h6; exact h6
    · split at h5
      · rename_i oe hoe
        rw [Array.any_eq_true'] at h5
        obtain ⟨e', he', h7⟩ := h5
        simp only [Bool.and_eq_true] at h7
        have h8 := hL e.on oe hoe h6 e' he' h7.1
        rw [eq_of_beq h7.2] at h8; exact h8
      · cases h5
  · cases h
theorem depB_spec {sp : List Nat} {ops : Array Oper} (h : depB sp ops = true) {i : Nat} {o : Oper} (ho : ops[i]? = some o) : (∀ m ∈ o.looksAt ops, m ∈ dstsL ops.toList → (∃ e ∈ o.after, Region.binds .any e = true ∧ (sp.contains i = false → sp.contains e.on = false) ∧ ∃ oj, ops[e.on]? = some oj ∧ oj.dst = some m) ∨ (sp.contains i = false ∧ befB sp ops i m = true)) ∧ (sp.contains i = true → o.guard = none) := by
  have hi : i < ops.size := (Array.getElem?_eq_some_iff.1 ho).1
  unfold depB at h
  rw [List.all_eq_true] at h
  have := h i (List.mem_range.2 hi)
  rw [ho] at this
  simp only [Bool.and_eq_true] at this
  obtain ⟨h1, h2⟩ := this
  refine ⟨fun m hm hd => ?_, fun hs => ?_⟩
  · have := List.all_eq_true.1 h1 m hm
    rw [List.contains_iff_mem.2 hd, Bool.not_true, Bool.false_or, Bool.or_eq_true] at this
    rcases this with this | this
    · rw [Array.any_eq_true'] at this
      obtain ⟨e, he, h3⟩ := this
      simp only [Bool.and_eq_true, Bool.or_eq_true, Bool.not_eq_true'] at h3
      obtain ⟨⟨h4, h5⟩, h6⟩ := h3
      refine .inl ⟨e, he, h4, fun hn => ?_, ?_⟩
      · rcases h5 with h5 | h5
        · rw [hn] at h5; cases h5
        · exact h5
      · split at h6
        · rename_i oj hoj; exact ⟨oj, hoj, eq_of_beq h6⟩
        · cases h6
    · simp only [Bool.and_eq_true, Bool.not_eq_true'] at this
      exact .inr this
  · rw [hs, Bool.not_true, Bool.false_or] at h2
    exact Option.isNone_iff_eq_none.1 h2
def StepOK (ops : Array Oper) (C : World → Prop) (R : World → World → Prop) (o : Oper) (a : Act) (v : Value) : Prop :=
  if Region.wanted o (yielded ops a.tmps) = true then Yd o a C R v else v = undef
theorem eval_at (a : Act) (m : Nat) : a.eval (.tmp m) = (a.tmps[m]?).getD undef := by simp [Act.eval, Array.getD_eq_getD_getElem?]
theorem look_same {ops : Array Oper} {o : Oper} {a a' : Act} (hs : selB o = true) (h : ∀ m ∈ o.looksAt ops, a.tmps[m]? = a'.tmps[m]?) : execOp a.eval o = execOp a'.eval o ∧ Region.wanted o (yielded ops a.tmps) = Region.wanted o (yielded ops a'.tmps) := by
  constructor
  · refine execOp_congr o (fun cs b hc => by unfold selB at hs; rw [hc] at hs; cases hs) fun x hx => ?_
    cases x with
    | tmp t =>
      rw [eval_at, eval_at, h t (List.mem_append_left _ (List.mem_filterMap.2 ⟨.tmp t, by simpa using hx, rfl⟩))]
    | const v => rfl
    | global g => rfl
    | func f => rfl
  · unfold Region.wanted
    cases hg : o.guard with
    | none => rfl
    | some gw =>
      obtain ⟨g, want⟩ := gw
      dsimp only
      unfold yielded
      cases ht : (ops[g]?).bind (·.dst) with
      | none => rfl
      | some t =>
        simp only [Option.bind_some]
        rw [h t (by simp [Oper.looksAt, hg, ht])]
theorem StepOK.same {ops : Array Oper} {C : World → Prop} {R : World → World → Prop} {o : Oper} {a a' : Act} {v : Value} (h : StepOK ops C R o a v) (hs : selB o = true) (hl : ∀ m ∈ o.looksAt ops, a.tmps[m]? = a'.tmps[m]?) : StepOK ops C R o a' v := by
  obtain ⟨h1, h2⟩ := look_same hs hl
  unfold StepOK Yd Oper.quietAt at *
  rw [← h1, ← h2]
  exact h
theorem put_at {a : Act} {n m : Nat} {v : Value} (h : m ≠ n) : (a.put (some n) v).tmps[m]? = a.tmps[m]? := by
  simp [Act.put, Array.getElem?_setIfInBounds_ne (Ne.symm h)]
theorem put_self {a : Act} {n : Nat} {v : Value} (h : n < a.tmps.size) : (a.put (some n) v).tmps[n]? = some v := by
  simp [Act.put, h]
theorem mem_dsts {l : List Oper} {o : Oper} {n : Nat} (h : o ∈ l) (hd : o.dst = some n) : n ∈ dstsL l := List.mem_filterMap.2 ⟨o, h, hd⟩
section
variable {a0 : Act} {ps : List (Nat × Nat)} {T : QTab} {E : List Ob} {C : World → Prop} {R : World → World → Prop} {hs : List (Nat × Hint)}
theorem evL_fin (P : psOk a0 E ps) (hT : T.Ok) (hE : ObsIn C E) {ops : List Oper} (hz : (ops.all fun o => match o.dst with | some n => decide (n < a0.tmps.size) | none => true) = true) {Fin : List Ent → Prop} :
    ∀ (rest : List Oper) (S : List Ent) (H : List (Nat × Bool)) (a : Act), (∀ o ∈ rest, o ∈ ops) → chkB ops.toArray rest = true → InvQ a0 a E S H → evL a0 ps T E C R hs ops Fin rest S →
      ∃ S' H' af, InvQ a0 af E S' H' ∧ Fin S' ∧ (∀ n, n ∉ dstsL rest → af.tmps[n]? = a.tmps[n]?) ∧ (∀ o ∈ rest, ∀ n, o.dst = some n → StepOK ops.toArray C R o af (af.eval (.tmp n))) ∧ ∀ e ∈ S', e ∈ S ∨ ∃ o ∈ rest, o.dst = some e.n
  | [], S, H, a, _, _, I, h => ⟨S, H, a, I, h, fun _ _ => rfl, fun o ho => (by cases ho), fun e he => .inl he⟩
  | o :: rest, S, H, a, hm, hc, I, h => by
    unfold evL at h
    split at h
    · cases h
    · rename_i n hd
      split at h
      · cases h
      · rename_i hn
        split at h
        · cases h
        · rename_i path hg
          obtain ⟨g1, g2⟩ := guardP_sound I hg hz
          obtain ⟨r, h1, h2⟩ := evOp_sound I P hT hE h
          have hlt : n < a0.tmps.size := by
            have := List.all_eq_true.1 hz o (hm o (List.mem_cons_self ..))
            rw [hd] at this
            exact of_decide_eq_true this
          have I' := I.next (s := r) hn g2 hlt
          unfold chkB at hc
          rw [hd] at hc
          simp only [Bool.and_eq_true, Bool.not_eq_true', List.all_eq_true] at hc
          obtain ⟨⟨⟨c1, c2⟩, c3⟩, c4⟩ := hc
          obtain ⟨S', H', af, k1, k2, k3, k4, k5⟩ := evL_fin P hT hE hz rest _ _ _ (fun o' ho' => hm o' (List.mem_cons_of_mem _ ho')) c4 I' h1
          have c2' : n ∉ dstsL rest := by simpa using c2
          have hlook : ∀ m ∈ o.looksAt ops.toArray, a.tmps[m]? = af.tmps[m]? := fun m hm2 => by
            have := c1 m hm2
            have hmn : m ≠ n := fun e => by subst e; simp [dstsL, hd] at this
            have hmr : m ∉ dstsL rest := fun e => by
              have e' : m ∈ dstsL (o :: rest) := by unfold dstsL at e ⊢; rw [List.filterMap_cons, hd]; exact List.mem_cons_of_mem _ e
              simp [e'] at this
            rw [k3 m hmr, put_at hmn]
          have hn2 : af.tmps[n]? = some (valE E H ⟨n, path, r⟩) := by
            rw [k3 n c2', put_self (by rw [I.size]; exact hlt)]
          refine ⟨S', H', af, k1, k2, fun m hmn => ?_, fun o' ho' n' hd' => ?_, fun e he => ?_⟩
          · have hne : m ≠ n := fun e => hmn (by subst e; exact mem_dsts (List.mem_cons_self ..) hd)
            rw [k3 m (fun e => hmn (by unfold dstsL at e ⊢; rw [List.filterMap_cons, hd]; exact List.mem_cons_of_mem _ e)), put_at hne]
          · rcases List.mem_cons.1 ho' with rfl | ho'
            · rw [hd] at hd'; cases hd'
              rw [eval_at, hn2, Option.getD_some]
              refine StepOK.same ?_ c3 hlook
              unfold StepOK
              rw [g1]
              by_cases hp : onB H path = true
              · rw [if_pos hp]
                have e : valE E H ⟨n, path, r⟩ = r.den E := by unfold valE; rw [hp]; rfl
                rw [e]; exact h2 hp
              · rw [if_neg hp]
                unfold valE; simp only [Bool.not_eq_true] at hp; rw [hp]; rfl
            · exact k4 o' ho' n' hd'
          · rcases k5 e he with h5 | ⟨o', h5, h6⟩
            · rcases List.mem_cons.1 h5 with rfl | h5
              · exact .inr ⟨o, List.mem_cons_self .., hd⟩
              · exact .inl h5
            · exact .inr ⟨o', List.mem_cons_of_mem _ h5, h6⟩
def updS (s : Nat → Option Value) (i : Nat) (v : Value) : Nat → Option Value := fun j => if j = i then some v else s j
theorem updS_same (s : Nat → Option Value) (i : Nat) (v : Value) : updS s i v i = some v := by simp [updS]
theorem updS_other {s : Nat → Option Value} {i j : Nat} {v : Value} (h : j ≠ i) : updS s i v j = s j := by simp [updS, h]
variable (a0 E C)
/-- what is owed for a special operation -/
def SpecAt (J : (Nat → Option Value) → World → Prop) (sp : List Nat) (ops : List Oper) (Q : Exit → Act → World → Prop) (S : List Ent) (i : Nat) : Prop :=
  ∀ (o : Oper) (a : Act) (w : World) (s : Nat → Option Value), ops[i]? = some o → C w → J s w → s i = none →
    (∀ m ∈ o.looksAt ops.toArray, ∀ e, lookS S m = some e → e.path = [] → a.eval (.tmp m) = e.sw.den E) →
    (∀ m, m ∉ dstsL ops → a.eval (.tmp m) = a0.eval (.tmp m)) →
    (∀ e ∈ o.after, Region.binds .any e = true → sp.contains e.on = true → ∃ v, s e.on = some v ∧ ∀ oj n, ops[e.on]? = some oj → oj.dst = some n → a.eval (.tmp n) = v) →
    ∀ K : Act → World → Prop, (∀ v w', C w' → J (updS s i v) w' → K (a.put o.dst v) w') → o.wp Tryz.prog a w K Q
def SpecL (J : (Nat → Option Value) → World → Prop) (sp : List Nat) (ops : List Oper) (Q : Exit → Act → World → Prop) (S : List Ent) : List Nat → Prop
  | [] => True
  | i :: l => SpecAt a0 E C J sp ops Q S i ∧ SpecL J sp ops Q S l
def spD (sp : List Nat) : Nat → List Oper → List Nat
  | _, [] => []
  | i, o :: l => match sp.contains i with
    | true => (match o.dst with | some n => n :: spD sp (i + 1) l | none => spD sp (i + 1) l)
    | false => spD sp (i + 1) l
def setsN (f : Nat → Value) : List Nat → List Value → (List Value → Prop) → Prop
  | [], l, k => k l
  | n :: ns, l, k => setsN f ns l fun l' => setN l' n (f n) k
def evMix (J : (Nat → Option Value) → World → Prop) (sp : List Nat) (ops : List Oper) (outs : List (Nat × Value)) (Q : Exit → Act → World → Prop) (S : List Ent) : Prop :=
  SpecL a0 E C J sp ops Q S sp ∧ ∀ (f : Nat → Value) (s : Nat → Option Value), (∀ i, sp.contains i = true → ∀ o, ops[i]? = some o → ∃ v, s i = some v ∧ ∀ n, o.dst = some n → v = f n) → match a0 with
    | ⟨⟨l⟩, d⟩ => finS E outs f S l fun l' => setsN f (spD sp 0 ops) l' fun l'' => ∀ w', C w' → J s w' → Q .normal ⟨l''.toArray, d⟩ w'
variable {a0 E C}
theorem SpecL.at {J : (Nat → Option Value) → World → Prop} {sp : List Nat} {ops : List Oper} {Q : Exit → Act → World → Prop} {S : List Ent} {i : Nat} : ∀ {l : List Nat}, SpecL a0 E C J sp ops Q S l → i ∈ l → SpecAt a0 E C J sp ops Q S i
  | [], _, hi => by cases hi
  | j :: l, h, hi => by
    rcases List.mem_cons.1 hi with rfl | hi
    · exact h.1
    · exact SpecL.at h.2 hi
theorem setsN_eq (f : Nat → Value) : ∀ (ns : List Nat) (l : List Value) (k : List Value → Prop), setsN f ns l k = k (ns.foldr (fun n l => l.set n (f n)) l)
  | [], _, _ => rfl
  | n :: ns, l, k => by rw [setsN, setsN_eq f ns, setN_eq, List.foldr_cons]
theorem mem_quietL {sp : List Nat} {o : Oper} : ∀ {l : List Oper} {i : Nat}, o ∈ quietL sp i l → ∃ k, l[k]? = some o ∧ sp.contains (i + k) = false
  | [], _, h => by cases h
  | x :: l, i, h => by
    unfold quietL at h
    split at h
    · obtain ⟨k, h1, h2⟩ := mem_quietL h
      exact ⟨k + 1, by rw [List.getElem?_cons_succ]; exact h1, by rw [← h2]; congr 1; omega⟩
    · rename_i hq
      rcases List.mem_cons.1 h with rfl | h
      · exact ⟨0, rfl, hq⟩
      · obtain ⟨k, h1, h2⟩ := mem_quietL h
        exact ⟨k + 1, by rw [List.getElem?_cons_succ]; exact h1, by rw [← h2]; congr 1; omega⟩
theorem quietL_mem {sp : List Nat} {o : Oper} : ∀ {l : List Oper} {i k : Nat}, l[k]? = some o → sp.contains (i + k) = false → o ∈ quietL sp i l
  | [], _, _, h, _ => by simp at h
  | x :: l, i, 0, h, hs => by
    have e : x = o := by simpa using h
    subst e
    unfold quietL
    split
    · rename_i hq; rw [Nat.add_zero, hq] at hs; cases hs
    · exact List.mem_cons_self ..
  | x :: l, i, k + 1, h, hs => by
    have h' : l[k]? = some o := by simpa using h
    have := quietL_mem (i := i + 1) h' (by rw [← hs]; congr 1; omega)
    unfold quietL
    split
    · exact this
    · exact List.mem_cons_of_mem _ this
theorem mem_spD {sp : List Nat} {n : Nat} : ∀ {l : List Oper} {i : Nat}, n ∈ spD sp i l → ∃ k o, l[k]? = some o ∧ sp.contains (i + k) = true ∧ o.dst = some n
  | [], _, h => by cases h
  | x :: l, i, h => by
    unfold spD at h
    split at h
    · rename_i hq
      split at h
      · rename_i m hm
        rcases List.mem_cons.1 h with rfl | h
        · exact ⟨0, x, rfl, hq, hm⟩
        · obtain ⟨k, o, h1, h2, h3⟩ := mem_spD h
          exact ⟨k + 1, o, by rw [List.getElem?_cons_succ]; exact h1, by rw [← h2]; congr 1; omega, h3⟩
      · obtain ⟨k, o, h1, h2, h3⟩ := mem_spD h
        exact ⟨k + 1, o, by rw [List.getElem?_cons_succ]; exact h1, by rw [← h2]; congr 1; omega, h3⟩
    · obtain ⟨k, o, h1, h2, h3⟩ := mem_spD h
      exact ⟨k + 1, o, by rw [List.getElem?_cons_succ]; exact h1, by rw [← h2]; congr 1; omega, h3⟩
theorem spD_mem {sp : List Nat} {n : Nat} {o : Oper} : ∀ {l : List Oper} {i k : Nat}, l[k]? = some o → sp.contains (i + k) = true → o.dst = some n → n ∈ spD sp i l
  | [], _, _, h, _, _ => by simp at h
  | x :: l, i, 0, h, hs, hd => by
    have e : x = o := by simpa using h
    subst e
    unfold spD
    rw [Nat.add_zero] at hs
    simp only [hs, hd]
    exact List.mem_cons_self ..
  | x :: l, i, k + 1, h, hs, hd => by
    have h' : l[k]? = some o := by simpa using h
    have := spD_mem (i := i + 1) h' (by rw [← hs]; congr 1; omega) hd
    unfold spD
    split
    · split
      · exact List.mem_cons_of_mem _ this
      · exact this
    · exact this
theorem nod_unique : ∀ {ops : List Oper} {i j n : Nat} {o o' : Oper}, nodB (dstsL ops) = true → ops[i]? = some o → ops[j]? = some o' → o.dst = some n → o'.dst = some n → i = j
  | [], _, _, _, _, _, _, h, _, _, _ => by simp at h
  | x :: l, 0, 0, _, _, _, _, _, _, _, _ => rfl
  | x :: l, 0, j + 1, n, o, o', h, hi, hj, hd, hd' => by
    have e : x = o := by simpa using hi
    subst e
    have hj' : l[j]? = some o' := by simpa using hj
    have hm := mem_dsts (List.mem_of_getElem? hj') hd'
    unfold dstsL at h
    rw [List.filterMap_cons, hd] at h
    simp only [nodB, Bool.and_eq_true, Bool.not_eq_true'] at h
    have := h.1
    rw [List.contains_iff_mem.2 (show n ∈ List.filterMap (·.dst) l from hm)] at this
    cases this
  | x :: l, i + 1, 0, n, o, o', h, hi, hj, hd, hd' => by
    have e : x = o' := by simpa using hj
    subst e
    have hi' : l[i]? = some o := by simpa using hi
    have hm := mem_dsts (List.mem_of_getElem? hi') hd
    unfold dstsL at h
    rw [List.filterMap_cons, hd'] at h
    simp only [nodB, Bool.and_eq_true, Bool.not_eq_true'] at h
    have := h.1
    rw [List.contains_iff_mem.2 (show n ∈ List.filterMap (·.dst) l from hm)] at this
    cases this
  | x :: l, i + 1, j + 1, n, o, o', h, hi, hj, hd, hd' => by
    have h' : nodB (dstsL l) = true := by
      unfold dstsL at h ⊢
      rw [List.filterMap_cons] at h
      split at h
      · exact h
      · simp only [nodB, Bool.and_eq_true] at h; exact h.2
    have := nod_unique (i := i) (j := j) h' (by simpa using hi) (by simpa using hj) hd hd'
    omega
theorem get_sets {f : Nat → Value} {tgt : List Value} : ∀ {ns : List Nat} {l0 : List Value}, l0.length = tgt.length → (∀ n ∈ ns, tgt[n]? = some (f n)) → (∀ m, m ∉ ns → l0[m]? = tgt[m]?) → ns.foldr (fun n l => l.set n (f n)) l0 = tgt := by
  intro ns l0 hl h1 h2
  apply List.ext_getElem?
  intro m
  have key : ∀ ms : List Nat, (∀ n ∈ ms, n ∈ ns) → (ms.foldr (fun n l => l.set n (f n)) l0).length = l0.length ∧ (m ∈ ms → (ms.foldr (fun n l => l.set n (f n)) l0)[m]? = tgt[m]?) ∧ (m ∉ ms → (ms.foldr (fun n l => l.set n (f n)) l0)[m]? = l0[m]?) := by
    intro ms
    induction ms with
    | nil => exact fun _ => ⟨rfl, fun h => (by cases h), fun _ => rfl⟩
    | cons n ms ih =>
      intro hms
      obtain ⟨i1, i2, i3⟩ := ih fun x hx => hms x (List.mem_cons_of_mem _ hx)
      refine ⟨by rw [List.foldr_cons, List.length_set]; exact i1, fun hm => ?_, fun hm => ?_⟩
      · rw [List.foldr_cons]
        by_cases e : n = m
        · subst e
          have hn := h1 n (hms n (List.mem_cons_self ..))
          have hlt : n < tgt.length := (List.getElem?_eq_some_iff.1 hn).1
          rw [List.getElem?_set_self (by omega), hn]
        · rw [List.getElem?_set_ne e]
          rcases List.mem_cons.1 hm with rfl | hm
          · exact absurd rfl e
          · exact i2 hm
      · rw [List.foldr_cons, List.getElem?_set_ne (fun e => hm (by rw [e]; exact List.mem_cons_self ..))]
        exact i3 fun h => hm (List.mem_cons_of_mem _ h)
  obtain ⟨_, k2, k3⟩ := key ns (fun _ h => h)
  by_cases hm : m ∈ ns
  · exact k2 hm
  · rw [k3 hm]; exact h2 m hm
structure MixI (a0 af : Act) (ops : List Oper) (sp : List Nat) (C : World → Prop) (J : (Nat → Option Value) → World → Prop) (L : Nat → Bool) (a : Act) (w : World) : Prop where
  c : C w
  df : a.defers = a0.defers
  sz : a.tmps.size = a0.tmps.size
  q : ∀ i o n, ops[i]? = some o → sp.contains i = false → L i = true → o.dst = some n → a.tmps[n]? = af.tmps[n]?
  old : ∀ m, m ∉ dstsL ops → a.tmps[m]? = a0.tmps[m]?
  nt : ∀ i o n, ops[i]? = some o → L i = false → o.dst = some n → a.tmps[n]? = a0.tmps[n]?
  j : ∃ s, J s w ∧ (∀ i, sp.contains i = true → L i = true → ∃ v, s i = some v ∧ ∀ o n, ops[i]? = some o → o.dst = some n → a.tmps[n]? = some v) ∧ (∀ i, L i = false → s i = none)
theorem put_size (a : Act) (d : Option Tmp) (v : Value) : (a.put d v).tmps.size = a.tmps.size := by cases d <;> simp [Act.put]
theorem put_defs (a : Act) (d : Option Tmp) (v : Value) : (a.put d v).defers = a.defers := by cases d <;> rfl
theorem put_away {a : Act} {d : Option Tmp} {m : Nat} {v : Value} (h : ∀ n, d = some n → m ≠ n) : (a.put d v).tmps[m]? = a.tmps[m]? := by
  cases d with
  | none => rfl
  | some n => exact put_at (h n rfl)
theorem wp_of_at {P : Program} {o : Oper} {a : Act} {K : Act → World → Prop} {Q' : Exit → Act → World → Prop} {w : World} {v : Value} {D : World → Prop} (hK : ∀ w', w' = w ∨ D w' → K (a.put o.dst v) w') (h : o.quietAt P a D w v) : o.wp P a w K Q' := by
  unfold Oper.quietAt at h
  unfold Oper.wp
  generalize (execOp a.eval o).run P w = r at *
  cases r with
  | ok n w' =>
    cases n <;> simp only [Oper.quietUpon] at h <;> simp only [Oper.upon]
    case value u =>
      obtain ⟨e1, e2⟩ := h
      rw [e1, e2]
      exact hK _ (.inl rfl)
    case skip =>
      obtain ⟨e1, e2⟩ := h
      rw [e1]
      have := hK w (.inl rfl)
      rw [e2] at this
      exact this
    case enter f args =>
      obtain ⟨e1, hc⟩ := h
      rw [e1]
      exact hc.mono fun e w'' ⟨he, hw''⟩ => by subst he; exact hK _ (.inr hw'')
  | halt x w' => simp only [Oper.quietUpon] at h
theorem wp_of_run {P : Program} {o : Oper} {a : Act} {K : Act → World → Prop} {Q' : Exit → Act → World → Prop} {w w' : World} {v : Value} (h : (execOp a.eval o).run P w = .ok (.value v) w') (hK : K (a.put o.dst v) w') : o.wp P a w K Q' := by
  unfold Oper.wp; rw [h]; exact hK
theorem wp_of_skip {P : Program} {o : Oper} {a : Act} {K : Act → World → Prop} {Q' : Exit → Act → World → Prop} {w w' : World} (h : (execOp a.eval o).run P w = .ok .skip w') (hK : K (a.put o.dst undef) w') : o.wp P a w K Q' := by
  unfold Oper.wp; rw [h]; exact hK
theorem mix_core {id : Nat} {Q : Exit → Act → World → Prop} {w : World} {ops : List Oper} (sp : List Nat) (E : List Ob) (C : World → Prop) (R : World → World → Prop) (outs : List (Nat × Value))
    (J : (Nat → Option Value) → World → Prop)
    (hz : (ops.all fun o => match o.dst with | some n => decide (n < a0.tmps.size) | none => true) = true) (hm : Tryz.prog.follows .mixedOrders = true)
    (hst : (ordB ops.toArray && nodB (dstsL ops) && chkB ops.toArray (quietL sp 0 ops) && depB sp ops.toArray) = true)
    (hC : C w.drew) (hJ : J (fun _ => none) w.drew) (hR : ∀ w w', C w → R w w' → C w') (hRd : ∀ w, C w → R w w) (hJR : ∀ s w w', C w → J s w → R w w' → J s w')
    {S : List Ent} {H : List (Nat × Bool)} {af : Act} (I : InvQ a0 af E S H) (hmix : evMix a0 E C J sp ops outs Q S) (f1 : ∀ n, n ∉ dstsL (quietL sp 0 ops) → af.tmps[n]? = a0.tmps[n]?)
    (f2 : ∀ o ∈ quietL sp 0 ops, ∀ n, o.dst = some n → StepOK ops.toArray C R o af (af.eval (.tmp n))) (f3 : ∀ e ∈ S, e ∈ ([] : List Ent) ∨ ∃ o ∈ quietL sp 0 ops, o.dst = some e.n) : (Code.region id ops.toArray true).wp Tryz.prog Q a0 w := by
  simp only [Bool.and_eq_true] at hst
  obtain ⟨⟨⟨s1, s2⟩, s3⟩, s4⟩ := hst
  have hsub : ∀ o ∈ quietL sp 0 ops, o ∈ ops := fun o ho => by obtain ⟨k, hk, _⟩ := mem_quietL ho; exact List.mem_of_getElem? hk
  obtain ⟨hsp, hfin⟩ := hmix
  have fout : ∀ n, n ∉ dstsL ops → af.tmps[n]? = a0.tmps[n]? := fun n hn => f1 n fun hq => by
    obtain ⟨o, ho, hd⟩ := List.mem_filterMap.1 hq
    exact hn (mem_dsts (hsub o ho) hd)
  have fkey : ∀ e ∈ S, ∃ i o, ops[i]? = some o ∧ sp.contains i = false ∧ o.dst = some e.n := fun e he => by
    rcases f3 e he with hx | ⟨o, ho, hd⟩
    · cases hx
    · obtain ⟨k, hk, hsk⟩ := mem_quietL ho
      exact ⟨k, o, hk, by rw [Nat.zero_add] at hsk; exact hsk, hd⟩
  have dcase : ∀ m, m ∈ dstsL ops → ∃ (i : Nat) (o : Oper), ops[i]? = some o ∧ o.dst = some m := fun m hm => by
    obtain ⟨o, ho, hd⟩ := List.mem_filterMap.1 hm
    obtain ⟨i, hi⟩ := List.mem_iff_getElem?.1 ho
    exact ⟨i, o, hi, hd⟩
  refine wp_region_inv hm s1 (MixI a0 af ops sp C J) ⟨hC, rfl, rfl, fun i o n _ _ hl _ => (by cases hl), fun _ _ => rfl, fun _ _ _ _ _ _ => rfl, ⟨_, hJ, fun i _ hl => (by cases hl), fun _ _ => rfl⟩⟩ ?_ ?_
  · rintro i o L a w1 hop hLi hdep hcl M K hK
    rw [List.getElem?_toArray] at hop
    have hopA : ops.toArray[i]? = some o := by rw [List.getElem?_toArray]; exact hop
    obtain ⟨d1, d2⟩ := depB_spec s4 hopA
    have d1' : ∀ m ∈ o.looksAt ops.toArray, m ∈ dstsL ops → (∃ e ∈ o.after, Region.binds .any e = true ∧ (sp.contains i = false → sp.contains e.on = false) ∧ ∃ oj, ops[e.on]? = some oj ∧ oj.dst = some m) ∨ (sp.contains i = false ∧ befB sp ops.toArray i m = true) := fun m hm hd => by
      have := d1 m hm hd
      simpa using this
    cases hspi : sp.contains i with
    | false =>
      have hq : o ∈ quietL sp 0 ops := quietL_mem (k := i) hop (by rw [Nat.zero_add]; exact hspi)
      have hlook : ∀ m ∈ o.looksAt ops.toArray, af.tmps[m]? = a.tmps[m]? := fun m hm => by
        by_cases hd : m ∈ dstsL ops
        · rcases d1' m hm hd with ⟨e, he, hb, hse, oj, hoj, hdj⟩ | ⟨_, hbf⟩
          · exact (M.q e.on oj m hoj (hse hspi) (hdep e he hb) hdj).symm
          · obtain ⟨j, oj, hoj, hdj, hsj, hlj⟩ := befB_spec hbf
            have hoj' : ops[j]? = some oj := by simpa using hoj
            have hj : L j = false := by
              cases hq : L j with
              | false => rfl
              | true => have := hlj L hcl hq; rw [hLi] at this; cases this
            rw [M.nt j oj m hoj' hj hdj]
            refine f1 m fun hq => ?_
            obtain ⟨o', ho', hd'⟩ := List.mem_filterMap.1 hq
            obtain ⟨k, hk, hsk⟩ := mem_quietL ho'
            rw [Nat.zero_add] at hsk
            have := nod_unique s2 hk hoj' hd' hdj
            subst this
            rw [hsj] at hsk; cases hsk
        · rw [fout m hd, M.old m hd]
      obtain ⟨n, hdn⟩ : ∃ n, o.dst = some n := by
        cases hd : o.dst with
        | some n => exact ⟨n, rfl⟩
        | none =>
          exfalso
          have gen : ∀ l : List Oper, chkB ops.toArray l = true → o ∈ l → False := by
            intro l
            induction l with
            | nil => intro _ h; cases h
            | cons x l ih =>
              intro hc hm
              unfold chkB at hc
              simp only [Bool.and_eq_true] at hc
              rcases List.mem_cons.1 hm with rfl | hm
              · have := hc.1.1.2; rw [hd] at this; cases this
              · exact ih hc.2 hm
          exact gen _ s3 hq
      have hsel : selB o = true := by
        have gen : ∀ l : List Oper, chkB ops.toArray l = true → o ∈ l → selB o = true := by
          intro l
          induction l with
          | nil => intro _ h; cases h
          | cons x l ih =>
            intro hc hm
            unfold chkB at hc
            simp only [Bool.and_eq_true] at hc
            rcases List.mem_cons.1 hm with rfl | hm
            · exact hc.1.2
            · exact ih hc.2 hm
        exact gen _ s3 hq
      have hst := (f2 o hq n hdn).same hsel hlook
      have hlt : n < a.tmps.size := by
        rw [M.sz]
        have := List.all_eq_true.1 hz o (List.mem_of_getElem? hop)
        rw [hdn] at this
        exact of_decide_eq_true this
      have hval : af.tmps[n]? = some (af.eval (.tmp n)) := by
        have : n < af.tmps.size := by rw [I.size, ← M.sz]; exact hlt
        rw [eval_at, Array.getElem?_eq_getElem this]; rfl
      have next : ∀ w', C w' → R w1 w' → MixI a0 af ops sp C J (updL L i) (a.put o.dst (af.eval (.tmp n))) w' := fun w' hc' hr' => by
        rw [hdn]
        refine ⟨hc', M.df, by rw [put_size]; exact M.sz, fun j oj m hoj hsj hlj hdj => ?_, fun m hm => ?_, fun j oj m hoj hlj hdj => ?_, ?_⟩
        · by_cases e : m = n
          · subst e
            rw [put_self hlt, hval]
          · rw [put_at e]
            have hji : j ≠ i := fun e2 => by
              subst e2
              rw [hop] at hoj; cases hoj
              rw [hdn] at hdj; cases hdj; exact e rfl
            rw [updL_other hji] at hlj
            exact M.q j oj m hoj hsj hlj hdj
        · rw [put_at (fun e => hm (by rw [e]; exact mem_dsts (List.mem_of_getElem? hop) hdn))]
          exact M.old m hm
        · have hji : j ≠ i := fun e => by subst e; rw [updL_same] at hlj; cases hlj
          rw [updL_other hji] at hlj
          rw [put_at (fun e => hji (nod_unique s2 hoj hop hdj (by rw [e]; exact hdn)))]
          exact M.nt j oj m hoj hlj hdj
        · obtain ⟨s, j1, j2, j3⟩ := M.j
          refine ⟨s, hJR s w1 w' M.c j1 hr', fun j hsj hlj => ?_, fun j hlj => ?_⟩
          · have hji : j ≠ i := fun e => by subst e; rw [hspi] at hsj; cases hsj
            rw [updL_other hji] at hlj
            obtain ⟨v, v1, v2⟩ := j2 j hsj hlj
            refine ⟨v, v1, fun oj m hoj hdj => ?_⟩
            rw [put_at (fun e => hji (nod_unique s2 hoj hop hdj (by rw [e]; exact hdn)))]
            exact v2 oj m hoj hdj
          · have hji : j ≠ i := fun e => by subst e; rw [updL_same] at hlj; cases hlj
            rw [updL_other hji] at hlj
            exact j3 j hlj
      unfold StepOK at hst
      split at hst
      · rename_i hw
        rw [if_pos hw]
        refine wp_of_at (D := R w1) (fun w' hw' => ?_) (hst w1 M.c)
        rcases hw' with rfl | hw'
        · exact hK _ _ (next _ M.c (hRd _ M.c))
        · exact hK _ _ (next _ (hR _ _ M.c hw') hw')
      · rename_i hw
        rw [if_neg hw]
        rw [← hst]
        exact hK _ _ (next _ M.c (hRd _ M.c))
    | true =>
      have hgd := d2 hspi
      rw [if_pos (by unfold Region.wanted; rw [hgd])]
      obtain ⟨s, j1, j2, j3⟩ := M.j
      refine (hsp.at (List.contains_iff_mem.1 hspi)) o a w1 s hop M.c j1 (j3 i hLi) (fun m hm e he hpe => ?_) (fun m hm => ?_) (fun e he hb hse => ?_) K fun v w' hc' hj' => hK _ _ ?_
      · obtain ⟨e1, e2⟩ := lookS_spec he
        obtain ⟨k, ok, hk, hsk, hdk⟩ := fkey e e1
        rw [e2] at hdk
        obtain ⟨e', he', hb', _, oj, hoj, hdj⟩ := (d1' m hm (mem_dsts (List.mem_of_getElem? hk) hdk)).resolve_right (fun h => by have := h.1; rw [hspi] at this; cases this)
        have hke : k = e'.on := nod_unique s2 hk hoj hdk hdj
        subst hke
        rw [eval_at, M.q e'.on oj m hoj hsk (hdep e' he' hb') hdj, ← eval_at, ← e2, I.val e e1]
        unfold valE; rw [hpe]; rfl
      · rw [eval_at, eval_at, M.old m hm]
      · obtain ⟨v, v1, v2⟩ := j2 e.on hse (hdep e he hb)
        exact ⟨v, v1, fun oj n hoj hdj => by rw [eval_at, v2 oj n hoj hdj]; rfl⟩
      · refine ⟨hc', by rw [put_defs]; exact M.df, by rw [put_size]; exact M.sz, fun j oj m hoj hsj hlj hdj => ?_, fun m hm => ?_, fun j oj m hoj hlj hdj => ?_, ?_⟩
        · have hji : j ≠ i := fun e2 => by subst e2; rw [hspi] at hsj; cases hsj
          rw [put_away (fun n hn e => hji (nod_unique s2 hoj hop hdj (by rw [e]; exact hn)))]
          rw [updL_other hji] at hlj
          exact M.q j oj m hoj hsj hlj hdj
        · rw [put_away (fun n hn e => hm (by rw [e]; exact mem_dsts (List.mem_of_getElem? hop) hn))]
          exact M.old m hm
        · have hji : j ≠ i := fun e => by subst e; rw [updL_same] at hlj; cases hlj
          rw [updL_other hji] at hlj
          rw [put_away (fun n hn e => hji (nod_unique s2 hoj hop hdj (by rw [e]; exact hn)))]
          exact M.nt j oj m hoj hlj hdj
        · refine ⟨updS s i v, hj', fun j hsj hlj => ?_, fun j hlj => ?_⟩
          · by_cases hji : j = i
            · subst hji
              refine ⟨v, updS_same _ _ _, fun oj n hoj hdj => ?_⟩
              rw [hop] at hoj; cases hoj
              rw [hdj]
              have := List.all_eq_true.1 hz o (List.mem_of_getElem? hop)
              rw [hdj] at this
              exact put_self (by rw [M.sz]; exact of_decide_eq_true this)
            · rw [updL_other hji] at hlj
              obtain ⟨v', v1, v2⟩ := j2 j hsj hlj
              refine ⟨v', by rw [updS_other hji]; exact v1, fun oj n hoj hdj => ?_⟩
              rw [put_away (fun n' hn e => hji (nod_unique s2 hoj hop hdj (by rw [e]; exact hn)))]
              exact v2 oj n hoj hdj
          · have hji : j ≠ i := fun e => by subst e; rw [updL_same] at hlj; cases hlj
            rw [updL_other hji] at hlj
            rw [updS_other hji]; exact j3 j hlj
  · intro L a w1 hall M
    have hall' : ∀ i o, ops[i]? = some o → L i = true := fun i o hi => hall i (by simpa using (List.getElem?_eq_some_iff.1 hi).1)
    obtain ⟨s, j1, j2, _⟩ := M.j
    have agree : ∀ m, m ∉ spD sp 0 ops → af.tmps[m]? = a.tmps[m]? := fun m hm => by
      by_cases hd : m ∈ dstsL ops
      · obtain ⟨i, o, hi, hdi⟩ := dcase m hd
        have hspi : sp.contains i = false := by
          cases hq : sp.contains i with
          | false => rfl
          | true => exact absurd (spD_mem (i := 0) hi (by rw [Nat.zero_add]; exact hq) hdi) hm
        exact (M.q i o m hi hspi (hall' i o hi) hdi).symm
      · rw [fout m hd, M.old m hd]
    have h1 := hfin (fun n => a.eval (.tmp n)) s (fun i hi o ho => by
      obtain ⟨v, v1, v2⟩ := j2 i hi (hall' i o ho)
      exact ⟨v, v1, fun n hn => by rw [eval_at, v2 o n ho hn]; rfl⟩)
    obtain ⟨⟨l⟩, d⟩ := a0
    dsimp only at h1
    have h2 := finS_eq (H := H) S l _ (fun e he => by
      obtain ⟨k, ok, hk, hsk, hdk⟩ := fkey e he
      rw [eval_at, M.q k ok e.n hk hsk (hall' k ok hk) hdk, ← eval_at]
      exact I.val e he) h1
    rw [setsN_eq] at h2
    have e1 : S.foldr (fun e l => l.set e.n (valE E H e)) l = af.tmps.toList := I.lst.symm
    rw [e1] at h2
    have e2 : (spD sp 0 ops).foldr (fun n l => l.set n (a.eval (.tmp n))) af.tmps.toList = a.tmps.toList := by
      refine get_sets (f := fun n => a.eval (.tmp n)) (by rw [Array.length_toList, Array.length_toList, I.size, M.sz]) (fun n hn => ?_) (fun m hm => ?_)
      · obtain ⟨k, o, hk, hsk, hdk⟩ := mem_spD hn
        rw [Nat.zero_add] at hsk
        obtain ⟨v, v1, v2⟩ := j2 k hsk (hall' k o hk)
        rw [Array.getElem?_toList, eval_at, v2 o n hk hdk]; rfl
      · rw [Array.getElem?_toList, Array.getElem?_toList]; exact agree m hm
    rw [e2] at h2
    have e3 : (⟨a.tmps.toList.toArray, d⟩ : Act) = a := by
      have h4 := M.df
      dsimp only at h4
      rw [← h4]
    rw [e3] at h2
    exact h2 w1 M.c j1
/-- a region that draws its order, with some special operations -/
theorem wp_region_mix {id : Nat} {Q : Exit → Act → World → Prop} {w : World} {ops : List Oper} (sp : List Nat) (T : QTab) (hT : T.Ok) (E : List Ob) (C : World → Prop) (R : World → World → Prop) (ps : List (Nat × Nat)) (hs : List (Nat × Hint)) (outs : List (Nat × Value))
    (J : (Nat → Option Value) → World → Prop)
    (hz : (ops.all fun o => match o.dst with | some n => decide (n < a0.tmps.size) | none => true) = true) (hm : Tryz.prog.follows .mixedOrders = true)
    (hst : (ordB ops.toArray && nodB (dstsL ops) && chkB ops.toArray (quietL sp 0 ops) && depB sp ops.toArray) = true)
    (hC : C w.drew) (hJ : J (fun _ => none) w.drew) (hE : ObsIn C E) (P : psOk a0 E ps) (hR : ∀ w w', C w → R w w' → C w') (hRd : ∀ w, C w → R w w) (hJR : ∀ s w w', C w → J s w → R w w' → J s w')
    (h : evL a0 ps T E C R hs ops (evMix a0 E C J sp ops outs Q) (quietL sp 0 ops) []) : (Code.region id ops.toArray true).wp Tryz.prog Q a0 w := by
  have hst' := hst
  simp only [Bool.and_eq_true] at hst'
  obtain ⟨⟨⟨s1, s2⟩, s3⟩, s4⟩ := hst'
  have hsub : ∀ o ∈ quietL sp 0 ops, o ∈ ops := fun o ho => by obtain ⟨k, hk, _⟩ := mem_quietL ho; exact List.mem_of_getElem? hk
  obtain ⟨S, H, af, I, hmix, f1, f2, f3⟩ := evL_fin P hT hE hz _ [] [] a0 hsub s3 InvQ.start h
  exact mix_core sp E C R outs J hz hm hst hC hJ hR hRd hJR I hmix f1 f2 f3
end
end Go.Proofs.YtlmfcigabojbmaaGreatDoor
