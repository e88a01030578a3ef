/- Drawn regions that make a list of berths with one more: the regions' laws. -/
import Derived.Test.YtgmecjmepbaolaaDoorDokAp
set_option linter.unusedSimpArgs false
set_option linter.unusedVariables false
namespace Go.Proofs.YtgmecjmepbaolaaDoor
open Go.RowKit

structure ApOps (ops : List Oper) (A P O R nA nP nO nR nL nX : Nat) : Prop where
  a : ∃ o, ops[A]? = some o ∧ o.op = .buildSlice 23 0 #[] ∧ o.dst = some nA
  p : ∃ o, ops[P]? = some o ∧ o.op = .call { callee := .builtin .append, args := #[.tmp nA, .tmp nL], argTypes := #[23, 23] } ∧ o.dst = some nP ∧ ∃ e ∈ o.after, e.on = A ∧ Region.binds .any e = true
  o : ∃ o, ops[O]? = some o ∧ o.op = .buildSlice 23 1 #[(0, .tmp nX)] ∧ o.dst = some nO
  r : ∃ o, ops[R]? = some o ∧ o.op = .call { callee := .builtin .append, args := #[.tmp nP, .tmp nO], argTypes := #[23, 23] } ∧ o.dst = some nR ∧ (∃ e ∈ o.after, e.on = P ∧ Region.binds .any e = true) ∧ ∃ e ∈ o.after, e.on = O ∧ Region.binds .any e = true
section
variable {a0 : Act} {E : List Ob} {Q : Exit → Act → World → Prop} {w : World} {ops : List Oper} {A P O R nA nP nO nR nL nX : Nat} {l : List Ber} {x : Ber} {lv : Value} {S : List Ent} {J2 : (Nat → Option Value) → Prop}
theorem ap_specs {sp : List Nat} (hd : Apart A P O R) (hsA : sp.contains A = true) (hsP : sp.contains P = true) (hsO : sp.contains O = true) (H : ApOps ops A P O R nA nP nO nR nL nX)
    (hL : ∃ m, lookS S nL = some ⟨m, [], .v lv⟩) (hX : ∃ m, lookS S nX = some ⟨m, [], .v (.agg (syCs x))⟩) (hlv : SB w lv l) (hnil : lv = .slice none 0 0 ∨ ∃ ad n c, lv = .slice (some ad) n c) (hlen : l.length ≤ 100000)
    (h2 : ∀ i, (i = A ∨ i = P ∨ i = O ∨ i = R) → ∀ s v, J2 s → s i = none → J2 (updS s i v)) :
    let J := fun s u => JAP A P O R w.heap.size l x s u ∧ J2 s
    SpecAt a0 E (Below w.heap.size w) J sp ops Q S A ∧ SpecAt a0 E (Below w.heap.size w) J sp ops Q S P ∧ SpecAt a0 E (Below w.heap.size w) J sp ops Q S O ∧ SpecAt a0 E (Below w.heap.size w) J sp ops Q S R := by
  obtain ⟨oA, a1, a2, a3⟩ := H.a
  obtain ⟨oP, p1, p2, p3, eP, p4, p5, p6⟩ := H.p
  obtain ⟨oO, o1, o2, o3⟩ := H.o
  obtain ⟨oR, r1, r2, r3, ⟨eR, r4, r5, r6⟩, eQ, r7, r8, r9⟩ := H.r
  obtain ⟨mL, hL⟩ := hL
  obtain ⟨mX, hX⟩ := hX
  refine ⟨?_, ?_, ?_, ?_⟩
  · intro o a u s ho hC hJ hn hq hold hdep K hK
    rw [a1] at ho; cases ho
    exact wp_of_run (run_lit0 a2 u) (hK _ _ (hC.alloc hC.size _) ⟨hJ.1.stepA hd hn, h2 _ (.inl rfl) _ _ hJ.2 hn⟩)
  · intro o a u s ho hC hJ hn hq hold hdep K hK
    rw [p1] at ho; cases ho
    obtain ⟨v, v1, v2⟩ := hdep eP p4 p6 (by rw [p5]; exact hsA)
    rw [p5] at v1 v2
    have hlx : a.eval (.tmp nL) = lv := hq nL (by unfold Oper.looksAt; rw [p2]; simp [Op.operands, Call.operands]) _ hL rfl
    have hown := hJ.1.e1 v v1 hn
    refine wp_app_SB (.tmp nA) (.tmp nL) p2 w.heap.size v lv [] l (v2 oA nA a1 a3) hown hlx (hlv.keep hC) hnil (by simp; omega) hJ.1.bz fun t w' ho hg hat => ?_
    exact hK _ _ (hC.grown hg hC.size (fun q hq => (hown.lt q hq).1)) ⟨hJ.1.stepP hd v1 hn (by simpa using ho) hg hat, h2 _ (.inr (.inl rfl)) _ _ hJ.2 hn⟩
  · intro o a u s ho hC hJ hn hq hold hdep K hK
    rw [o1] at ho; cases ho
    have hx : a.eval (.tmp nX) = .agg (syCs x) := hq nX (by unfold Oper.looksAt; rw [o2]; simp [Op.operands]) _ hX rfl
    exact wp_of_run (run_lit1 o2 hx u) (hK _ _ (hC.alloc hC.size _) ⟨hJ.1.stepO hd hn, h2 _ (.inr (.inr (.inl rfl))) _ _ hJ.2 hn⟩)
  · intro o a u s ho hC hJ hn hq hold hdep K hK
    rw [r1] at ho; cases ho
    obtain ⟨v, v1, v2⟩ := hdep eR r4 r6 (by rw [r5]; exact hsP)
    rw [r5] at v1 v2
    obtain ⟨v', v3, v4⟩ := hdep eQ r7 r9 (by rw [r8]; exact hsO)
    rw [r8] at v3 v4
    obtain ⟨g, e1, e2, e3, e4, e5⟩ := hJ.1.e4 v' v3 hn
    have hown := hJ.1.e2 v v1 hn
    refine wp_app_B (.tmp nP) (.tmp nO) r2 w.heap.size v l [x] (v2 oP nP p1 p3) hown ⟨g, 0, none⟩ 1 1 ((v4 oO nO o1 o3).trans e1) (sB_one e2) (by simp; omega) hJ.1.bz fun t w' ho hg hat => ?_
    exact hK _ _ (hC.grown hg hC.size (fun q hq => (hown.lt q hq).1)) ⟨hJ.1.stepR hd v1 (by rw [v3]; simp) ho (Nat.le_trans hJ.1.bz hg.size), h2 _ (.inr (.inr (.inr rfl))) _ _ hJ.2 hn⟩
end
def selV (nR : Nat) (v : Value) (f : Nat → Value) : Nat → Value := fun n => match Nat.beq n nR with
  | true => v
  | false => f n
theorem selV_same {nR : Nat} {v : Value} {f : Nat → Value} (h : f nR = v) : selV nR v f = f := by
  funext n
  unfold selV
  cases hb : Nat.beq n nR with
  | true => have := Nat.eq_of_beq_eq_true hb; subst this; exact h.symm
  | false => rfl
def evAp (a0 : Act) (E : List Ob) (W : World) (nR nD nL nX : Nat) (lv xv : Value) (ns : List Nat) (V : Value → World → Prop) (outs : List (Nat × Value)) (Q : Act → World → Prop) (S : List Ent) : Prop :=
  (∃ m, lookS S nL = some ⟨m, [], .v lv⟩) ∧ (∃ m, lookS S nX = some ⟨m, [], .v xv⟩) ∧ ∀ (f : Nat → Value) (v : Value), match a0 with
    | ⟨⟨l⟩, d⟩ => finS E outs f S l fun l' => setsN (selV nR v (selV nD v f)) ns l' fun l'' => ∀ w', Below W.heap.size W w' → V v w' → Q ⟨l''.toArray, d⟩ w'
section
variable {a0 : Act} {ps : List (Nat × Nat)} {T : QTab} {E : List Ob} {hs : List (Nat × Hint)}
/-- the new list is assigned -/
theorem wp_region_apa {id : Nat} {Q : Exit → Act → World → Prop} {w : World} {ops : List Oper} (T : QTab) (hT : T.Ok) (E : List Ob) (ps : List (Nat × Nat)) (hs : List (Nat × Hint)) (outs : List (Nat × Value))
    (A P O R D nA nP nO nR nD nL nX : Nat) (ns : List Nat) (lv : Value) (l : List Ber) (x : Ber)
    (hz : (ops.all fun o => match o.dst with | some n => decide (n < a0.tmps.size) | none => true) = true) (hm : Tryd.prog.follows .mixedOrders = true)
    (hst : (ordB ops.toArray && nodB (dstsL ops) && chkB ops.toArray (quietL [A, P, O, R, D] 0 ops) && depB [A, P, O, R, D] ops.toArray) = true)
    (hsp : spD [A, P, O, R, D] 0 ops = ns) (hd : Apart A P O R) (hdd : D ≠ A ∧ D ≠ P ∧ D ≠ O ∧ D ≠ R) (H : ApOps ops A P O R nA nP nO nR nL nX)
    (hD : ∃ o, ops[D]? = some o ∧ o.op = .assign (.tmp nR) ∧ o.dst = some nD ∧ ∃ e ∈ o.after, e.on = R ∧ Region.binds .any e = true)
    (hlv : SB w lv l) (hnil : lv = .slice none 0 0 ∨ ∃ ad n c, lv = .slice (some ad) n c) (hlen : l.length ≤ 100000)
    (hE : ObsIn (Below w.heap.size w) E) (P' : psOk a0 E ps)
    (h : evL a0 ps T E (Below w.heap.size w) (fun u u' => Below u.heap.size u u') hs ops (evAp a0 E w nR nD nL nX lv (.agg (syCs x)) ns (fun v w' => OwnB w' w.heap.size v (l ++ [x])) outs (Q .normal)) (quietL [A, P, O, R, D] 0 ops) []) : (Code.region id ops.toArray true).wp Tryd.prog Q a0 w := by
  obtain ⟨oD, d1, d2, d3, eD, d4, d5, d6⟩ := hD
  obtain ⟨oR, r1, r2, r3, _⟩ := H.r
  have hst' := hst
  simp only [Bool.and_eq_true] at hst'
  obtain ⟨⟨⟨s1, s2⟩, s3⟩, s4⟩ := hst'
  have hsub : ∀ o ∈ quietL [A, P, O, R, D] 0 ops, o ∈ ops := fun o ho => by obtain ⟨k, hk, _⟩ := mem_quietL ho; exact List.mem_of_getElem? hk
  obtain ⟨S, H', af, I, ⟨hL, hX, h2⟩, f1, f2, f3⟩ := evL_fin P' hT hE hz _ [] [] a0 hsub s3 InvQ.start h
  have sps := ap_specs (a0 := a0) (E := E) (Q := Q) (J2 := fun s => (s R = none → s D = none) ∧ ∀ v, s D = some v → s R = some v) (sp := [A, P, O, R, D]) hd (by simp) (by simp) (by simp) H hL hX hlv hnil hlen (fun i hi s v hJ hn => by
    have hDi : D ≠ i := by
      rcases hi with e | e | e | e
      · rw [e]; exact hdd.1
      · rw [e]; exact hdd.2.1
      · rw [e]; exact hdd.2.2.1
      · rw [e]; exact hdd.2.2.2
    have hDn : i = R → s D = none := fun e => hJ.1 (by rw [← e]; exact hn)
    refine ⟨fun e => ?_, fun v' e => ?_⟩
    · rw [updS_other hDi]
      by_cases hR : R = i
      · exact hDn hR.symm
      · rw [updS_other hR] at e; exact hJ.1 e
    · rw [updS_other hDi] at e
      by_cases hR : R = i
      · rw [hDn hR.symm] at e; cases e
      · rw [updS_other hR]; exact hJ.2 v' e)
  refine mix_core [A, P, O, R, D] E (Below w.heap.size w) (fun u u' => Below u.heap.size u u') outs (fun s u => JAP A P O R w.heap.size l x s u ∧ (s R = none → s D = none) ∧ ∀ v, s D = some v → s R = some v) hz hm hst ((Below.refl _ _).drew) ⟨JAP.start (Nat.le_refl _), fun _ => rfl, fun v hv => by cases hv⟩ (fun u u' h1 h2 => h1.trans (h2.mono h1.size)) (fun u _ => Below.refl _ _) (fun s u u' h1 h2 h3 => ⟨h2.1.keep h3, h2.2⟩) I ⟨⟨sps.1, sps.2.1, sps.2.2.1, sps.2.2.2, ?_, trivial⟩, fun f s hsv => ?_⟩ f1 f2 f3
  · intro o a u s ho hC hJ hn hq hold hdep K hK
    rw [d1] at ho; cases ho
    obtain ⟨v, v1, v2⟩ := hdep eD d4 d6 (by rw [d5]; simp)
    rw [d5] at v1 v2
    refine wp_of_run (v := v) (w' := u) ?_ (hK _ _ hC ⟨hJ.1.other v (Ne.symm hdd.1) (Ne.symm hdd.2.1) (Ne.symm hdd.2.2.1) (Ne.symm hdd.2.2.2), fun e => ?_, fun v' e => ?_⟩)
    · unfold execOp; simp only [d2, v2 oR nR r1 r3]; rfl
    · rw [updS_other (Ne.symm hdd.2.2.2), v1] at e; cases e
    · rw [updS_same] at e; cases e; rw [updS_other (Ne.symm hdd.2.2.2)]; exact v1
  · obtain ⟨v, v1, v2⟩ := hsv R (by simp) oR r1
    obtain ⟨vD, v3, v4⟩ := hsv D (by simp) oD d1
    have hv : f nR = v := (v2 nR r3).symm
    have hvD : f nD = vD := (v4 nD d3).symm
    obtain ⟨⟨li⟩, d⟩ := a0
    dsimp only at h2 ⊢
    rw [hsp]
    refine finS_mono (fun l' hl' => ?_) (h2 f v)
    by_cases hDv : vD = v
    · rw [selV_same (f := f) (hvD.trans hDv), selV_same hv] at hl'
      rw [setsN_eq] at hl' ⊢
      intro w' hC hJ
      exact hl' w' hC (hJ.1.e5 v v1)
    · rw [setsN_eq]
      intro w' hC hJ
      have := hJ.2.2 vD v3
      rw [v1] at this
      exact absurd (Option.some.inj this).symm hDv
/-- what is known behind a call with the new list -/
structure JC (R D G : Nat) (e : Int) (s : Nat → Option Value) : Prop where
  d : s R = none → s D = none
  g : s D = none → s G = none
  dv : ∀ v, s D = some v → v = .int .i64 e
  gv : ∀ v, s G = some v → v = .bool (e == 0)
theorem JC.other {R D G : Nat} {e : Int} {s : Nat → Option Value} (h : JC R D G e s) {i : Nat} (v : Value) (hD : D ≠ i) (hG : G ≠ i) (hn : s i = none) : JC R D G e (updS s i v) := by
  refine ⟨fun e => ?_, ?_, ?_, ?_⟩
  · rw [updS_other hD]
    by_cases hR : R = i
    · exact h.d (by rw [hR]; exact hn)
    · rw [updS_other hR] at e; exact h.d e
  · rw [updS_other hD, updS_other hG]; exact h.g
  · rw [updS_other hD]; exact h.dv
  · rw [updS_other hG]; exact h.gv
/-- the new list is handed to a function, its answer compared with 0 -/
theorem wp_region_apc {id : Nat} {Q : Exit → Act → World → Prop} {w : World} {ops : List Oper} (T : QTab) (hT : T.Ok) (E : List Ob) (ps : List (Nat × Nat)) (hs : List (Nat × Hint)) (outs : List (Nat × Value))
    (A P O R D G nA nP nO nR nD nG nL nX nC : Nat) (ty1 ty2 : TypeId) (ns : List Nat) (lv dv : Value) (l : List Ber) (x : Ber) (F : FuncId) (e : Int)
    (hz : (ops.all fun o => match o.dst with | some n => decide (n < a0.tmps.size) | none => true) = true) (hm : Tryd.prog.follows .mixedOrders = true)
    (hst : (ordB ops.toArray && nodB (dstsL ops) && chkB ops.toArray (quietL [A, P, O, R, D, G] 0 ops) && depB [A, P, O, R, D, G] ops.toArray) = true)
    (hsp : spD [A, P, O, R, D, G] 0 ops = ns) (hd : Apart A P O R) (hdd : D ≠ A ∧ D ≠ P ∧ D ≠ O ∧ D ≠ R) (hgg : G ≠ A ∧ G ≠ P ∧ G ≠ O ∧ G ≠ R) (hdg : D ≠ G) (H : ApOps ops A P O R nA nP nO nR nL nX)
    (hD : ∃ o c, ops[D]? = some o ∧ o.op = .call c ∧ c.callee = .value (.func F) ∧ c.args = #[.tmp nC, .tmp nR] ∧ o.dst = some nD ∧ ∃ e ∈ o.after, e.on = R ∧ Region.binds .any e = true)
    (hG : ∃ o, ops[G]? = some o ∧ o.op = .binOp .eql ty1 (.tmp nD) (.const (.int .i64 0)) ty2 ∧ o.dst = some nG ∧ ∃ e ∈ o.after, e.on = D ∧ Region.binds .any e = true)
    (hen : ∀ args w, (callFunc F args).run Tryd.prog w = .ok (.enter F args) w)
    (hcall : ∀ u v, Below w.heap.size w u → SB u v (l ++ [x]) → Calls Tryd.prog F #[dv, v] u fun e' u' => e' = .returned (.int .i64 e) ∧ Below u.heap.size u u')
    (hlv : SB w lv l) (hnil : lv = .slice none 0 0 ∨ ∃ ad n c, lv = .slice (some ad) n c) (hlen : l.length ≤ 100000)
    (hE : ObsIn (Below w.heap.size w) E) (P' : psOk a0 E ps)
    (h : evL a0 ps T E (Below w.heap.size w) (fun u u' => Below u.heap.size u u') hs ops (fun S => (∃ m, lookS S nC = some ⟨m, [], .v dv⟩) ∧ evAp a0 E w nG nG nL nX lv (.agg (syCs x)) ns (fun v w' => v = .bool (e == 0)) outs (Q .normal) S) (quietL [A, P, O, R, D, G] 0 ops) []) : (Code.region id ops.toArray true).wp Tryd.prog Q a0 w := by
  obtain ⟨oD, cD, d1, d2, d3, d7, d8, eD, d4, d5, d6⟩ := hD
  obtain ⟨oG, g1, g2, g3, eG, g4, g5, g6⟩ := hG
  obtain ⟨oR, r1, r2, r3, _⟩ := H.r
  have hst' := hst
  simp only [Bool.and_eq_true] at hst'
  obtain ⟨⟨⟨s1, s2⟩, s3⟩, s4⟩ := hst'
  have hsub : ∀ o ∈ quietL [A, P, O, R, D, G] 0 ops, o ∈ ops := fun o ho => by obtain ⟨k, hk, _⟩ := mem_quietL ho; exact List.mem_of_getElem? hk
  obtain ⟨S, H', af, I, ⟨⟨mC, hC0⟩, hL, hX, h2⟩, f1, f2, f3⟩ := evL_fin P' hT hE hz _ [] [] a0 hsub s3 InvQ.start h
  have sps := ap_specs (a0 := a0) (E := E) (Q := Q) (J2 := JC R D G e) (sp := [A, P, O, R, D, G]) hd (by simp) (by simp) (by simp) H hL hX hlv hnil hlen (fun i hi s v hJ hn => by
    have hDi : D ≠ i := by
      rcases hi with e | e | e | e
      · rw [e]; exact hdd.1
      · rw [e]; exact hdd.2.1
      · rw [e]; exact hdd.2.2.1
      · rw [e]; exact hdd.2.2.2
    have hGi : G ≠ i := by
      rcases hi with e | e | e | e
      · rw [e]; exact hgg.1
      · rw [e]; exact hgg.2.1
      · rw [e]; exact hgg.2.2.1
      · rw [e]; exact hgg.2.2.2
    exact hJ.other v hDi hGi hn)
  refine mix_core [A, P, O, R, D, G] E (Below w.heap.size w) (fun u u' => Below u.heap.size u u') outs (fun s u => JAP A P O R w.heap.size l x s u ∧ JC R D G e s) hz hm hst ((Below.refl _ _).drew) ⟨JAP.start (Nat.le_refl _), fun _ => rfl, fun _ => rfl, fun v hv => (by cases hv), fun v hv => (by cases hv)⟩ (fun u u' h1 h2 => h1.trans (h2.mono h1.size)) (fun u _ => Below.refl _ _) (fun s u u' h1 h2 h3 => ⟨h2.1.keep h3, h2.2⟩) I ⟨⟨sps.1, sps.2.1, sps.2.2.1, sps.2.2.2, ?_, ?_, trivial⟩, fun f s hsv => ?_⟩ f1 f2 f3
  · intro o a u s ho hC hJ hn hq hold hdep K hK
    rw [d1] at ho; cases ho
    obtain ⟨v, v1, v2⟩ := hdep eD d4 d6 (by rw [d5]; simp)
    rw [d5] at v1 v2
    have hx : cD.args.toList.map a.eval = [dv, v] := by
      rw [d7]
      have e1 : a.eval (.tmp nC) = dv := hq nC (by unfold Oper.looksAt; rw [d2]; simp [Op.operands, Call.operands, d3, d7]) _ hC0 rfl
      simp [e1, v2 oR nR r1 r3]
    refine wp_of_enter (enters_call d2 d3 hx hen u) ((hcall u v hC (hJ.1.e5 v v1).s).mono fun e' u' ⟨he, hb⟩ => ⟨_, he, ?_⟩)
    refine hK _ _ (hC.trans (hb.mono hC.size)) ⟨(hJ.1.keep hb).other _ (Ne.symm hdd.1) (Ne.symm hdd.2.1) (Ne.symm hdd.2.2.1) (Ne.symm hdd.2.2.2), fun e => ?_, fun e => ?_, fun v' e => ?_, fun v' e => ?_⟩
    · rw [updS_other (Ne.symm hdd.2.2.2), v1] at e; cases e
    · rw [updS_same] at e; cases e
    · rw [updS_same] at e; cases e; rfl
    · rw [updS_other (Ne.symm hdg)] at e; exact hJ.2.gv v' e
  · intro o a u s ho hC hJ hn hq hold hdep K hK
    rw [g1] at ho; cases ho
    obtain ⟨v, v1, v2⟩ := hdep eG g4 g6 (by rw [g5]; simp)
    rw [g5] at v1 v2
    have hv := hJ.2.dv v v1
    have hx : a.eval (.tmp nD) = .int .i64 e := (v2 oD nD d1 d8).trans hv
    refine wp_of_run (v := .bool (e == 0)) (w' := u) ?_ (hK _ _ hC ⟨hJ.1.other _ (Ne.symm hgg.1) (Ne.symm hgg.2.1) (Ne.symm hgg.2.2.1) (Ne.symm hgg.2.2.2), ?_, fun e => ?_, ?_, fun v' e => ?_⟩)
    · have hc : a.eval (.const (.int .i64 0)) = .int .i64 0 := rfl
      unfold execOp
      simp only [g2, hx, hc, Sem.run_bind, guard_int, Result.andThen_ok]
      rfl
    · rw [updS_other (Ne.symm hgg.2.2.2), updS_other hdg]; exact hJ.2.d
    · rw [updS_other hdg, v1] at e; cases e
    · rw [updS_other hdg]; exact hJ.2.dv
    · rw [updS_same] at e; cases e; rfl
  · obtain ⟨v, v1, v2⟩ := hsv G (by simp) oG g1
    have hv : f nG = v := (v2 nG g3).symm
    obtain ⟨⟨li⟩, d⟩ := a0
    dsimp only at h2 ⊢
    rw [hsp]
    refine finS_mono (fun l' hl' => ?_) (h2 f v)
    rw [selV_same (f := f) hv, selV_same hv] at hl'
    rw [setsN_eq] at hl' ⊢
    intro w' hC hJ
    exact hl' w' hC (hJ.2.gv v v1)
end
end Go.Proofs.YtgmecjmepbaolaaDoor
