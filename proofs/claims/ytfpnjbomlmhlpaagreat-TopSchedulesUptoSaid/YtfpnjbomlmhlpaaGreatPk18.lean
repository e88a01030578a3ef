/- The reference's structure: Block (printed by wip/gen_gmq.py). -/
import Derived.Test.YtfpnjbomlmhlpaaGreatPk17
set_option linter.unusedSimpArgs false
set_option linter.unusedVariables false

/- A region that draws its order, in which one value is appended to a slice that a cell of an object holds. -/
namespace Go.Proofs.YtfpnjbomlmhlpaaGreat
open Go.RowKit

/-- the slice of one, the append, the store -/
structure JLs (B C D n0 b6 k : Nat) (te tO : TypeId) (cs arr : Array Value) (P0 : World → Prop) (P1 : Value → World → Prop) (s : Nat → Option Value) (u : World) : Prop where
  bc : s B = none → s C = none
  cd : s C = none → s D = none
  b : ∀ v, s B = some v → ∃ g, v = .slice (some ⟨g, 0, none⟩) 1 1 ∧ (s C = none → ObjAt u g cs te)
  c0 : s C = none → P0 u
  n : n0 ≤ u.heap.size
  c : ∀ v, s C = some v → P1 v u
  d0 : s D = none → ObjAt u b6 arr tO
  d : ∀ z, s D = some z → ∃ v, s C = some v ∧ ObjAt u b6 (arr.setIfInBounds k v) tO
section
variable {a0 : Act} {ps : List (Nat × Nat)} {T : QTab} {E : List Ob} {hs : List (Nat × Hint)}
def evLs (a0 : Act) (E : List Ob) (C0 : World → Prop) (n0 b6 k nA nB nC n6 nL : Nat) (tO : TypeId) (x : Value) (arr : Array Value) (P1 : Value → World → Prop) (v0 : Value) (outs : List (Nat × Value)) (Q : Act → World → Prop) (ops : List Oper) (S : List Ent) : Prop :=
  (slotAt a0 E ops S nA x ∧ slotAt a0 E ops S nL v0 ∧ slotAt a0 E ops S n6 (.pointer (some ⟨b6, k, none⟩))) ∧ ∀ (f : Nat → Value), match a0 with
    | ⟨⟨l⟩, d⟩ => finS E outs f S l fun l' => setsN f [nB, nC] l' fun l'' => ∀ w' v, C0 w' → P1 v w' → n0 ≤ w'.heap.size → ObjAt w' b6 (arr.setIfInBounds k v) tO → Q ⟨l''.toArray, d⟩ w'
theorem wp_region_ls {id : Nat} {Q : Exit → Act → World → Prop} {w : World} {ops : List Oper} (T : QTab) (hT : T.Ok) (E : List Ob) (ps : List (Nat × Nat)) (hs : List (Nat × Hint)) (outs : List (Nat × Value))
    (B C D nA nB nC n6 nL : Nat) (tS te tO : TypeId) (x : Value) (cs arr : Array Value) (v0 : Value) (n0 b6 k : Nat) (C0 P0 : World → Prop) (P1 : Value → World → Prop)
    (hz : (ops.all fun o => match o.dst with | some n => decide (n < a0.tmps.size) | none => true) = true) (hm : Tryz.prog.follows .mixedOrders = true)
    (hst : (ordB ops.toArray && nodB (dstsL ops) && chkB ops.toArray (quietL [B, C, D] 0 ops) && depB [B, C, D] ops.toArray) = true)
    (hsp : spD [B, C, D] 0 ops = [nB, nC]) (hah : aheadB [B, C, D] ops D = true) (hne : B ≠ C ∧ B ≠ D ∧ C ≠ D)
    (hB : ∃ o, ops[B]? = some o ∧ o.op = .buildSlice tS 1 #[(0, .tmp nA)] ∧ o.dst = some nB)
    (hC : ∃ o, ops[C]? = some o ∧ o.op = .call { callee := .builtin .append, args := #[.tmp nL, .tmp nB], argTypes := #[tS, tS] } ∧ o.dst = some nC ∧ ∃ e ∈ o.after, e.on = B ∧ Region.binds .any e = true)
    (hD : ∃ o, ops[D]? = some o ∧ o.op = .store tS (.tmp n6) (.tmp nC) ∧ o.dst = none ∧ ∃ e ∈ o.after, e.on = C ∧ Region.binds .any e = true)
    (hbuild : ∀ u, (Instr.buildSlice tS 1 #[(0, x)]).run Tryz.prog u = .ok (.slice (some ⟨u.heap.size, 0, none⟩) 1 1) (u.alloc (.cells cs te)))
    (happ : ∀ (o : Oper) (a : Act) (u : World) (g : Nat) (K : Act → World → Prop), o.op = .call { callee := .builtin .append, args := #[.tmp nL, .tmp nB], argTypes := #[tS, tS] } → a.eval (.tmp nL) = v0 → a.eval (.tmp nB) = .slice (some ⟨g, 0, none⟩) 1 1 → ObjAt u g cs te → P0 u → n0 ≤ u.heap.size →
      (∀ v' u', P1 v' u' → u.grownBy u' v0.ownBlock → K (a.put o.dst v') u') → o.wp Tryz.prog a u K Q)
    (hi : (Tryz.prog.info? tS).map (·.size) = some 1) (hone : ∀ v u, P1 v u → v.oneCell' = true ∧ v.cells = #[v]) (hget : arr[k]? = some v0)
    (hP0 : ∀ u u', P0 u → Below u.heap.size u u' → P0 u') (hP1 : ∀ v u u', P1 v u → Below u.heap.size u u' → P1 v u') (hP1S : ∀ v u, P1 v u → ObjAt u b6 arr tO → P1 v (u.setCell ⟨b6, k, none⟩ v))
    (hno : ∀ u, P0 u → ObjAt u b6 arr tO → v0.ownBlock ≠ some b6)
    (h0 : C0 w.drew) (hown : P0 w) (hn0 : n0 ≤ w.heap.size) (hob : ObjAt w b6 arr tO)
    (hCB : ∀ u u', C0 u → Below u.heap.size u u' → C0 u') (hCg : ∀ u u', C0 u → n0 ≤ u.heap.size → P0 u → u.grownBy u' v0.ownBlock → C0 u') (hCs : ∀ u v, C0 u → C0 (u.setCell ⟨b6, k, none⟩ v))
    (hE : ObsIn (fun u => C0 u ∧ ObjAt u b6 arr tO) E) (P : psOk a0 E ps)
    (h : evL a0 ps T E (fun u => C0 u ∧ ObjAt u b6 arr tO) (fun u u' => Below u.heap.size u u') hs ops (evLs a0 E C0 n0 b6 k nA nB nC n6 nL tO x arr P1 v0 outs (Q .normal) ops) (quietL [B, C, D] 0 ops) []) : (Code.region id ops.toArray true).wp Tryz.prog Q a0 w := by
  obtain ⟨oB, hB1, hB2, hB3⟩ := hB
  obtain ⟨oC, hC1, hC2, hC3, eC, hC4, hC5, hC6⟩ := hC
  obtain ⟨oD, hD1, hD2, hD3, eD, hD4, hD5, hD6⟩ := hD
  obtain ⟨nBC, nBD, nCD⟩ := hne
  have hst' := hst
  simp only [Bool.and_eq_true] at hst'
  obtain ⟨⟨⟨s1, s2⟩, s3⟩, s4⟩ := hst'
  have hsub : ∀ o ∈ quietL [B, C, D] 0 ops, o ∈ ops := fun o ho => by obtain ⟨k, hk, _⟩ := mem_quietL ho; exact List.mem_of_getElem? hk
  obtain ⟨S, H, af, I, ⟨⟨g1, g2, g3⟩, h2⟩, f1, f2, f3⟩ := evL_fin P hT hE hz _ [] [] a0 hsub s3 InvQ.start h
  refine mix_coreD [B, C, D] E C0 (fun u u' => Below u.heap.size u u') outs (JLs B C D n0 b6 k te tO cs arr P0 P1) hz hm hst (fun u => C0 u ∧ ObjAt u b6 arr tO) (fun i hi hs L s u hL hl hn hc hj => ⟨hc, hj.d0 (hn D (ahead_spec hah hi hs hL hl))⟩)
    h0 ⟨fun _ => rfl, fun _ => rfl, fun v hv => (by cases hv), fun _ => hP0 _ _ hown ((Below.refl _ _).drew), hn0, fun v hv => (by cases hv), fun _ => hob, fun v hv => (by cases hv)⟩ hCB (fun u _ => Below.refl _ _)
    (fun s u u' _ hj hb => ⟨hj.bc, hj.cd, fun v hv => by obtain ⟨g, e, q⟩ := hj.b v hv; exact ⟨g, e, fun hc => (q hc).keep hb⟩, fun hc => hP0 _ _ (hj.c0 hc) hb, Nat.le_trans hj.n hb.size, fun v hv => hP1 _ _ _ (hj.c v hv) hb, fun hd => (hj.d0 hd).keep hb, fun z hz => by obtain ⟨v, e, o⟩ := hj.d z hz; exact ⟨v, e, o.keep hb⟩⟩) I ⟨⟨?_, ?_, ?_, trivial⟩, fun f s hsv => ?_⟩ f1 f2 f3
  · intro o a u s ho hCu hJ hn hq' hold hdep K hK
    rw [hB1] at ho; cases ho
    have hx : a.eval (.tmp nA) = x := by
      unfold slotAt at g1
      split at g1
      · rename_i m s' hl'
        rw [← g1]; exact hq' nA (by unfold Oper.looksAt; rw [hB2]; simp [Op.operands]) _ hl' rfl
      · cases g1
      · rw [hold nA (by simpa using g1.1)]; exact g1.2
    have hsC := hJ.bc hn
    have hsD := hJ.cd hsC
    have hb : Below u.heap.size u (u.alloc (.cells cs te)) := (Below.refl _ _).alloc (Nat.le_refl _) _
    refine wp_of_run (v := .slice (some ⟨u.heap.size, 0, none⟩) 1 1) (w' := u.alloc (.cells cs te)) ?_ ?_
    · unfold execOp; simp only [hB2, List.map_toArray, List.map_cons, List.map_nil, hx, Sem.run_bind, hbuild]; rfl
    refine hK _ _ (hCB _ _ hCu hb) ⟨fun h => (by rw [updS_same] at h; cases h), fun _ => ?_, fun v' hv => ?_, fun _ => hP0 _ _ (hJ.c0 hsC) hb, Nat.le_trans hJ.n hb.size, fun v' hv => ?_, fun _ => (hJ.d0 hsD).keep hb, fun v' hv => ?_⟩
    · rw [updS_other (Ne.symm nBD)]; exact hsD
    · rw [updS_same] at hv; cases hv
      exact ⟨_, rfl, fun _ => ObjAt.new u cs te⟩
    · rw [updS_other (Ne.symm nBC), hsC] at hv; cases hv
    · rw [updS_other (Ne.symm nBD), hsD] at hv; cases hv
  · intro o a u s ho hCu hJ hn hq' hold hdep K hK
    rw [hC1] at ho; cases ho
    obtain ⟨v, v1, v2⟩ := hdep eC hC4 hC6 (by rw [hC5]; simp)
    rw [hC5] at v1 v2
    obtain ⟨g, e1, e2⟩ := hJ.b v v1
    have hx : a.eval (.tmp nB) = .slice (some ⟨g, 0, none⟩) 1 1 := (v2 oB nB hB1 hB3).trans e1
    have hsD := hJ.cd hn
    have hL : a.eval (.tmp nL) = v0 := by
      unfold slotAt at g2
      split at g2
      · rename_i m s' hl'
        rw [← g2]; exact hq' nL (by unfold Oper.looksAt; rw [hC2]; simp [Op.operands, Call.operands]) _ hl' rfl
      · cases g2
      · rw [hold nL (by simpa using g2.1)]; exact g2.2
    have hown := hJ.c0 hn
    refine happ oC a u g K hC2 hL hx (e2 hn) hown hJ.n fun v' u' a1 a2 => ?_
    have hne6 := hno u hown (hJ.d0 hsD)
    refine hK _ _ (hCg _ _ hCu hJ.n hown a2) ⟨fun h => ?_, fun h => (by rw [updS_same] at h; cases h), fun v' hv => ?_, fun h => (by rw [updS_same] at h; cases h), Nat.le_trans hJ.n a2.size, fun v'' hv => ?_, fun _ => (hJ.d0 hsD).grown a2 hne6, fun v'' hv => ?_⟩
    · rw [updS_other nBC, v1] at h; cases h
    · rw [updS_other nBC] at hv
      obtain ⟨g', q1, _⟩ := hJ.b v' hv
      exact ⟨g', q1, fun h => (by rw [updS_same] at h; cases h)⟩
    · rw [updS_same] at hv; cases hv; exact a1
    · rw [updS_other (Ne.symm nCD), hsD] at hv; cases hv
  · intro o a u s ho hCu hJ hn hq' hold hdep K hK
    rw [hD1] at ho; cases ho
    obtain ⟨v, v1, v2⟩ := hdep eD hD4 hD6 (by rw [hD5]; simp)
    rw [hD5] at v1 v2
    have hx : a.eval (.tmp nC) = v := v2 oC nC hC1 hC3
    have h6 : a.eval (.tmp n6) = .pointer (some ⟨b6, k, none⟩) := by
      unfold slotAt at g3
      split at g3
      · rename_i m s' hl'
        rw [← g3]; exact hq' n6 (by unfold Oper.looksAt; rw [hD2]; simp [Op.operands]) _ hl' rfl
      · cases g3
      · rw [hold n6 (by simpa using g3.1)]; exact g3.2
    have hob := hJ.d0 hn
    have hov := hJ.c v v1
    have hsl := hone v u hov
    refine wp_of_skip (w' := u.setCell ⟨b6, k, none⟩ v) ?_ ?_
    · unfold execOp
      simp only [hD2, Sem.run_bind, h6, hx, run_storeAt_one (c := v0) (by rw [hob.cell]; exact hget) (hob.frozen k) hi hsl.1 hsl.2]; rfl
    refine hK _ _ (hCs _ _ hCu) ⟨fun h => ?_, fun h => ?_, fun v' hv => ?_, fun h => ?_, by have := hJ.n; simp [World.setCell]; exact this, fun v'' hv => ?_, fun h => (by rw [updS_same] at h; cases h), fun v'' hv => ?_⟩
    · rw [updS_other nBD] at h; rw [updS_other nCD]; exact hJ.bc h
    · rw [updS_other nCD, v1] at h; cases h
    · rw [updS_other nBD] at hv
      obtain ⟨g', q1, _⟩ := hJ.b v' hv
      exact ⟨g', q1, fun h => (by rw [updS_other nCD, v1] at h; cases h)⟩
    · rw [updS_other nCD, v1] at h; cases h
    · rw [updS_other nCD, v1] at hv; cases hv
      exact hP1S v u hov hob
    · exact ⟨v, by rw [updS_other nCD]; exact v1, hob.set k v⟩
  · obtain ⟨vC, c1, c2⟩ := hsv C (by simp) oC hC1
    obtain ⟨vD, d1, _⟩ := hsv D (by simp) oD hD1
    obtain ⟨⟨l⟩, d⟩ := a0
    dsimp only at h2 ⊢
    rw [hsp]
    refine finS_mono (fun l' hl' => ?_) (h2 f)
    rw [setsN_eq] at hl' ⊢
    intro w' hC' hJ
    obtain ⟨v, e1, e2⟩ := hJ.d vD d1
    exact hl' w' v hC' (hJ.c v e1) hJ.n e2
end
end Go.Proofs.YtfpnjbomlmhlpaaGreat

/- The reference's structure: lists (printed by wip/gen_gmp.py). -/
namespace Go.Proofs.YtfpnjbomlmhlpaaGreat
open Go.RowKit

theorem three_box (w : World) (A B C : Array Value) (s t u : TypeId) : ∃ W, Hid (ObjAt W w.heap.size A s) ∧ Hid (ObjAt W (w.heap.size + 1) B t) ∧ Hid (ObjAt W (w.heap.size + 1 + 1) C u) ∧ Hid (Below w.heap.size w W) ∧ Hid (((w.alloc (.cells A s)).alloc (.cells B t)).alloc (.cells C u) = W) :=
  ⟨_, ((ObjAt.new w A s).alloc _).alloc _, (by have h := (ObjAt.new (w.alloc (.cells A s)) B t).alloc (.cells C u); rw [size_alloc] at h; exact h), (by have h := ObjAt.new ((w.alloc (.cells A s)).alloc (.cells B t)) C u; rw [size_alloc, size_alloc] at h; exact h), ((((Below.refl _ _).alloc (Nat.le_refl _) _).alloc (by rw [size_alloc]; omega) _).alloc (by rw [size_alloc, size_alloc]; omega) _), rfl⟩
theorem results_cell1 {fn : Func} {p : Tmp} {ty : TypeId} (h : fn.results = #[.cell p ty]) {tmps : Array Value} {w : World} {g : Nat} {cs : Array Value}
    (hp : tmps.getD p undef = .pointer (some ⟨g, 0, none⟩)) (hl : (loadVar ty ⟨g, 0, none⟩).run Tryz.prog w = .ok (.agg cs) w) :
    (results fn tmps).run Tryz.prog w = .ok (.agg cs) w := by
  have hp' : tmps[p]?.getD undef = .pointer (some ⟨g, 0, none⟩) := by simpa using hp
  simp [results, h, hp', asAddr, hl]
theorem setRow_frv (n b : Nat) {u : World} (cs : Array Value) : FrV n (blkV b) u (u.setRow b cs) := by
  refine ⟨rfl, rfl, rfl, by simp [World.setRow], fun j _ h1 => ?_⟩
  have hne : b ≠ j := fun e => h1 (by rw [e]; rfl)
  simp [World.setRow, Array.getElem?_modify, hne]
theorem range_nil (w : World) (b off : Nat) : w.rangeAt b off [] := fun j v h => by simp at h
theorem nn_range {w : World} {b off : Nat} {x : Nd} (h : NnAt w b off x) : w.rangeAt b off [.int .i64 x.kind, .string (bs x.block), .string (bs x.on)] := fun j v hv => by
  match j, hv with
  | 0, hv => cases hv; exact h.c0
  | 1, hv => cases hv; exact h.c1
  | 2, hv => cases hv; exact h.c2
theorem info_s4 : (Tryz.prog.info? 99).map (·.size) = some 4 := by kernel_rfl
theorem one_s4 (a b c d : Option Addr) (i j k l m n p q : Nat) : (#[.slice a i j, .slice b k l, .slice c m n, .slice d p q] : Array Value).all (·.oneCell') = true := by simp [Value.oneCell']
theorem load_s4 {w : World} {b : Nat} {a0 a1 a2 a3 : Value} {e : TypeId} (h : ObjAt w b #[a0, a1, a2, a3] e) : (loadVar 99 ⟨b, 0, none⟩).run Tryz.prog w = .ok (.agg #[a0, a1, a2, a3]) w := run_loadVar_row (P := Tryz.prog) w b e 99 #[a0, a1, a2, a3] (0, 0) _ h Tryz.underlying99 rfl info_s4
theorem s4_at0 (b off : Nat) (w : World) : (Instr.indexAt 99 (.pointer (some ⟨b, off, none⟩)) (.int .i64 0)).run Tryz.prog w = .ok (.pointer (some ⟨b, off, none⟩)) w := by go_simp
theorem s4_at1 (b off : Nat) (w : World) : (Instr.indexAt 99 (.pointer (some ⟨b, off, none⟩)) (.int .i64 1)).run Tryz.prog w = .ok (.pointer (some ⟨b, off + 1, none⟩)) w := by go_simp
theorem s4_at2 (b off : Nat) (w : World) : (Instr.indexAt 99 (.pointer (some ⟨b, off, none⟩)) (.int .i64 2)).run Tryz.prog w = .ok (.pointer (some ⟨b, off + 2, none⟩)) w := by go_simp
theorem s4_at3 (b off : Nat) (w : World) : (Instr.indexAt 99 (.pointer (some ⟨b, off, none⟩)) (.int .i64 3)).run Tryz.prog w = .ok (.pointer (some ⟨b, off + 3, none⟩)) w := by go_simp
theorem build_one_str (s : ByteArray) (w : World) : (Instr.buildSlice 43 1 #[(0, .string s)]).run Tryz.prog w = .ok (.slice (some ⟨w.heap.size, 0, none⟩) 1 1) (w.alloc (.cells #[.string s] 9)) := by go_simp
theorem alloc_s4 (w : World) : (Instr.alloc 99 true (.tuple #[])).run Tryz.prog w = .ok (.pointer (some ⟨w.heap.size, 0, none⟩)) (w.alloc (.cells #[.slice none 0 0, .slice none 0 0, .slice none 0 0, .slice none 0 0] 99)) := by go_simp
theorem one_own {v : Value} {w : World} {B : Nat} {l : List ByteArray} (h : OwnZ w B v l) : v.oneCell' = true ∧ v.cells = #[v] := by
  obtain ⟨a, c, rfl, _⟩ := OwnZ.sl h
  exact ⟨rfl, rfl⟩
theorem dull_s4 (a b c d : Option Addr) (i j k l m n p q : Nat) : Dull #[.slice a i j, .slice b k l, .slice c m n, .slice d p q] := fun t => by
  constructor
  · intro s h
    match t, h with
    | 0, h => simp at h
    | 1, h => simp at h
    | 2, h => simp at h
    | 3, h => simp at h
    | n + 4, h => simp at h
  · intro x y h
    match t, h with
    | 0, h => simp at h
    | 1, h => simp at h
    | 2, h => simp at h
    | 3, h => simp at h
    | n + 4, h => simp at h

/-- the four lists of names -/
def RetL (w : World) (ns : List Nod) (ps : List Prt) (ss : List Sea) (ks : List Pkg) (e : Ending) (w' : World) : Prop := ∃ v0 v1 v2 v3, e = .returned (.agg #[v0, v1, v2, v3]) ∧ SZ w' v0 ((ns.map (·.id)).map bs) ∧ SZ w' v1 ((ps.map (·.id)).map bs) ∧ SZ w' v2 ((ss.map (·.id)).map bs) ∧ SZ w' v3 ((ks.map (·.id)).map bs) ∧ Below w.heap.size w w' 
set_option maxRecDepth 100000 in
set_option maxHeartbeats 1600000 in
theorem rlists_any (D : Des) (ns : List Nod) (es : List Nd) (ps : List Prt) (ss : List Sea) (ks : List Pkg) (w : World) (h : DesX w D ns es ps ss ks) (ln : ns.length ≤ 100000) (lp : ps.length ≤ 100000) (ls : ss.length ≤ 100000) (lk : ks.length ≤ 100000) :
    Calls Tryz.prog 48 #[.agg (desA D)] w (RetL w ns ps ss ks) := by
  have H3N := Lib.hid (fun i (hi : i < ns.length) => h.n.at hi)
  have H3P := Lib.hid (fun i (hi : i < ps.length) => h.p.at hi)
  have H3S := Lib.hid (fun i (hi : i < ss.length) => h.s.at hi)
  have H3K := Lib.hid (fun i (hi : i < ks.length) => h.k.at hi)
  have e1 := h.n.n
  have e2 := h.p.n
  have e3 := h.s.n
  have e4 := h.k.n
  clear h
  obtain ⟨hull, ⟨na, nn, nc⟩, ⟨pa, pn, pc⟩, ⟨sa, sn, sc⟩, ⟨ka, kn, kc⟩, ⟨ea, en2, ec⟩⟩ := D
  dsimp only at e1 e2 e3 e4
  obtain rfl : nn = ns.length := e1
  obtain rfl : pn = ps.length := e2
  obtain rfl : sn = ss.length := e3
  obtain rfl : kn = ks.length := e4
  have LEN := Lib.hid (And.intro ln (And.intro lp (And.intro ls lk)))
  show Calls Tryz.prog 48 #[.agg #[.string (bs hull), .slice na ns.length nc, .slice pa ps.length pc, .slice sa ss.length sc, .slice ka ks.length kc, .slice ea en2 ec]] w _
  obtain ⟨W0, HD0, HR0, HA0, HB0, HW⟩ := three_box w #[.string (bs hull), .slice na ns.length nc, .slice pa ps.length pc, .slice sa ss.length sc, .slice ka ks.length kc, .slice ea en2 ec] #[.slice none 0 0, .slice none 0 0, .slice none 0 0, .slice none 0 0] #[.slice none 0 0, .slice none 0 0, .slice none 0 0, .slice none 0 0] 28 99 99
  have HNE : Hid (w.heap.size ≠ w.heap.size + 1 + 1 ∧ w.heap.size + 1 ≠ w.heap.size + 1 + 1) := ⟨by omega, by omega⟩
  have HGE : Hid (w.heap.size ≤ w.heap.size + 1 + 1) := by show _ ≤ _; omega
  go_enter Tryz.func48, Tryz.ntmps48
  go_upto_region 2 with fail
  rw [HW.out]
  clear HW
  go_wp2_with fail
  go_loopw [4] (fun i wr0 => ∃ (j : Nat) (v : Value), j ≤ ns.length ∧ i = .int .i64 j ∧ Hid (FrV W0.heap.size (blkV (w.heap.size + 1 + 1)) W0 wr0) ∧ Hid (ObjAt wr0 (w.heap.size + 1 + 1) #[v, .slice none 0 0, .slice none 0 0, .slice none 0 0] 99) ∧ Hid (OwnZ wr0 W0.heap.size v (((ns.take j).map (fun x : Nod => x.id)).map bs))) (fun i _ => ns.length - (intOf i).toNat)
  case atStart => exact ⟨0, .slice none 0 0, Nat.zero_le _, rfl, FrV.refl _ _ _, HA0.out, OwnZ_nil _ _⟩
  case round =>
    obtain ⟨wr0, hwr⟩ : ∃ u, u = wr := ⟨_, rfl⟩
    subst hwr
    obtain ⟨j, v, hj, rfl, hf, ha, ho⟩ := hrel
    have HDR := Lib.hid (hf.out.objN HD0.out HD0.out.lt HNE.out.1)
    have HZZ : Hid (W0.heap.size ≤ wr0.heap.size) := hf.out.size
    have HBW : Hid (Below w.heap.size w wr0) := HB0.out.trans (hf.out.belowN HGE.out HB0.out.size)
    have c1 := HDR.out.cell 1
    dsimp at c1
    by_cases hlt : j < ns.length
    · obtain ⟨b, off, eA, hc⟩ := H3N.out j hlt
      obtain rfl : na = some ⟨b, off, none⟩ := eA
      have HLO : Hid (((ns.take j).map (fun x : Nod => x.id)).length = j) := by show _ = _; rw [List.length_map, List.length_take]; omega
      obtain ⟨va, vc, hv, _⟩ := OwnZ.sl ho.out
      have ev : v = .slice va j vc := by rw [hv, List.length_map, HLO.out]
      subst ev
      clear hv
      have i1 : (j : Int) < ns.length := by omega
      obtain ⟨⟨yi, yk, yp⟩, hx⟩ : ∃ y, noi ns j = y := ⟨_, rfl⟩
      rw [hx] at hc
      have HID : Hid (((ns.take j).map (fun x : Nod => x.id)) ++ [yi] = (ns.take (j + 1)).map (fun x : Nod => x.id)) := by show _ = _; rw [take_noi hlt, hx, List.map_append]; rfl
      have HCY : Hid (w.cell? ⟨b, off + j * 3, none⟩ = some (.string (bs yi))) := hc.c0
      clear hx hc
      have HRY : Hid (∀ u, FrV W0.heap.size (blkV (w.heap.size + 1 + 1)) W0 u → u.rangeAt b (off + j * 3) [.string (bs yi)]) := fun u hu => by
        have hb := World.block_lt_of_cell? w _ HCY.out
        dsimp only at hb
        refine intR (frv_cell hu (cell_keep HB0.out HCY.out) (Nat.lt_of_lt_of_le hb HB0.out.size) fun e => ?_)
        have e2 := Option.some.inj e
        dsimp only at e2
        omega
      go_upto_region 5 with fail
      clear c1
      refine wp_region_ls gmT gmT_ok [⟨w.heap.size, 0, [.string (bs hull), .slice (some ⟨b, off, none⟩) ns.length nc, .slice pa ps.length pc, .slice sa ss.length sc, .slice ka ks.length kc, .slice ea en2 ec]⟩, ⟨w.heap.size + 1 + 1, 0, [.slice va j vc, .slice none 0 0, .slice none 0 0, .slice none 0 0]⟩, ⟨b, off + j * 3, [.string (bs yi)]⟩] [(1, 0), (3, 1)] [(15, .ix 0 1), (20, .ix j 2), (25, .ix 0 1)] [] 8 9 11 22 23 24 25 16 43 9 99 (.string (bs yi)) #[.string (bs yi)] #[.slice va j vc, .slice none 0 0, .slice none 0 0, .slice none 0 0] (.slice va j vc) W0.heap.size (w.heap.size + 1 + 1) 0
        (FrV W0.heap.size (blkV (w.heap.size + 1 + 1)) W0) (fun u => OwnZ u W0.heap.size (.slice va j vc) (((ns.take j).map (fun x : Nod => x.id)).map bs)) (fun x u => OwnZ u W0.heap.size x (((ns.take (j + 1)).map (fun x : Nod => x.id)).map bs))
        (by kernel_rfl) mixed (by kernel_rfl) (by kernel_rfl) (by kernel_rfl) (by decide) ⟨_, rfl, rfl, rfl⟩ ⟨_, rfl, rfl, rfl, ⟨8, .data⟩, by simp, rfl, rfl⟩ ⟨_, rfl, rfl, rfl, ⟨9, .data⟩, by simp, rfl, rfl⟩ (build_one_str _)
        (fun o a u g K ho2 h1 h2 h3 h4 h5 hK => wp_app_str (.tmp 16) (.tmp 23) ho2 W0.heap.size (.slice va j vc) _ h1 h4 g 1 (bs yi) h2 (h3.cell 0) (by rw [List.length_map, HLO.out]; have := LEN.out; omega) h5 fun v' u' a1 a2 _ => hK v' u' (by rw [← HID.out, List.map_append]; exact a1) a2)
        (by kernel_rfl) (fun v u h => one_own h) rfl (fun u u' h hb => OwnZ.below h hb) (fun v u u' h hb => OwnZ.below h hb) (fun v u h ob => ob.rowSet h (by decide) _ _) (fun u h ob => ob.ne h (by decide))
        (hf.out.thenB (Below.refl _ _).drew hf.out.size) ho.out HZZ.out ha.out (fun u u' h hb => h.thenB hb h.size) (fun u u' h hn ho2 hg => h.grownY hg (fun r hr => (World.ownsRow.lt ho2 r hr).1) hn) (fun u v h => h.cmp (setCell_frv (n := W0.heap.size)) (Nat.le_refl _))
        (obsC (fun u hu => range_new (hu.1.objN HD0.out HD0.out.lt HNE.out.1)) (obsC (fun u hu => range_new hu.2) (obsC (fun u hu => HRY.out u hu.1) obsN))) ⟨rfl, rfl, trivial⟩ ?_
      conv => whnf
      refine And.intro (under_of fun u => s4_at0 _ _ u) ?_
      conv => whnf
      refine And.intro (under_of ⟨rfl, hlt, rfl, rfl⟩) ?_
      conv => whnf
      refine And.intro (under_of fun u => s4_at0 _ _ u) ?_
      conv => whnf
      refine And.intro ⟨rfl, rfl, rfl⟩ ?_
      intro f1
      conv => whnf
      intro w6 v6 hc6 ho6 hn6 hb6
      have HC6 := Lib.hid hc6
      have HO6 := Lib.hid ho6
      have HB6 := Lib.hid hb6
      clear hc6 ho6 hb6 hn6 hf ha ho HDR HBW
      go_wp2_with fail
      go_roundw
      case rel => exact ⟨j + 1, v6, by omega, by go_num, HC6, HB6, HO6⟩
      case measure => simp [intOf]; omega
    obtain rfl : j = ns.length := by omega
    have i1 : ¬ (((ns.length : Nat) : Int) < ns.length) := by omega
    rw [List.take_length] at ho
    obtain ⟨d0a, d0c, hv, _⟩ := OwnZ.sl ho.out
    rw [List.length_map, List.length_map] at hv
    subst hv
    have HZ1_0 := Lib.hid (OwnZ.sl ho.out)
    have HD1 := Lib.hid HDR.out
    have HR1 := Lib.hid (hf.out.objN HR0.out HR0.out.lt HNE.out.2)
    have HA1 := Lib.hid ha.out
    have HB1 := Lib.hid HBW.out
    clear hf ha ho HDR HBW HZZ hj
    go_wp2_with fail
    go_loopw [5] (fun i wr1 => ∃ (j : Nat) (v : Value), j ≤ ps.length ∧ i = .int .i64 j ∧ Hid (FrV wr0.heap.size (blkV (w.heap.size + 1 + 1)) wr0 wr1) ∧ Hid (ObjAt wr1 (w.heap.size + 1 + 1) #[.slice d0a ns.length d0c, v, .slice none 0 0, .slice none 0 0] 99) ∧ Hid (OwnZ wr1 wr0.heap.size v (((ps.take j).map (fun x : Prt => x.id)).map bs))) (fun i _ => ps.length - (intOf i).toNat)
    case atStart => exact ⟨0, .slice none 0 0, Nat.zero_le _, rfl, FrV.refl _ _ _, HA1.out, OwnZ_nil _ _⟩
    case round =>
      obtain ⟨wr1, hwr⟩ : ∃ u, u = wr := ⟨_, rfl⟩
      subst hwr
      obtain ⟨j, v, hj, rfl, hf, ha, ho⟩ := hrel
      have HDR := Lib.hid (hf.out.objN HD1.out HD1.out.lt HNE.out.1)
      have HZZ : Hid (wr0.heap.size ≤ wr1.heap.size) := hf.out.size
      have HBW : Hid (Below w.heap.size w wr1) := HB1.out.trans (hf.out.belowN HGE.out HB1.out.size)
      have c1 := HDR.out.cell 2
      dsimp at c1
      by_cases hlt : j < ps.length
      · obtain ⟨b, off, eA, hc⟩ := H3P.out j hlt
        obtain rfl : pa = some ⟨b, off, none⟩ := eA
        have HLO : Hid (((ps.take j).map (fun x : Prt => x.id)).length = j) := by show _ = _; rw [List.length_map, List.length_take]; omega
        obtain ⟨va, vc, hv, _⟩ := OwnZ.sl ho.out
        have ev : v = .slice va j vc := by rw [hv, List.length_map, HLO.out]
        subst ev
        clear hv
        have i1 : (j : Int) < ps.length := by omega
        obtain ⟨⟨yi, rev, kd, nd, gr, th, ov, hv, sct, ln2, ms, cx, cy, cz, ax, ay, az, tn, outer, holes, hvs⟩, hx⟩ : ∃ y, pri ps j = y := ⟨_, rfl⟩
        rw [hx] at hc
        have HID : Hid (((ps.take j).map (fun x : Prt => x.id)) ++ [yi] = (ps.take (j + 1)).map (fun x : Prt => x.id)) := by show _ = _; rw [take_pri hlt, hx, List.map_append]; rfl
        have HCY : Hid (w.cell? ⟨b, off + j * 18, none⟩ = some (.string (bs yi))) := hc.c0
        clear hx hc
        have HRY : Hid (∀ u, FrV wr0.heap.size (blkV (w.heap.size + 1 + 1)) wr0 u → u.rangeAt b (off + j * 18) [.string (bs yi)]) := fun u hu => by
          have hb := World.block_lt_of_cell? w _ HCY.out
          dsimp only at hb
          refine intR (frv_cell hu (cell_keep HB1.out HCY.out) (Nat.lt_of_lt_of_le hb HB1.out.size) fun e => ?_)
          have e2 := Option.some.inj e
          dsimp only at e2
          omega
        go_upto_region 9 with fail
        clear c1
        refine wp_region_ls gmT gmT_ok [⟨w.heap.size, 0, [.string (bs hull), .slice na ns.length nc, .slice (some ⟨b, off, none⟩) ps.length pc, .slice sa ss.length sc, .slice ka ks.length kc, .slice ea en2 ec]⟩, ⟨w.heap.size + 1 + 1, 0, [.slice d0a ns.length d0c, .slice va j vc, .slice none 0 0, .slice none 0 0]⟩, ⟨b, off + j * 18, [.string (bs yi)]⟩] [(1, 0), (3, 1)] [(33, .ix 1 1), (38, .ix j 2), (43, .ix 1 1)] [] 8 9 11 40 41 42 43 34 43 9 99 (.string (bs yi)) #[.string (bs yi)] #[.slice d0a ns.length d0c, .slice va j vc, .slice none 0 0, .slice none 0 0] (.slice va j vc) wr0.heap.size (w.heap.size + 1 + 1) 1
          (FrV wr0.heap.size (blkV (w.heap.size + 1 + 1)) wr0) (fun u => OwnZ u wr0.heap.size (.slice va j vc) (((ps.take j).map (fun x : Prt => x.id)).map bs)) (fun x u => OwnZ u wr0.heap.size x (((ps.take (j + 1)).map (fun x : Prt => x.id)).map bs))
          (by kernel_rfl) mixed (by kernel_rfl) (by kernel_rfl) (by kernel_rfl) (by decide) ⟨_, rfl, rfl, rfl⟩ ⟨_, rfl, rfl, rfl, ⟨8, .data⟩, by simp, rfl, rfl⟩ ⟨_, rfl, rfl, rfl, ⟨9, .data⟩, by simp, rfl, rfl⟩ (build_one_str _)
          (fun o a u g K ho2 h1 h2 h3 h4 h5 hK => wp_app_str (.tmp 34) (.tmp 41) ho2 wr0.heap.size (.slice va j vc) _ h1 h4 g 1 (bs yi) h2 (h3.cell 0) (by rw [List.length_map, HLO.out]; have := LEN.out; omega) h5 fun v' u' a1 a2 _ => hK v' u' (by rw [← HID.out, List.map_append]; exact a1) a2)
          (by kernel_rfl) (fun v u h => one_own h) rfl (fun u u' h hb => OwnZ.below h hb) (fun v u u' h hb => OwnZ.below h hb) (fun v u h ob => ob.rowSet h (by decide) _ _) (fun u h ob => ob.ne h (by decide))
          (hf.out.thenB (Below.refl _ _).drew hf.out.size) ho.out HZZ.out ha.out (fun u u' h hb => h.thenB hb h.size) (fun u u' h hn ho2 hg => h.grownY hg (fun r hr => (World.ownsRow.lt ho2 r hr).1) hn) (fun u v h => h.cmp (setCell_frv (n := wr0.heap.size)) (Nat.le_refl _))
          (obsC (fun u hu => range_new (hu.1.objN HD1.out HD1.out.lt HNE.out.1)) (obsC (fun u hu => range_new hu.2) (obsC (fun u hu => HRY.out u hu.1) obsN))) ⟨rfl, rfl, trivial⟩ ?_
        conv => whnf
        refine And.intro (under_of fun u => s4_at1 _ _ u) ?_
        conv => whnf
        refine And.intro (under_of ⟨rfl, hlt, rfl, rfl⟩) ?_
        conv => whnf
        refine And.intro (under_of fun u => s4_at1 _ _ u) ?_
        conv => whnf
        refine And.intro ⟨rfl, rfl, rfl⟩ ?_
        intro f1
        conv => whnf
        intro w6 v6 hc6 ho6 hn6 hb6
        have HC6 := Lib.hid hc6
        have HO6 := Lib.hid ho6
        have HB6 := Lib.hid hb6
        clear hc6 ho6 hb6 hn6 hf ha ho HDR HBW
        go_wp2_with fail
        go_roundw
        case rel => exact ⟨j + 1, v6, by omega, by go_num, HC6, HB6, HO6⟩
        case measure => simp [intOf]; omega
      obtain rfl : j = ps.length := by omega
      have i1 : ¬ (((ps.length : Nat) : Int) < ps.length) := by omega
      rw [List.take_length] at ho
      obtain ⟨d1a, d1c, hv, _⟩ := OwnZ.sl ho.out
      rw [List.length_map, List.length_map] at hv
      subst hv
      have HZ2_1 := Lib.hid (OwnZ.sl ho.out)
      have HZ2_0 := Lib.hid (SZ.frv HZ1_0.out hf.out (Nat.le_refl _) HA1.out (dull_s4 _ _ _ _ _ _ _ _ _ _ _ _))
      have HD2 := Lib.hid HDR.out
      have HR2 := Lib.hid (hf.out.objN HR1.out HR1.out.lt HNE.out.2)
      have HA2 := Lib.hid ha.out
      have HB2 := Lib.hid HBW.out
      clear hf ha ho HDR HBW HZZ hj
      go_wp2_with fail
      go_loopw [6] (fun i wr2 => ∃ (j : Nat) (v : Value), j ≤ ss.length ∧ i = .int .i64 j ∧ Hid (FrV wr1.heap.size (blkV (w.heap.size + 1 + 1)) wr1 wr2) ∧ Hid (ObjAt wr2 (w.heap.size + 1 + 1) #[.slice d0a ns.length d0c, .slice d1a ps.length d1c, v, .slice none 0 0] 99) ∧ Hid (OwnZ wr2 wr1.heap.size v (((ss.take j).map (fun x : Sea => x.id)).map bs))) (fun i _ => ss.length - (intOf i).toNat)
      case atStart => exact ⟨0, .slice none 0 0, Nat.zero_le _, rfl, FrV.refl _ _ _, HA2.out, OwnZ_nil _ _⟩
      case round =>
        obtain ⟨wr2, hwr⟩ : ∃ u, u = wr := ⟨_, rfl⟩
        subst hwr
        obtain ⟨j, v, hj, rfl, hf, ha, ho⟩ := hrel
        have HDR := Lib.hid (hf.out.objN HD2.out HD2.out.lt HNE.out.1)
        have HZZ : Hid (wr1.heap.size ≤ wr2.heap.size) := hf.out.size
        have HBW : Hid (Below w.heap.size w wr2) := HB2.out.trans (hf.out.belowN HGE.out HB2.out.size)
        have c1 := HDR.out.cell 3
        dsimp at c1
        by_cases hlt : j < ss.length
        · obtain ⟨b, off, eA, hc⟩ := H3S.out j hlt
          obtain rfl : sa = some ⟨b, off, none⟩ := eA
          have HLO : Hid (((ss.take j).map (fun x : Sea => x.id)).length = j) := by show _ = _; rw [List.length_map, List.length_take]; omega
          obtain ⟨va, vc, hv, _⟩ := OwnZ.sl ho.out
          have ev : v = .slice va j vc := by rw [hv, List.length_map, HLO.out]
          subst ev
          clear hv
          have i1 : (j : Int) < ss.length := by omega
          obtain ⟨⟨yi, ya, yb, yk, yl, yc⟩, hx⟩ : ∃ y, smi ss j = y := ⟨_, rfl⟩
          rw [hx] at hc
          have HID : Hid (((ss.take j).map (fun x : Sea => x.id)) ++ [yi] = (ss.take (j + 1)).map (fun x : Sea => x.id)) := by show _ = _; rw [take_smi hlt, hx, List.map_append]; rfl
          have HCY : Hid (w.cell? ⟨b, off + j * 6, none⟩ = some (.string (bs yi))) := hc.c0
          clear hx hc
          have HRY : Hid (∀ u, FrV wr1.heap.size (blkV (w.heap.size + 1 + 1)) wr1 u → u.rangeAt b (off + j * 6) [.string (bs yi)]) := fun u hu => by
            have hb := World.block_lt_of_cell? w _ HCY.out
            dsimp only at hb
            refine intR (frv_cell hu (cell_keep HB2.out HCY.out) (Nat.lt_of_lt_of_le hb HB2.out.size) fun e => ?_)
            have e2 := Option.some.inj e
            dsimp only at e2
            omega
          go_upto_region 13 with fail
          clear c1
          refine wp_region_ls gmT gmT_ok [⟨w.heap.size, 0, [.string (bs hull), .slice na ns.length nc, .slice pa ps.length pc, .slice (some ⟨b, off, none⟩) ss.length sc, .slice ka ks.length kc, .slice ea en2 ec]⟩, ⟨w.heap.size + 1 + 1, 0, [.slice d0a ns.length d0c, .slice d1a ps.length d1c, .slice va j vc, .slice none 0 0]⟩, ⟨b, off + j * 6, [.string (bs yi)]⟩] [(1, 0), (3, 1)] [(51, .ix 2 1), (56, .ix j 2), (61, .ix 2 1)] [] 8 9 11 58 59 60 61 52 43 9 99 (.string (bs yi)) #[.string (bs yi)] #[.slice d0a ns.length d0c, .slice d1a ps.length d1c, .slice va j vc, .slice none 0 0] (.slice va j vc) wr1.heap.size (w.heap.size + 1 + 1) 2
            (FrV wr1.heap.size (blkV (w.heap.size + 1 + 1)) wr1) (fun u => OwnZ u wr1.heap.size (.slice va j vc) (((ss.take j).map (fun x : Sea => x.id)).map bs)) (fun x u => OwnZ u wr1.heap.size x (((ss.take (j + 1)).map (fun x : Sea => x.id)).map bs))
            (by kernel_rfl) mixed (by kernel_rfl) (by kernel_rfl) (by kernel_rfl) (by decide) ⟨_, rfl, rfl, rfl⟩ ⟨_, rfl, rfl, rfl, ⟨8, .data⟩, by simp, rfl, rfl⟩ ⟨_, rfl, rfl, rfl, ⟨9, .data⟩, by simp, rfl, rfl⟩ (build_one_str _)
            (fun o a u g K ho2 h1 h2 h3 h4 h5 hK => wp_app_str (.tmp 52) (.tmp 59) ho2 wr1.heap.size (.slice va j vc) _ h1 h4 g 1 (bs yi) h2 (h3.cell 0) (by rw [List.length_map, HLO.out]; have := LEN.out; omega) h5 fun v' u' a1 a2 _ => hK v' u' (by rw [← HID.out, List.map_append]; exact a1) a2)
            (by kernel_rfl) (fun v u h => one_own h) rfl (fun u u' h hb => OwnZ.below h hb) (fun v u u' h hb => OwnZ.below h hb) (fun v u h ob => ob.rowSet h (by decide) _ _) (fun u h ob => ob.ne h (by decide))
            (hf.out.thenB (Below.refl _ _).drew hf.out.size) ho.out HZZ.out ha.out (fun u u' h hb => h.thenB hb h.size) (fun u u' h hn ho2 hg => h.grownY hg (fun r hr => (World.ownsRow.lt ho2 r hr).1) hn) (fun u v h => h.cmp (setCell_frv (n := wr1.heap.size)) (Nat.le_refl _))
            (obsC (fun u hu => range_new (hu.1.objN HD2.out HD2.out.lt HNE.out.1)) (obsC (fun u hu => range_new hu.2) (obsC (fun u hu => HRY.out u hu.1) obsN))) ⟨rfl, rfl, trivial⟩ ?_
          conv => whnf
          refine And.intro (under_of fun u => s4_at2 _ _ u) ?_
          conv => whnf
          refine And.intro (under_of ⟨rfl, hlt, rfl, rfl⟩) ?_
          conv => whnf
          refine And.intro (under_of fun u => s4_at2 _ _ u) ?_
          conv => whnf
          refine And.intro ⟨rfl, rfl, rfl⟩ ?_
          intro f1
          conv => whnf
          intro w6 v6 hc6 ho6 hn6 hb6
          have HC6 := Lib.hid hc6
          have HO6 := Lib.hid ho6
          have HB6 := Lib.hid hb6
          clear hc6 ho6 hb6 hn6 hf ha ho HDR HBW
          go_wp2_with fail
          go_roundw
          case rel => exact ⟨j + 1, v6, by omega, by go_num, HC6, HB6, HO6⟩
          case measure => simp [intOf]; omega
        obtain rfl : j = ss.length := by omega
        have i1 : ¬ (((ss.length : Nat) : Int) < ss.length) := by omega
        rw [List.take_length] at ho
        obtain ⟨d2a, d2c, hv, _⟩ := OwnZ.sl ho.out
        rw [List.length_map, List.length_map] at hv
        subst hv
        have HZ3_2 := Lib.hid (OwnZ.sl ho.out)
        have HZ3_0 := Lib.hid (SZ.frv HZ2_0.out hf.out (Nat.le_refl _) HA2.out (dull_s4 _ _ _ _ _ _ _ _ _ _ _ _))
        have HZ3_1 := Lib.hid (SZ.frv HZ2_1.out hf.out (Nat.le_refl _) HA2.out (dull_s4 _ _ _ _ _ _ _ _ _ _ _ _))
        have HD3 := Lib.hid HDR.out
        have HR3 := Lib.hid (hf.out.objN HR2.out HR2.out.lt HNE.out.2)
        have HA3 := Lib.hid ha.out
        have HB3 := Lib.hid HBW.out
        clear hf ha ho HDR HBW HZZ hj
        go_wp2_with fail
        go_loopw [7] (fun i wr3 => ∃ (j : Nat) (v : Value), j ≤ ks.length ∧ i = .int .i64 j ∧ Hid (FrV wr2.heap.size (blkV (w.heap.size + 1 + 1)) wr2 wr3) ∧ Hid (ObjAt wr3 (w.heap.size + 1 + 1) #[.slice d0a ns.length d0c, .slice d1a ps.length d1c, .slice d2a ss.length d2c, v] 99) ∧ Hid (OwnZ wr3 wr2.heap.size v (((ks.take j).map (fun x : Pkg => x.id)).map bs))) (fun i _ => ks.length - (intOf i).toNat)
        case atStart => exact ⟨0, .slice none 0 0, Nat.zero_le _, rfl, FrV.refl _ _ _, HA3.out, OwnZ_nil _ _⟩
        case round =>
          obtain ⟨wr3, hwr⟩ : ∃ u, u = wr := ⟨_, rfl⟩
          subst hwr
          obtain ⟨j, v, hj, rfl, hf, ha, ho⟩ := hrel
          have HDR := Lib.hid (hf.out.objN HD3.out HD3.out.lt HNE.out.1)
          have HZZ : Hid (wr2.heap.size ≤ wr3.heap.size) := hf.out.size
          have HBW : Hid (Below w.heap.size w wr3) := HB3.out.trans (hf.out.belowN HGE.out HB3.out.size)
          have c1 := HDR.out.cell 4
          dsimp at c1
          by_cases hlt : j < ks.length
          · obtain ⟨b, off, eA, hc⟩ := H3K.out j hlt
            obtain rfl : ka = some ⟨b, off, none⟩ := eA
            have HLO : Hid (((ks.take j).map (fun x : Pkg => x.id)).length = j) := by show _ = _; rw [List.length_map, List.length_take]; omega
            obtain ⟨va, vc, hv, _⟩ := OwnZ.sl ho.out
            have ev : v = .slice va j vc := by rw [hv, List.length_map, HLO.out]
            subst ev
            clear hv
            have i1 : (j : Int) < ks.length := by omega
            obtain ⟨⟨yi, yb, yp, yh, ya, yq, yr⟩, hx⟩ : ∃ y, pki ks j = y := ⟨_, rfl⟩
            rw [hx] at hc
            have HID : Hid (((ks.take j).map (fun x : Pkg => x.id)) ++ [yi] = (ks.take (j + 1)).map (fun x : Pkg => x.id)) := by show _ = _; rw [take_pki hlt, hx, List.map_append]; rfl
            have HCY : Hid (w.cell? ⟨b, off + j * 5, none⟩ = some (.string (bs yi))) := hc.c0
            clear hx hc
            have HRY : Hid (∀ u, FrV wr2.heap.size (blkV (w.heap.size + 1 + 1)) wr2 u → u.rangeAt b (off + j * 5) [.string (bs yi)]) := fun u hu => by
              have hb := World.block_lt_of_cell? w _ HCY.out
              dsimp only at hb
              refine intR (frv_cell hu (cell_keep HB3.out HCY.out) (Nat.lt_of_lt_of_le hb HB3.out.size) fun e => ?_)
              have e2 := Option.some.inj e
              dsimp only at e2
              omega
            go_upto_region 17 with fail
            clear c1
            refine wp_region_ls gmT gmT_ok [⟨w.heap.size, 0, [.string (bs hull), .slice na ns.length nc, .slice pa ps.length pc, .slice sa ss.length sc, .slice (some ⟨b, off, none⟩) ks.length kc, .slice ea en2 ec]⟩, ⟨w.heap.size + 1 + 1, 0, [.slice d0a ns.length d0c, .slice d1a ps.length d1c, .slice d2a ss.length d2c, .slice va j vc]⟩, ⟨b, off + j * 5, [.string (bs yi)]⟩] [(1, 0), (3, 1)] [(69, .ix 3 1), (74, .ix j 2), (79, .ix 3 1)] [] 8 9 11 76 77 78 79 70 43 9 99 (.string (bs yi)) #[.string (bs yi)] #[.slice d0a ns.length d0c, .slice d1a ps.length d1c, .slice d2a ss.length d2c, .slice va j vc] (.slice va j vc) wr2.heap.size (w.heap.size + 1 + 1) 3
              (FrV wr2.heap.size (blkV (w.heap.size + 1 + 1)) wr2) (fun u => OwnZ u wr2.heap.size (.slice va j vc) (((ks.take j).map (fun x : Pkg => x.id)).map bs)) (fun x u => OwnZ u wr2.heap.size x (((ks.take (j + 1)).map (fun x : Pkg => x.id)).map bs))
              (by kernel_rfl) mixed (by kernel_rfl) (by kernel_rfl) (by kernel_rfl) (by decide) ⟨_, rfl, rfl, rfl⟩ ⟨_, rfl, rfl, rfl, ⟨8, .data⟩, by simp, rfl, rfl⟩ ⟨_, rfl, rfl, rfl, ⟨9, .data⟩, by simp, rfl, rfl⟩ (build_one_str _)
              (fun o a u g K ho2 h1 h2 h3 h4 h5 hK => wp_app_str (.tmp 70) (.tmp 77) ho2 wr2.heap.size (.slice va j vc) _ h1 h4 g 1 (bs yi) h2 (h3.cell 0) (by rw [List.length_map, HLO.out]; have := LEN.out; omega) h5 fun v' u' a1 a2 _ => hK v' u' (by rw [← HID.out, List.map_append]; exact a1) a2)
              (by kernel_rfl) (fun v u h => one_own h) rfl (fun u u' h hb => OwnZ.below h hb) (fun v u u' h hb => OwnZ.below h hb) (fun v u h ob => ob.rowSet h (by decide) _ _) (fun u h ob => ob.ne h (by decide))
              (hf.out.thenB (Below.refl _ _).drew hf.out.size) ho.out HZZ.out ha.out (fun u u' h hb => h.thenB hb h.size) (fun u u' h hn ho2 hg => h.grownY hg (fun r hr => (World.ownsRow.lt ho2 r hr).1) hn) (fun u v h => h.cmp (setCell_frv (n := wr2.heap.size)) (Nat.le_refl _))
              (obsC (fun u hu => range_new (hu.1.objN HD3.out HD3.out.lt HNE.out.1)) (obsC (fun u hu => range_new hu.2) (obsC (fun u hu => HRY.out u hu.1) obsN))) ⟨rfl, rfl, trivial⟩ ?_
            conv => whnf
            refine And.intro (under_of fun u => s4_at3 _ _ u) ?_
            conv => whnf
            refine And.intro (under_of ⟨rfl, hlt, rfl, rfl⟩) ?_
            conv => whnf
            refine And.intro (under_of fun u => s4_at3 _ _ u) ?_
            conv => whnf
            refine And.intro ⟨rfl, rfl, rfl⟩ ?_
            intro f1
            conv => whnf
            intro w6 v6 hc6 ho6 hn6 hb6
            have HC6 := Lib.hid hc6
            have HO6 := Lib.hid ho6
            have HB6 := Lib.hid hb6
            clear hc6 ho6 hb6 hn6 hf ha ho HDR HBW
            go_wp2_with fail
            go_roundw
            case rel => exact ⟨j + 1, v6, by omega, by go_num, HC6, HB6, HO6⟩
            case measure => simp [intOf]; omega
          obtain rfl : j = ks.length := by omega
          have i1 : ¬ (((ks.length : Nat) : Int) < ks.length) := by omega
          rw [List.take_length] at ho
          obtain ⟨d3a, d3c, hv, _⟩ := OwnZ.sl ho.out
          rw [List.length_map, List.length_map] at hv
          subst hv
          have HZ4_3 := Lib.hid (OwnZ.sl ho.out)
          have HZ4_0 := Lib.hid (SZ.frv HZ3_0.out hf.out (Nat.le_refl _) HA3.out (dull_s4 _ _ _ _ _ _ _ _ _ _ _ _))
          have HZ4_1 := Lib.hid (SZ.frv HZ3_1.out hf.out (Nat.le_refl _) HA3.out (dull_s4 _ _ _ _ _ _ _ _ _ _ _ _))
          have HZ4_2 := Lib.hid (SZ.frv HZ3_2.out hf.out (Nat.le_refl _) HA3.out (dull_s4 _ _ _ _ _ _ _ _ _ _ _ _))
          have HD4 := Lib.hid HDR.out
          have HR4 := Lib.hid (hf.out.objN HR3.out HR3.out.lt HNE.out.2)
          have HA4 := Lib.hid ha.out
          have HB4 := Lib.hid HBW.out
          clear hf ha ho HDR HBW HZZ hj
          have a0 := HA4.out.cell 0
          have a1 := HA4.out.cell 1
          have a2 := HA4.out.cell 2
          have a3 := HA4.out.cell 3
          dsimp at a0 a1 a2 a3
          have HFR : Hid (FrV wr3.heap.size (blkV (w.heap.size + 1)) wr3 (wr3.setRow (w.heap.size + 1) #[.slice d0a ns.length d0c, .slice d1a ps.length d1c, .slice d2a ss.length d2c, .slice d3a ks.length d3c])) := setRow_frv _ _ _
          have HEND : Hid (Below w.heap.size w (wr3.setRow (w.heap.size + 1) #[.slice d0a ns.length d0c, .slice d1a ps.length d1c, .slice d2a ss.length d2c, .slice d3a ks.length d3c])) := below_setRow HB4.out (by omega) _
          go_upto_region 18 with fail
          go_wp2_with (refine at_store ?_; refine wpList_store_row (o := ⟨none, .store _ _ _, _, _, _, _⟩) rfl 99 (.tmp 2) (.tmp 80) rfl (w.heap.size + 1) #[.slice d0a ns.length d0c, .slice d1a ps.length d1c, .slice d2a ss.length d2c, .slice d3a ks.length d3c] rfl rfl 99 _ HR4.out info_s4 rfl (one_s4 _ _ _ _ _ _ _ _ _ _ _ _) ?_)
          refine bodyPost_ret (v := .agg #[.slice d0a ns.length d0c, .slice d1a ps.length d1c, .slice d2a ss.length d2c, .slice d3a ks.length d3c]) (results_cell1 Tryz.results48 rfl (load_s4 (setRow_heap _ _ _ _ _ _ HR4.out))) rfl ?_
          exact ⟨_, _, _, _, rfl, SZ.frv HZ4_0.out HFR.out (Nat.le_refl _) HR4.out (dull_s4 _ _ _ _ _ _ _ _ _ _ _ _), SZ.frv HZ4_1.out HFR.out (Nat.le_refl _) HR4.out (dull_s4 _ _ _ _ _ _ _ _ _ _ _ _), SZ.frv HZ4_2.out HFR.out (Nat.le_refl _) HR4.out (dull_s4 _ _ _ _ _ _ _ _ _ _ _ _), SZ.frv HZ4_3.out HFR.out (Nat.le_refl _) HR4.out (dull_s4 _ _ _ _ _ _ _ _ _ _ _ _), HEND.out⟩
end Go.Proofs.YtfpnjbomlmhlpaaGreat

/- The reference's structure: Block (printed by wip/gen_gmq.py). -/
namespace Go.Proofs.YtfpnjbomlmhlpaaGreat
open Go.RowKit

theorem pack_slices {w : World} {ks : List Pkg} (h : ∀ x ∈ ks, PkgOK w x) (id : List UInt8) : ∃ pa pn pc, ((pkFind ks id).getD default).pv = .slice pa pn pc ∧ ∃ aa an ac, ((pkFind ks id).getD default).av = .slice aa an ac := by
  rcases find_or (fun x : Pkg => x.id == id) ks with e | e
  · unfold pkFind
    rw [e]
    exact ⟨none, 0, 0, rfl, none, 0, 0, rfl⟩
  · obtain ⟨a, c, e1, _⟩ := (h _ e).p
    obtain ⟨a', c', e2, _⟩ := (h _ e).a
    exact ⟨_, _, _, e1, _, _, _, e2⟩
/-- a string and a truth value -/
def RetSB (w : World) (e : Ending) (w' : World) : Prop := ∃ (s : List UInt8) (b : Bool), e = .returned (.tuple #[.string (bs s), .bool b]) ∧ Below w.heap.size w w'
theorem ret_eb : Ending.returned (.tuple #[.string ⟨#[]⟩, .bool false]) = .returned (.tuple #[.string (bs []), .bool false]) := rfl
set_option maxRecDepth 100000 in
set_option maxHeartbeats 1000000 in
theorem rBlock_any (D : Des) (ns : List Nod) (ps : List Prt) (ks : List Pkg) (nid : List UInt8) (w : World) (h : SNo w (.slice D.n.a D.n.n D.n.c) ns) (hl : ns.length ≤ 100000) (hp : SPr w (.slice D.p.a D.p.n D.p.c) ps) (hpo : ∀ x ∈ ps, PrtOK w x) (hpl : ps.length ≤ 100000)
    (hk : SPk w (.slice D.k.a D.k.n D.k.c) ks) (hko : ∀ x ∈ ks, PkgOK w x) (hkl : ks.length ≤ 100000) : Calls Tryz.prog 98 #[.agg (desA D), .string (bs nid)] w (RetSB w) := by
  have HS := Lib.hid h
  have HP := Lib.hid hp
  have HPO := Lib.hid hpo
  have HK := Lib.hid hk
  have HKO := Lib.hid hko
  clear h hp hpo hk hko
  obtain ⟨W1, HO1, HB1, HW1, _⟩ := boxD w D
  unfold desA
  go_enter Tryz.func98, Tryz.ntmps98
  go_upto_region 1 with fail
  rw [HW1.out]
  clear HW1
  obtain ⟨c0, c1, c2, c3, c4, c5⟩ := desC HO1.out
  go_wp2_with fail
  refine (rNode_any D ns nid W1 (HS.out.keep HB1.out) hl).mono ?_
  rintro e w2 ⟨rfl, hb2⟩
  have HB2 := Lib.hid (ext_trans HB1.out hb2)
  have HD2 := Lib.hid (HO1.out.keep hb2)
  clear hb2 c0 c1 c2 c3 c4 c5 HO1
  unfold nodeV
  obtain ⟨⟨yi, yk, yp⟩, hy⟩ : ∃ y, (noFind ns nid).getD default = y := ⟨_, rfl⟩
  obtain ⟨b2, hbb⟩ : ∃ b, (noFind ns nid).isSome = b := ⟨_, rfl⟩
  rw [hy, hbb]
  clear hy hbb
  obtain ⟨W2b, hW2b⟩ : ∃ W, w2.alloc (.cells #[.string (bs yi), .int .i64 yk, .string (bs yp)] 107) = W := ⟨_, rfl⟩
  have HO2b : Hid (ObjAt W2b w2.heap.size #[.string (bs yi), .int .i64 yk, .string (bs yp)] 107) := by show ObjAt ..; rw [← hW2b]; exact ObjAt.new _ _ _
  have HN2 : Hid (Below w2.heap.size w2 W2b) := by show Below ..; rw [← hW2b]; exact (Below.refl _ _).alloc (Nat.le_refl _) _
  have HW2b := Lib.hid hW2b
  clear hW2b
  simp only [noA]
  go_upto_region 3 with fail
  rw [HW2b.out]
  clear HW2b
  have HB3 := Lib.hid (ext_trans HB2.out HN2.out)
  have HD3 := Lib.hid (HD2.out.keep HN2.out)
  have HTAIL : Hid (∀ (t : List UInt8) (W : World), Below w.heap.size w W → Calls Tryz.prog 54 #[.agg (desA D), .string (bs t)] W (RetU W)) := fun t W hW => rup_any D ns t W (HS.out.keep hW) hl
  clear HD2 HO2b
  cases b2
  · obtain ⟨c0, c1, c2, c3, c4, c5⟩ := desC HD3.out
    go_wp2_with fail
    refine (rPart_any D ps nid W2b (HP.out.keep HB3.out) (fun x hx => (HPO.out x hx).keep HB3.out) hpl).mono ?_
    rintro e w4 ⟨rfl, hb4⟩
    have HB4 := Lib.hid (ext_trans HB3.out hb4)
    have HD4 := Lib.hid (HD3.out.keep hb4)
    clear hb4 c0 c1 c2 c3 c4 c5 HD3
    unfold partV
    obtain ⟨y, hy⟩ : ∃ y, (prFind ps nid).getD default = y := ⟨_, rfl⟩
    obtain ⟨poa, pon, poc, peo, pha, phn, phc, peh⟩ : ∃ oa on oc, y.ov = .slice oa on oc ∧ ∃ ha hn hc, y.hv = .slice ha hn hc := by
      rw [← hy]
      exact part_slices HPO.out nid
    obtain ⟨b4, hbb⟩ : ∃ b, (prFind ps nid).isSome = b := ⟨_, rfl⟩
    rw [hy, hbb]
    obtain ⟨pi, prev, pkd, pnd, pgr, pth, pov, phv, psc, pln, pms, pcx, pcy, pcz, pax, pay, paz, ptn, pouter, pholes, phvs⟩ := y
    dsimp only at peo peh
    subst peo peh
    clear hy hbb
    obtain ⟨W4b, hW4b⟩ : ∃ W, w4.alloc (.cells #[.string (bs pi), .int .i64 prev, .int .i64 pkd, .string (bs pnd), .string (bs pgr), .int .i64 pth, .slice poa pon poc, .slice pha phn phc, .string (bs psc), .int .i64 pln, .int .i64 pms, .int .i64 pcx, .int .i64 pcy, .int .i64 pcz, .int .i64 pax, .int .i64 pay, .int .i64 paz, .int .i64 ptn] 123) = W := ⟨_, rfl⟩
    have HO4b : Hid (ObjAt W4b w4.heap.size #[.string (bs pi), .int .i64 prev, .int .i64 pkd, .string (bs pnd), .string (bs pgr), .int .i64 pth, .slice poa pon poc, .slice pha phn phc, .string (bs psc), .int .i64 pln, .int .i64 pms, .int .i64 pcx, .int .i64 pcy, .int .i64 pcz, .int .i64 pax, .int .i64 pay, .int .i64 paz, .int .i64 ptn] 123) := by show ObjAt ..; rw [← hW4b]; exact ObjAt.new _ _ _
    have HN4 : Hid (Below w4.heap.size w4 W4b) := by show Below ..; rw [← hW4b]; exact (Below.refl _ _).alloc (Nat.le_refl _) _
    have HW4b := Lib.hid hW4b
    clear hW4b
    simp only [prA]
    go_upto_region 5 with fail
    rw [HW4b.out]
    clear HW4b
    have HB5 := Lib.hid (ext_trans HB4.out HN4.out)
    have HD5 := Lib.hid (HD4.out.keep HN4.out)
    have d3 := HO4b.out.cell 3
    dsimp at d3
    cases b4
    · obtain ⟨c0, c1, c2, c3, c4, c5⟩ := desC HD5.out
      go_wp2_with fail
      refine (rPackage_any D ks nid W4b (HK.out.keep HB5.out) (fun x hx => (HKO.out x hx).keep HB5.out) hkl).mono ?_
      rintro e w6 ⟨rfl, hb6⟩
      have HB6 := Lib.hid (ext_trans HB5.out hb6)
      have HD6 := Lib.hid (HD5.out.keep hb6)
      clear hb6 c0 c1 c2 c3 c4 c5 HD5 d3 HO4b
      unfold packageV
      obtain ⟨y, hy⟩ : ∃ y, (pkFind ks nid).getD default = y := ⟨_, rfl⟩
      obtain ⟨kpa, kpn, kpc, kep, kaa, kan, kac, kea⟩ : ∃ pa pn pc, y.pv = .slice pa pn pc ∧ ∃ aa an ac, y.av = .slice aa an ac := by
        rw [← hy]
        exact pack_slices HKO.out nid
      obtain ⟨b6, hbb⟩ : ∃ b, (pkFind ks nid).isSome = b := ⟨_, rfl⟩
      rw [hy, hbb]
      obtain ⟨ki, kb, kpv, kh, kav, kps, kas⟩ := y
      dsimp only at kep kea
      subst kep kea
      clear hy hbb
      obtain ⟨W6b, hW6b⟩ : ∃ W, w6.alloc (.cells #[.string (bs ki), .string (bs kb), .slice kpa kpn kpc, .int .i64 kh, .slice kaa kan kac] 54) = W := ⟨_, rfl⟩
      have HO6b : Hid (ObjAt W6b w6.heap.size #[.string (bs ki), .string (bs kb), .slice kpa kpn kpc, .int .i64 kh, .slice kaa kan kac] 54) := by show ObjAt ..; rw [← hW6b]; exact ObjAt.new _ _ _
      have HN6 : Hid (Below w6.heap.size w6 W6b) := by show Below ..; rw [← hW6b]; exact (Below.refl _ _).alloc (Nat.le_refl _) _
      have HW6b := Lib.hid hW6b
      clear hW6b
      simp only [pkA]
      go_upto_region 8 with fail
      rw [HW6b.out]
      clear HW6b
      have HB7 := Lib.hid (ext_trans HB6.out HN6.out)
      have HD7 := Lib.hid (HD6.out.keep HN6.out)
      cases b6
      · go_wp2_with fail
        go_ret2
        exact ⟨_, _, ret_eb, HB7.out⟩
      obtain ⟨c0, c1, c2, c3, c4, c5⟩ := desC HD7.out
      have d1 := HO6b.out.cell 1
      dsimp at d1
      go_wp2_with fail
      refine (rNode_any D ns kb W6b (HS.out.keep HB7.out) hl).mono ?_
      rintro e w8 ⟨rfl, hb8⟩
      have HB8 := Lib.hid (ext_trans HB7.out hb8)
      have HK8 := Lib.hid (HO6b.out.keep hb8)
      clear hb8 c0 c1 c2 c3 c4 c5 HD7 d1
      unfold nodeV
      obtain ⟨⟨yi, yk, yp⟩, hy⟩ : ∃ y, (noFind ns kb).getD default = y := ⟨_, rfl⟩
      obtain ⟨b8, hbb⟩ : ∃ b, (noFind ns kb).isSome = b := ⟨_, rfl⟩
      rw [hy, hbb]
      clear hy hbb
      obtain ⟨W8b, hW8b⟩ : ∃ W, w8.alloc (.cells #[.string (bs yi), .int .i64 yk, .string (bs yp)] 107) = W := ⟨_, rfl⟩
      have HO8b : Hid (ObjAt W8b w8.heap.size #[.string (bs yi), .int .i64 yk, .string (bs yp)] 107) := by show ObjAt ..; rw [← hW8b]; exact ObjAt.new _ _ _
      have HN8 : Hid (Below w8.heap.size w8 W8b) := by show Below ..; rw [← hW8b]; exact (Below.refl _ _).alloc (Nat.le_refl _) _
      have HW8b := Lib.hid hW8b
      clear hW8b
      simp only [noA]
      go_upto_region 10 with fail
      rw [HW8b.out]
      clear HW8b
      have HB9 := Lib.hid (ext_trans HB8.out HN8.out)
      have HK9 := Lib.hid (HK8.out.keep HN8.out)
      refine wp_region_et gmT gmT_ok [⟨w8.heap.size, 0, [.string (bs yi), .int .i64 yk, .string (bs yp)]⟩] (Below W8b.heap.size W8b) [(13, 0)] [] [(55, .bool ((!b8) || (yk != 1)))] (by kernel_rfl) (Below.refl _ _)
        (obsC (fun u hu => rangeKeep (range_new HO8b.out) hu) obsN) ⟨rfl, trivial⟩ ?_
      conv => whnf
      intro f1
      conv => whnf
      refine And.intro (rfl) ?_
      conv => whnf
      intro w10 h10
      have HB10 := Lib.hid (ext_trans HB9.out h10)
      have HK10 := Lib.hid (HK9.out.keep h10)
      clear h10
      obtain ⟨z, hz⟩ : ∃ p, ((!b8) || (yk != 1)) = p := ⟨_, rfl⟩
      rw [hz]
      clear hz
      have d1 := HK10.out.cell 1
      dsimp at d1
      cases z
      · go_wp2_with fail
        go_ret2
        exact ⟨_, _, rfl, HB10.out⟩
      · go_wp2_with fail
        go_ret2
        exact ⟨_, _, ret_eb, HB10.out⟩
    obtain ⟨c0, c1, c2, c3, c4, c5⟩ := desC HD5.out
    go_wp2_with fail
    refine (HTAIL.out pnd W4b HB5.out).mono ?_
    rintro e w6 ⟨v, l, b, rfl, hz, _, hne, hb6⟩
    have HB6 := Lib.hid (ext_trans HB5.out hb6)
    obtain ⟨la, lc, rfl, l1, l2, l3⟩ := hz
    rw [List.length_map] at l1 l3
    have L3 := Lib.hid l3
    clear hb6 c0 c1 c2 c3 c4 c5 l3
    rw [List.length_map]
    cases b
    · go_wp2_with fail
      go_ret2
      exact ⟨_, _, ret_eb, HB6.out⟩
    have hlp : 0 < l.length := by
      rcases l with _ | ⟨x, l⟩
      · exact absurd rfl (hne rfl)
      · simp
    obtain ⟨xb, xo, rfl, hc⟩ := L3.out (l.length - 1) (by omega)
    dsimp only at hc
    rw [zi_bs (by omega)] at hc
    have hj : (l.length : Int) - 1 = ((l.length - 1 : Nat) : Int) := by omega
    have hi1 : (0 : Int) ≤ (l.length : Int) - 1 := by omega
    have hi2 : (l.length : Int) - 1 < l.length := by omega
    unfold maxLen at l2
    clear hne
    go_upto_region 17 with fail
    go_wp2_with fail
    go_ret2
    exact ⟨_, _, rfl, HB6.out⟩
  obtain ⟨c0, c1, c2, c3, c4, c5⟩ := desC HD3.out
  go_upto_region 14 with fail
  go_wp2_with fail
  refine (HTAIL.out nid W2b HB3.out).mono ?_
  rintro e w6 ⟨v, l, b, rfl, hz, _, hne, hb6⟩
  have HB6 := Lib.hid (ext_trans HB3.out hb6)
  obtain ⟨la, lc, rfl, l1, l2, l3⟩ := hz
  rw [List.length_map] at l1 l3
  have L3 := Lib.hid l3
  clear hb6 c0 c1 c2 c3 c4 c5 l3
  rw [List.length_map]
  cases b
  · go_wp2_with fail
    go_ret2
    exact ⟨_, _, ret_eb, HB6.out⟩
  have hlp : 0 < l.length := by
    rcases l with _ | ⟨x, l⟩
    · exact absurd rfl (hne rfl)
    · simp
  obtain ⟨xb, xo, rfl, hc⟩ := L3.out (l.length - 1) (by omega)
  dsimp only at hc
  rw [zi_bs (by omega)] at hc
  have hj : (l.length : Int) - 1 = ((l.length - 1 : Nat) : Int) := by omega
  have hi1 : (0 : Int) ≤ (l.length : Int) - 1 := by omega
  have hi2 : (l.length : Int) - 1 < l.length := by omega
  unfold maxLen at l2
  clear hne
  go_upto_region 17 with fail
  go_wp2_with fail
  go_ret2
  exact ⟨_, _, rfl, HB6.out⟩
end Go.Proofs.YtfpnjbomlmhlpaaGreat
