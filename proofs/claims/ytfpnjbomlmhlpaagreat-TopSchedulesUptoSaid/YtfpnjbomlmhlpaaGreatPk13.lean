/- Contracts: start and planned of schedules. -/
import Derived.Test.YtfpnjbomlmhlpaaGreatPk12
import Derived.Test.YtfpnjbomlmhlpaaGreatPk07
import Derived.Test.YtfpnjbomlmhlpaaGreatPk10
set_option linter.unusedSimpArgs false
set_option linter.unusedVariables false

/- Contract: newHall of schedules. -/
namespace Go.Proofs.YtfpnjbomlmhlpaaGreat
open Go.RowKit

/-- a design whose blocks have an order, and jobs that are right -/
structure SchIn (w : World) (D : Des) (ns : List Nod) (es : List Nd) (jv : Value) (l : List MH) (fr : Int) (bl : List (List UInt8)) (E : Edg) : Prop where
  h : DesOK w D ns es
  hn : ns.length ≤ 256
  he : es.length ≤ 10000
  hd : (blocksF ns).Nodup
  hs : ∀ x ∈ ns, x.id.length ≤ maxLen
  hs2 : ∀ x ∈ es, x.block.length ≤ maxLen ∧ x.on.length ≤ maxLen
  hbl : blocksF ns = bl
  hE : edgF es bl bl.length = E
  hj : SHs w jv l
  hc : Crn w l
  hJ : JobsR (hl l) bl
  ht : (topo bl.length E bl.length).length = bl.length
  f0 : 0 ≤ fr
  f1 : fr ≤ 1048576
theorem SchIn.keep {w w' : World} {D : Des} {ns : List Nod} {es : List Nd} {jv : Value} {l : List MH} {fr : Int} {bl : List (List UInt8)} {E : Edg} (h : SchIn w D ns es jv l fr bl E) (hb : Below w.heap.size w w') : SchIn w' D ns es jv l fr bl E :=
  ⟨h.h.keep hb, h.hn, h.he, h.hd, h.hs, h.hs2, h.hbl, h.hE, h.hj.keep hb, h.hc.keep hb, h.hJ, h.ht, h.f0, h.f1⟩
noncomputable abbrev BefJ (l : List MH) (bl : List (List UInt8)) (E : Edg) : Bef := befB (hl l) bl E
def OrdL (l : List MH) (bl : List (List UInt8)) (E : Edg) : List Nat := ordJ (hl l) bl (topo bl.length E bl.length)
/-- a hall in memory -/
structure HallW (w : World) (hb : Nat) (jv : Value) (l : List MH) (fr : Int) (bv ov : Value) (bl : List (List UInt8)) (E : Edg) : Prop where
  c : HallC w hb jv fr bv ov
  r : RowsC w bv l.length (BefJ l bl E)
  o : SI w ov (natI (OrdL l bl E))
theorem HallW.keep {w w' : World} {hb : Nat} {jv : Value} {l : List MH} {fr : Int} {bv ov : Value} {bl : List (List UInt8)} {E : Edg} (h : HallW w hb jv l fr bv ov bl E) (hk : Below w.heap.size w w') : HallW w' hb jv l fr bv ov bl E := ⟨h.c.keep hk, h.r.keep hk, h.o.keep hk⟩
def hallA (jv : Value) (fr : Int) (bv ov : Value) : Array Value := #[jv, .int .i64 fr, bv, ov]
theorem boxHall (w : World) (ja : Option Addr) (n c : Nat) (fr : Int) : ∃ W1, Hid (ObjAt W1 w.heap.size (hallA (.slice ja n c) fr (.slice none 0 0) (.slice none 0 0)) 67) ∧ Hid (Below w.heap.size w W1) ∧ Hid (w.alloc (.cells #[.slice ja n c, .int .i64 fr, .slice none 0 0, .slice none 0 0] 67) = W1) ∧ Hid (w.heap.size < W1.heap.size) :=
  ⟨w.alloc (.cells (hallA (.slice ja n c) fr (.slice none 0 0) (.slice none 0 0)) 67), ObjAt.new _ _ _, (Below.refl _ _).alloc (Nat.le_refl _) _, rfl, by show _ < _; simp⟩
theorem alloc_strings (w : World) : (Instr.alloc 43 true (.tuple #[])).run Tryz.prog w = .ok (.pointer (some ⟨w.heap.size, 0, none⟩)) (w.alloc (.cells #[.slice none 0 0] 43)) := by go_simp
theorem enter_Blocks (args : Array Value) (w : World) : (callFunc 30 args).run Tryz.prog w = .ok (.enter 30 args) w := enters_of Tryz.func30 (by kernel_rfl) rfl args w
theorem enter_Edges (args : Array Value) (w : World) : (callFunc 32 args).run Tryz.prog w = .ok (.enter 32 args) w := enters_of Tryz.func32 (by kernel_rfl) rfl args w
theorem kept_SZ (ss : List ByteArray) : KeptV fun v u => SZ u v ss := ⟨fun _ _ _ h hb => h.keep hb, fun _ _ _ _ _ _ _ h hf ho hd => h.frv hf (Nat.le_refl _) ho hd⟩
theorem kept_SEg (E : Edg) : KeptV fun v u => SEg u v E := ⟨fun _ _ _ h hb => h.keep hb, fun _ _ _ _ _ _ _ h hf ho hd => h.frv hf (Nat.le_refl _) ho hd⟩
theorem dull_nil (a : Option Addr) (n c : Nat) : Dull #[.slice a n c] := fun t => by
  match t with
  | 0 => exact ⟨fun s h => (by simp at h), fun x y h => (by simp at h)⟩
  | t + 1 => exact ⟨fun s h => (by simp at h), fun x y h => (by simp at h)⟩
theorem one_SZ {ss : List ByteArray} (v : Value) (u : World) (h : SZ u v ss) : v.oneCell' = true ∧ v.cells = #[v] := by
  obtain ⟨a, cap, rfl, _⟩ := h; exact ⟨rfl, rfl⟩
abbrev blkV (b : Nat) : Value := .slice (some ⟨b, 0, none⟩) 0 0
/-- the rows made so far -/
structure NhO (w3 wr : World) (hb : Nat) (jv : Value) (fr : Int) (n : Nat) (B : Bef) (k : Nat) (bv : Value) (gs : List Nat) : Prop where
  len : gs.length = k
  f : FrV w3.heap.size (blkV hb) w3 wr
  o : ObjAt wr hb (hallA jv fr bv (.slice none 0 0)) 67
  r : OwnR wr w3.heap.size bv n gs
  g : ∀ i (hi : i < gs.length), w3.heap.size ≤ gs[i] ∧ ObjAt wr gs[i] (rowA n fun j => .bool (B i j)) 4
theorem obj_ne {w : World} {a b : Nat} {xs ys : Array Value} {e f : TypeId} (h : ObjAt w a xs e) (g : ObjAt w b ys f) (hne : e ≠ f) : a ≠ b := by
  intro he; subst he
  have h2 := (show w.heap[a]? = _ from h).symm.trans g
  simp at h2
  exact hne h2.2
theorem FrV.cmp {n m : Nat} {b : Nat} {w x y : World} (h : FrV n (blkV b) w x) (g : FrV m (blkV b) x y) (hm : n ≤ m) : FrV n (blkV b) w y :=
  ⟨g.os.trans h.os, g.tape.trans h.tape, g.output.trans h.output, Nat.le_trans h.size g.size, fun k hk h1 => (g.block k (by omega) h1).trans (h.block k hk h1)⟩
theorem FrV.objN {n b a : Nat} {w x : World} {xs : Array Value} {e : TypeId} (h : FrV n (blkV b) w x) (o : ObjAt w a xs e) (hn : a < n) (hne : a ≠ b) : ObjAt x a xs e := h.obj o hn (fun e => hne (Option.some.inj e).symm)
/-- what leaves out a block made since leaves that out too -/
theorem FrV.young {n m b g : Nat} {w x y : World} (h : FrV n (blkV b) w x) (f : FrV m (blkV g) x y) (hg : n ≤ g) (hm : n ≤ m) : FrV n (blkV b) w y :=
  ⟨f.os.trans h.os, f.tape.trans h.tape, f.output.trans h.output, Nat.le_trans h.size f.size, fun k hk h1 => (f.block k (by omega) (fun e => by have e2 : g = k := Option.some.inj e; omega)).trans (h.block k hk h1)⟩
theorem FrV.belowN {n b B : Nat} {w x : World} (h : FrV n (blkV b) w x) (hb : B ≤ b) (hn : B ≤ n) : Below B w x := h.below (fun k e => by have e2 : b = k := Option.some.inj e; omega) hn
section
variable {w3 wr wr' : World} {hb : Nat} {jv : Value} {fr : Int} {n k : Nat} {B : Bef} {bv : Value} {gs : List Nat}
theorem NhO.start (h : ObjAt w3 hb (hallA jv fr (.slice none 0 0) (.slice none 0 0)) 67) : NhO w3 w3 hb jv fr n B 0 (.slice none 0 0) [] :=
  ⟨rfl, FrV.refl _ _ _, h, OwnR_nil _ _ _, fun i hi => by cases hi⟩
theorem NhO.below (h : NhO w3 wr hb jv fr n B k bv gs) (hk : Below wr.heap.size wr wr') : NhO w3 wr' hb jv fr n B k bv gs :=
  ⟨h.len, h.f.thenB hk h.f.size, h.o.keep hk, owns_below h.r hk, fun i hi => ⟨(h.g i hi).1, (h.g i hi).2.keep hk⟩⟩
/-- a row of flags made since is written -/
theorem NhO.frv {g : Nat} {cs : Array Value} (h : NhO w3 wr hb jv fr n B k bv gs) (hf : FrV wr.heap.size (blkV g) wr wr') (ho : ObjAt wr g cs 4) (hg : w3.heap.size ≤ g) (hn : ∀ i (hi : i < gs.length), gs[i] ≠ g) : NhO w3 wr' hb jv fr n B k bv gs := by
  refine ⟨h.len, h.f.young hf hg h.f.size, hf.objN h.o h.o.lt (obj_ne h.o ho (by decide)), ?_, fun i hi => ⟨(h.g i hi).1, hf.objN (h.g i hi).2 (h.g i hi).2.lt (hn i hi)⟩⟩
  exact World.ownsRow.kept h.r hf.grownBy (.inr (ho.ne h.r (by decide)))
end
theorem FrV.grownY {n b : Nat} {row : Option Nat} {w x y : World} (h : FrV n (blkV b) w x) (g : x.grownBy y row) (hr : ∀ r, row = some r → n ≤ r) (hn : n ≤ x.heap.size) : FrV n (blkV b) w y :=
  ⟨g.os.trans h.os, g.tape.trans h.tape, g.output.trans h.output, Nat.le_trans h.size g.size, fun k hk h1 => (g.block k (by omega) (fun e => by have := hr k e.symm; omega)).trans (h.block k hk h1)⟩
/-- one row more, in the hall -/
theorem NhO.push {w3 wr wa : World} {hb g : Nat} {jv : Value} {fr : Int} {n k : Nat} {B : Bef} {bv va : Value} {gs : List Nat} {ob : Obj} (h : NhO w3 wr hb jv fr n B k bv gs) (hg : ObjAt wr g (rowA n fun t => .bool (decide (t < n) && B k t)) 4) (hg3 : w3.heap.size ≤ g)
    (hoa : OwnR wa w3.heap.size va n (gs ++ [g])) (hga : (wr.alloc ob).grownBy wa bv.ownBlock) : NhO w3 (wa.setCell ⟨hb, 2, none⟩ va) hb jv fr n B (k + 1) va (gs ++ [g]) := by
  have hal : Below wr.heap.size wr (wr.alloc ob) := (Below.refl _ _).alloc (Nat.le_refl _) _
  have hne : ∀ {a : Nat} {xs : Array Value} {e : TypeId}, ObjAt wr a xs e → e ≠ 84 → bv.ownBlock ≠ some a := fun ho he => ho.ne h.r (by intro e2; exact he e2.symm)
  have keepA : ∀ {a : Nat} {xs : Array Value} {e : TypeId}, ObjAt wr a xs e → e ≠ 84 → ObjAt wa a xs e := fun ho he => (ho.keep hal).grown hga (hne ho he)
  have hoh := keepA h.o (by decide)
  refine ⟨by rw [List.length_append, h.len]; rfl, ?_, ?_, ?_, fun i hi => ?_⟩
  · refine ((h.f.thenB hal h.f.size).grownY hga (fun r hr => ?_) ?_).cmp (setCell_frv (n := w3.heap.size)) (Nat.le_refl _)
    · exact (World.ownsRow.lt h.r r hr).1
    · have := h.f.size; simp; omega
  · exact hoh.set 2 va
  · exact hoh.rowSet hoa (by decide) _ _
  · rw [List.length_append] at hi
    by_cases e : i < gs.length
    · rw [List.getElem_append_left e]
      refine ⟨(h.g i e).1, (keepA (h.g i e).2 (by decide)).other (obj_ne (h.g i e).2 h.o (by decide)) _ _⟩
    · have ei : i = k := by have := h.len; simp at hi; omega
      subst ei
      rw [List.getElem_append_right (by omega)]
      have : (gs ++ [g]).length = gs.length + 1 := by simp
      simp only [List.getElem_singleton]
      refine ⟨hg3, ?_⟩
      have h2 := (keepA hg (by decide)).other (obj_ne hg h.o (by decide)) 2 va
      rw [rowA_congr (g := fun t => .bool (B i t)) fun t ht => by simp [ht]] at h2
      exact h2
theorem NhO.dull {w3 wr : World} {hb : Nat} {ja : Option Addr} {ln jc : Nat} {fr : Int} {n : Nat} {B : Bef} {k : Nat} {bv : Value} {gs : List Nat} (h : NhO w3 wr hb (.slice ja ln jc) fr n B k bv gs) : Dull (hallA (.slice ja ln jc) fr bv (.slice none 0 0)) := by
  rcases OwnR.form h.r with ⟨rfl, _⟩ | ⟨g, cap, rfl, _⟩
  · exact dull_hall _ _ _ _ _ _ _ _ _ _
  · exact dull_hall _ _ _ _ _ _ _ _ _ _
theorem NhO.rows {w3 w8 wr : World} {hb : Nat} {jv : Value} {fr : Int} {n : Nat} {B : Bef} {bv : Value} {gs : List Nat} (h : NhO w3 w8 hb jv fr n B n bv gs) (hf : FrV w8.heap.size (blkV hb) w8 wr) : RowsC wr bv n B := by
  rcases OwnR.form h.r with ⟨rfl, e⟩ | ⟨g, cap, rfl, h1, h2, h3⟩
  · have hn : n = 0 := by rw [← h.len, e]; rfl
    subst hn
    exact ⟨none, 0, rfl, fun i hi => by omega⟩
  · have hne := h.o.ne h.r (by decide)
    refine ⟨some ⟨g, 0, none⟩, cap, by rw [h.len], fun i hi => ?_⟩
    have hi' : i < gs.length := by rw [h.len]; exact hi
    refine ⟨g, 0, gs[i], rfl, ?_, fun k hk => ?_⟩
    · rw [Nat.zero_add]
      exact frv_cell hf (h3 i hi') h2 (fun e2 => hne (congrArg some (Option.some.inj e2).symm))
    · have h4 := hf.objN (h.g i hi').2 (h.g i hi').2.lt (obj_ne (h.g i hi').2 h.o (by decide))
      rw [h4.cell]; exact rowA_get hk
/-- the order so far, in the hall -/
structure NhP (w8 wr : World) (hb : Nat) (jv : Value) (fr : Int) (bv ov : Value) (o : List Nat) : Prop where
  f : FrV w8.heap.size (blkV hb) w8 wr
  ob : ObjAt wr hb (hallA jv fr bv ov) 67
  i : OwnI wr w8.heap.size ov (natI o)
theorem NhP.start {w8 : World} {hb : Nat} {jv : Value} {fr : Int} {bv : Value} (h : ObjAt w8 hb (hallA jv fr bv (.slice none 0 0)) 67) : NhP w8 w8 hb jv fr bv (.slice none 0 0) [] := ⟨FrV.refl _ _ _, h, World.ownsRow_nil _ _ _ _⟩
theorem NhP.below {w8 wr wr' : World} {hb : Nat} {jv : Value} {fr : Int} {bv ov : Value} {o : List Nat} (h : NhP w8 wr hb jv fr bv ov o) (hk : Below wr.heap.size wr wr') : NhP w8 wr' hb jv fr bv ov o := ⟨h.f.thenB hk h.f.size, h.ob.keep hk, h.i.below hk⟩
theorem NhP.push {w8 wr wa : World} {hb q : Nat} {jv : Value} {fr : Int} {bv ov va : Value} {o : List Nat} {ob : Obj} (h : NhP w8 wr hb jv fr bv ov o) (hoa : OwnI wa w8.heap.size va (natI (o ++ [q]))) (hga : (wr.alloc ob).grownBy wa ov.ownBlock) :
    NhP w8 (wa.setCell ⟨hb, 3, none⟩ va) hb jv fr bv va (o ++ [q]) := by
  have hal : Below wr.heap.size wr (wr.alloc ob) := (Below.refl _ _).alloc (Nat.le_refl _) _
  have hoh : ObjAt wa hb (hallA jv fr bv ov) 67 := (h.ob.keep hal).grown hga (h.ob.ne h.i (by decide))
  refine ⟨?_, hoh.set 3 va, hoh.rowSet hoa (by decide) _ _⟩
  refine ((h.f.thenB hal h.f.size).grownY hga (fun r hr => ?_) ?_).cmp (setCell_frv (n := w8.heap.size)) (Nat.le_refl _)
  · exact (World.ownsRow.lt h.i r hr).1
  · have := h.f.size; simp; omega
theorem ordJ_app (J : List Hst) (b : List (List UInt8)) (T U : List Nat) : ordJ J b (T ++ U) = ordJ J b T ++ ordJ J b U := by unfold ordJ; rw [List.map_append, List.filter_append]
theorem ordJ_in {J : List Hst} {b : List (List UInt8)} {T : List Nat} {m : Nat} (h : m < T.length) (hq : jobI J (bkI b T[m]) < J.length) (hnd : (ordJ J b T).Nodup) : ordJ J b (T.take (m + 1)) = ordJ J b (T.take m) ++ [jobI J (bkI b T[m])] ∧ jobI J (bkI b T[m]) ∉ ordJ J b (T.take m) := by
  have e : ordJ J b (T.take (m + 1)) = ordJ J b (T.take m) ++ [jobI J (bkI b T[m])] := by
    rw [List.take_succ_eq_append_getElem h, ordJ_app]
    congr 1
    unfold ordJ
    rw [List.map_singleton, List.filter_cons, if_pos (by simpa using hq), List.filter_nil]
  refine ⟨e, fun hin => ?_⟩
  have h2 : (ordJ J b (T.take (m + 1)) ++ ordJ J b (T.drop (m + 1))).Nodup := by rw [← ordJ_app, List.take_append_drop]; exact hnd
  have h3 := (List.nodup_append.1 h2).1
  rw [e] at h3
  exact (List.nodup_append.1 h3).2.2 _ hin _ (by simp) rfl
theorem ordJ_out {J : List Hst} {b : List (List UInt8)} {T : List Nat} {m : Nat} (h : m < T.length) (hq : ¬ jobI J (bkI b T[m]) < J.length) : ordJ J b (T.take (m + 1)) = ordJ J b (T.take m) := by
  rw [List.take_succ_eq_append_getElem h, ordJ_app]
  unfold ordJ
  rw [List.map_singleton, List.filter_cons, if_neg (by simpa using hq), List.filter_nil, List.append_nil]
theorem jobI_out {J : List Hst} {s : List UInt8} (h : s ∉ J.map (·.block)) : ¬ jobI J s < J.length := by
  intro hl
  unfold jobI at hl
  rw [List.findIdx_lt_length] at hl
  obtain ⟨j, hj, e⟩ := hl
  exact h (List.mem_map.2 ⟨j, hj, eq_of_beq e⟩)
noncomputable def pathB (E : Edg) (a b : Nat) : Bool := @decide (PathE E a b) (Classical.propDecidable _)
theorem Before_ret (n : Nat) (ev : Value) (E : Edg) (a b : Nat) (w : World) (h : SEg w ev E) (hE : EdgOK n E) (hn : n ≤ 256) (hl : E.length ≤ 100000) (ht : (topo n E n).length = n) (ha : a < n) (hb : b < n) : Calls Tryz.prog 67 #[.int .i64 n, ev, .int .i64 a, .int .i64 b] w (Ret w (.bool (pathB E a b))) :=
  (Before_any n ev E a b w h hE hn hl ht ha hb).mono fun e w' ⟨bv, e1, e2, e3⟩ => ⟨by
    rw [e1, show bv = pathB E a b from by unfold pathB; rw [Bool.eq_iff_iff, e2]; exact (@decide_eq_true_iff _ (Classical.propDecidable _)).symm], e3⟩
theorem at_in (m : MH) (bsv : Value) (bl : List (List UInt8)) (b10 : Nat) (w : World) (h : w.cell? ⟨b10, 0, none⟩ = some bsv) (hs : SZ w bsv (bl.map bs)) (a : Option Addr) (n c : Nat) (hv : m.cv = .slice a n c) (hin : m.h.block ∈ bl) :
    Calls Tryz.prog 65 #[.agg (hsA m), .pointer (some ⟨b10, 0, none⟩)] w (Ret w (.int .i64 (atB bl m.h.block : Nat))) := by
  have := at_any m bsv bl b10 w h hs a n c hv
  unfold idxS at this
  rw [if_pos hin] at this
  unfold hsA
  rw [hv]
  exact this
theorem bef_val {J : List MH} {bl : List (List UInt8)} {E : Edg} {k j : Nat} (hk : k < J.length) (hj : j < J.length) : (!((bs (mhi J k).h.block).toList == (bs (mhi J j).h.block).toList) && pathB E (atB bl (mhi J k).h.block) (atB bl (mhi J j).h.block)) = BefJ J bl E k j := by
  rw [bs_toList, bs_toList, Bool.eq_iff_iff, befB_iff, hsi_ml hk, hsi_ml hj, Bool.and_eq_true, Bool.not_eq_true', beq_eq_false_iff_ne]
  unfold pathB
  rw [@decide_eq_true_iff _ (Classical.propDecidable _)]
theorem row_next {u : World} {g n j : Nat} {F : Nat → Bool} (h : ObjAt u g (rowA n fun t => .bool (decide (t < j) && F t)) 4) : ObjAt (u.setCell ⟨g, j, none⟩ (.bool (F j))) g (rowA n fun t => .bool (decide (t < j + 1) && F t)) 4 := by
  have := h.set j (.bool (F j))
  rw [rowA_set] at this
  rw [rowA_congr (g := fun t => if t = j then .bool (F j) else .bool (decide (t < j) && F t)) fun t _ => by
    by_cases e : t = j
    · subst e; rw [if_pos rfl]; simp
    · rw [if_neg e, show decide (t < j + 1) = decide (t < j) from decide_eq_decide.2 (by omega)]]
  exact this
set_option maxRecDepth 100000 in
set_option maxHeartbeats 2000000 in
theorem newHall_any (D : Des) (ns : List Nod) (es : List Nd) (ja : Option Addr) (jc : Nat) (l : List MH) (fr : Int) (bl : List (List UInt8)) (E : Edg) (w : World) (h : SchIn w D ns es (.slice ja l.length jc) l fr bl E) :
    Calls Tryz.prog 25 #[.agg (desA D), .slice ja l.length jc, .int .i64 fr] w fun e w' => ∃ hb bv ov, e = .returned (.tuple #[.pointer (some ⟨hb, 0, none⟩), .int .i64 0]) ∧ HallW w' hb (.slice ja l.length jc) l fr bv ov bl E ∧ Below w.heap.size w w' := by
  have HIN := Lib.hid h
  have HOK : Hid (EdgOK bl.length E) := by show EdgOK ..; rw [← h.hE]; exact edgF_ok _ _
  have HBL : Hid (bl.length ≤ 256) := by show _ ≤ _; rw [← h.hbl]; have := blocks_le ns; have := h.hn; omega
  have HSM : Hid (E.length ≤ 100000) := by show _ ≤ _; rw [← h.hE]; exact edgF_small HBL.out
  have HIB : Hid (∀ i, i < l.length → (mhi l i).h.block ∈ bl) := fun i hi => h.hJ.blk _ (by unfold hl; exact List.mem_map_of_mem (mhi_mem hi))
  have hlen := h.hJ.few
  rw [hl_len] at hlen
  have f0 := h.f0
  have f1 := h.f1
  have J3 : Hid (∀ i, i < l.length → ∃ b off, ja = some ⟨b, off, none⟩ ∧ HsAt w b (off + i * 3) (mhi l i)) := by
    obtain ⟨a, cap, e, _, _, j3⟩ := h.hj
    cases e; exact j3
  have HCJ := Lib.hid (fun w' (hb : Below w.heap.size w w') => by
    have h := h.keep hb
    exact CheckJobs_any D ns es (.slice ja l.length jc) l w' h.h h.hn h.he h.hd h.hs h.hs2 bl h.hbl E h.hE h.hj h.hc h.hJ h.ht)
  have HBK := Lib.hid (fun w' (hb : Below w.heap.size w w') => Blocks_any D ns w' (h.h.n.keep hb) (by have := h.hn; omega))
  have HEG := Lib.hid (fun w' (hb : Below w.heap.size w w') => nEdges_any D ns es w' (h.h.keep hb) h.hn h.he h.hd h.hs h.hs2)
  have HNO := Lib.hid (fun w' (hb : Below w.heap.size w w') => nOrder_any D ns es w' (h.h.keep hb) h.hn h.he h.hd h.hs h.hs2 bl h.hbl E h.hE)
  rw [h.hbl] at HBK HEG
  rw [h.hE] at HEG
  clear h
  obtain ⟨W0, HO0, HB0, HW0, HZ0⟩ := boxD w D
  have d1 : ¬ (fr < 0) := by omega
  have d2 : ¬ ((1048576 : Int) < fr) := by omega
  unfold desA at HCJ HBK HEG HNO ⊢
  go_enter Tryz.func25, Tryz.ntmps25
  go_upto_region 1 with fail
  rw [HW0.out]
  clear HW0
  obtain ⟨c0, c1, c2, c3, c4, c5⟩ := desC HO0.out
  go_wp2_with fail
  refine (HCJ.out W0 HB0.out).mono ?_
  rintro e w1 ⟨rfl, h1'⟩
  clear c0 c1 c2 c3 c4 c5 HCJ
  have HB1 := Lib.hid (ext_trans HB0.out h1')
  have HO1 := Lib.hid (HO0.out.keep h1')
  clear h1' HO0
  obtain ⟨W2, HO2, HC2, HW2, HZ2⟩ := boxHall w1 ja l.length jc fr
  go_upto_region 7 with fail
  rw [HW2.out]
  have HB2 := Lib.hid (ext_trans HB1.out HC2.out)
  have HDO := Lib.hid (HO1.out.keep HC2.out)
  clear HW2 HC2 HO1 d1 d2
  refine wp_region_sp sqT sqT_ok [⟨w.heap.size, 0, (desA D).toList⟩] [(3, 0)] [] [] [(1, .call 30 [39] [.agg (desA D)] fun v u => SZ u v (bl.map bs)), (3, .call 32 [41] [.agg (desA D)] fun v u => SEg u v E), (4, .new 43 (.slice none 0 0) 5), (5, .put 4 1 43 fun v u => SZ u v (bl.map bs)), (6, .asg 3)]
    (by kernel_rfl) mixed (by kernel_rfl) (by simp) (by simp [SpK.isPut]) ?_ (obsC (fun v hv => rangeKeep (range_new HDO.out) hv) obsN) ⟨rfl, trivial⟩ ?_
  · exact List.forall_mem_cons.2 ⟨⟨⟨_, _, rfl, rfl, rfl, rfl⟩, enter_Blocks, kept_SZ _, fun u hu => HBK.out u (ext_trans HB2.out hu)⟩, List.forall_mem_cons.2 ⟨⟨⟨_, _, rfl, rfl, rfl, rfl⟩, enter_Edges, kept_SEg _, fun u hu => HEG.out u (ext_trans HB2.out hu)⟩,
      List.forall_mem_cons.2 ⟨⟨⟨_, 1, .tail _ (.tail _ (.tail _ (.head _)))⟩, ⟨_, rfl, rfl⟩, alloc_strings, dull_nil _ _ _⟩,
      List.forall_mem_cons.2 ⟨⟨⟨_, .tail _ (.tail _ (.head _))⟩, ⟨_, _, _, .head _⟩, ⟨_, 10, 40, rfl, rfl, rfl, ⟨_, _, rfl, rfl, rfl, ⟨4, .data⟩, by simp, rfl, rfl⟩, ⟨_, _, rfl, rfl, rfl, ⟨1, .data⟩, by simp, rfl, rfl⟩⟩, by kernel_rfl, fun v u h => one_SZ v u h⟩,
      List.forall_mem_cons.2 ⟨⟨by simp, _, 42, rfl, rfl, ⟨_, _, rfl, rfl, rfl, ⟨3, .data⟩, by simp, rfl, rfl⟩⟩, fun p hp => by cases hp⟩⟩⟩⟩⟩
  conv => whnf
  refine And.intro (Nat.le_refl 6) ?_
  conv => whnf
  refine And.intro (Nat.le_refl 6) ?_
  conv => whnf
  refine And.intro ⟨⟨rfl, trivial⟩, ⟨rfl, trivial⟩, trivial⟩ ?_
  intro f1 s1 hs1
  conv => whnf
  intro w3 h3 hj3
  obtain ⟨v1, a1, b1⟩ := hs1 1 rfl _ rfl
  obtain ⟨v3, a3, b3⟩ := hs1 3 rfl _ rfl
  obtain ⟨v4, a4, b4⟩ := hs1 4 rfl _ rfl
  obtain ⟨v5, a5, _⟩ := hs1 5 rfl _ rfl
  obtain ⟨v6, a6, b6⟩ := hs1 6 rfl _ rfl
  have e1 := hj3 _ (.head _) v1 a1
  have e3 := hj3 _ (.tail _ (.head _)) v3 a3
  obtain ⟨b10, rfl, hb10, _⟩ := hj3 _ (.tail _ (.tail _ (.head _))) v4 a4
  obtain ⟨x5, b10', c1, c2, _, ho10⟩ := hj3 _ (.tail _ (.tail _ (.tail _ (.head _)))) v5 a5
  have e6 := hj3 _ (.tail _ (.tail _ (.tail _ (.tail _ (.head _))))) v6 a6
  rw [a1] at c1; cases c1
  rw [a4] at c2; cases c2
  rw [a3] at e6; cases e6
  rw [← b1 _ rfl, ← b3 _ rfl, ← b4 _ rfl, ← b6 _ rfl]
  clear hs1 hj3 a1 a3 a4 a5 a6 b1 b3 b4 b6
  have HSZ := Lib.hid e1
  have HEV := Lib.hid e3
  have HO10 := Lib.hid ho10
  have HB3 := Lib.hid (ext_trans HB2.out h3)
  have HDO3 := Lib.hid (HDO.out.keep h3)
  have HH3 := Lib.hid (HO2.out.keep h3)
  have hwh : w.heap.size ≤ w1.heap.size := HB1.out.size
  clear e1 e3 ho10 h3 HDO HO2 HB1
  generalize w1.heap.size = hb at *
  obtain ⟨ba, bc, rfl, b1, b2, b3⟩ := id HSZ.out
  rw [List.length_map] at b1
  rw [List.length_map] at HSZ HO10
  rw [List.length_map]
  obtain ⟨ea, ec, rfl, g1, g2, g3⟩ := id HEV.out
  clear b1 b2 b3 g1 g2 g3 HBK HEG
  have HWH := Lib.hid hwh
  have mk3 := make_bools l.length (by omega)
  clear hwh
  go_wp2_with fail
  go_loopw [46] (fun i wr => ∃ k : Nat, k ≤ l.length ∧ i = .int .i64 k ∧ Hid (∃ bv gs, NhO w3 wr hb (.slice ja l.length jc) fr l.length (BefJ l bl E) k bv gs)) (fun i _ => l.length - (intOf i).toNat)
  case atStart => exact ⟨0, Nat.zero_le _, rfl, ⟨_, _, NhO.start HH3.out⟩⟩
  case round =>
    obtain ⟨k, hk, rfl, hN⟩ := hrel
    obtain ⟨bv, gs, hN⟩ := hN.out
    have HN := Lib.hid hN
    clear hN
    have HBW : Hid (Below w.heap.size w wr) := HB3.out.trans (HN.out.f.belowN HWH.out HB3.out.size)
    by_cases hlt : k < l.length
    · obtain ⟨b, off, rfl, hc⟩ := J3.out k hlt
      obtain ⟨c0, c1, c2⟩ := hc.keep HBW.out
      obtain ⟨va, vc, hav, hsz⟩ := HIN.out.hc.form hlt
      have HAV := Lib.hid hav
      rw [hav] at c2
      obtain ⟨W4, HO4, HC4, HW4, _⟩ := copyH wr (mhi l k) hav
      clear hc hav hsz
      go_upto_region 12 with fail
      rw [HW4.out]
      clear HW4 c0 c1 c2
      have HN4 := Lib.hid (HN.out.below HC4.out)
      obtain ⟨W5, hW5⟩ : ∃ W5, W4.alloc (.cells (rowA l.length fun _ => .bool false) 4) = W5 := ⟨_, rfl⟩
      have HN5 : Hid (NhO w3 W5 hb (.slice (some ⟨b, off, none⟩) l.length jc) fr l.length (BefJ l bl E) k bv gs) := by show NhO ..; rw [← hW5]; exact HN4.out.below ((Below.refl _ _).alloc (Nat.le_refl _) _)
      have HG5 : Hid (ObjAt W5 W4.heap.size (rowA l.length fun t => .bool (decide (t < 0) && BefJ l bl E k t)) 4) := by
        show ObjAt ..
        rw [← hW5, rowA_congr (g := fun _ => .bool false) fun t ht => by simp]
        exact ObjAt.new _ _ _
      have HO5 : Hid (ObjAt W5 wr.heap.size (hsA (mhi l k)) 59) := by show ObjAt ..; rw [← hW5]; exact HO4.out.keep ((Below.refl _ _).alloc (Nat.le_refl _) _)
      have HW5 := Lib.hid hW5
      clear hW5
      go_upto_region 13 with fail
      rw [HW5.out]
      clear HW5
      have hg3 : w3.heap.size ≤ W4.heap.size := HN4.out.f.size
      have HGS : Hid (∀ i (hi : i < gs.length), gs[i] ≠ W4.heap.size) := fun i hi => by have := (HN4.out.g i hi).2.lt; omega
      have HG3 := Lib.hid hg3
      clear HN4 HC4 hg3 HBW HN HO4
      obtain ⟨WR, hWR⟩ : ∃ WR, WR = wr := ⟨_, rfl⟩
      subst hWR
      generalize WR.heap.size = b14 at *
      generalize W4.heap.size = g at *
      go_wp2_with fail
      go_loopw [55] (fun i w' => ∃ j : Nat, j ≤ l.length ∧ i = .int .i64 j ∧ Hid (FrV W5.heap.size (blkV g) W5 w') ∧ Hid (ObjAt w' g (rowA l.length fun t => .bool (decide (t < j) && BefJ l bl E k t)) 4)) (fun i _ => l.length - (intOf i).toNat)
      case atStart => exact ⟨0, Nat.zero_le _, rfl, FrV.refl _ _ _, HG5⟩
      case round =>
        obtain ⟨j, hj, rfl, hf, hg⟩ := hrel
        have HNj := Lib.hid (HN5.out.frv hf.out HG5.out HG3.out HGS.out)
        have HBj : Hid (Below w.heap.size w wr) := HB3.out.trans (HNj.out.f.belowN HWH.out HB3.out.size)
        by_cases hlt2 : j < l.length
        · obtain ⟨b', off', e', hc⟩ := J3.out j hlt2
          cases e'
          obtain ⟨c0, c1, c2⟩ := hc.keep HBj.out
          obtain ⟨vb, vd, hbv, hsz⟩ := HIN.out.hc.form hlt2
          have HBV := Lib.hid hbv
          rw [hbv] at c2
          obtain ⟨W6, HO6, HC6, HW6, _⟩ := copyH wr (mhi l j) hbv
          clear hc hbv hsz
          go_upto_region 16 with fail
          rw [HW6.out]
          clear HW6 c0 c1 c2
          have HN6 := Lib.hid (HNj.out.below HC6.out)
          have HG6 := Lib.hid (hg.out.keep HC6.out)
          have HO14 := Lib.hid ((hf.out.objN HO5.out HO5.out.lt (obj_ne HO5.out HG5.out (by decide))).keep HC6.out)
          have HO10' := Lib.hid (HN6.out.f.objN HO10.out HO10.out.lt (obj_ne HO10.out HH3.out (by decide)))
          have HSZ6 := Lib.hid (HSZ.out.frv HN6.out.f (Nat.le_refl _) HH3.out (dull_hall _ _ _ _ _ _ _ _ _ _))
          have HEV6 := Lib.hid (HEV.out.frv HN6.out.f (Nat.le_refl _) HH3.out (dull_hall _ _ _ _ _ _ _ _ _ _))
          have HF6 : Hid (FrV W5.heap.size (blkV g) W5 W6) := hf.out.thenB HC6.out hf.out.size
          have hwr : wr.heap.size < W6.heap.size := HO6.out.lt
          clear hf hg HNj HBj HC6
          generalize wr.heap.size = b17 at *
          refine wp_region_st sqT sqT_ok [⟨b14, 0, (hsA (mhi l k)).toList⟩, ⟨b17, 0, (hsA (mhi l j)).toList⟩, ⟨b10, 0, [.slice ba bl.length bc]⟩, ⟨g, j, []⟩] (FrV W6.heap.size (blkV g) W6) (fun u u' => Below u.heap.size u u') [(14, 0), (17, 1), (10, 2)]
            [(73, .ret (.int .i64 (atB bl (mhi l k).h.block : Nat))), (76, .ret (.int .i64 (atB bl (mhi l j).h.block : Nat))), (77, .ret (.bool (pathB E (atB bl (mhi l k).h.block) (atB bl (mhi l j).h.block)))), (79, .ix j 3)] [] 20 79 78 4 (.pointer (some ⟨g, j, none⟩)) (.bool (BefJ l bl E k j))
            (fun u => ObjAt u g (rowA l.length fun t => .bool (decide (t < j) && BefJ l bl E k t)) 4) (fun u => ObjAt u g (rowA l.length fun t => .bool (decide (t < j + 1) && BefJ l bl E k t)) 4)
            (by kernel_rfl) mixed (by kernel_rfl) (by kernel_rfl) ⟨_, rfl, rfl, rfl⟩ ⟨rfl, rfl, rfl, Nat.le_refl _, fun _ _ _ => rfl⟩ HG6.out (fun u u' h1 h2 => h1.thenB h2 h1.size) (fun u _ => Below.refl _ _) (fun u u' _ h h2 => h.keep h2) (fun u u' _ h h2 => h.keep h2)
            (fun u h1 h2 => ⟨_, run_storeAt_one (by rw [h2.cell]; exact rowA_get hlt2) (h2.frozen j) (by kernel_rfl) rfl rfl, h1.cmp (setCell_frv (n := W6.heap.size)) (Nat.le_refl _), row_next h2⟩)
            (obsC (fun u hu => range_new (hu.objN HO14.out HO14.out.lt (obj_ne HO14.out HG6.out (by decide)))) (obsC (fun u hu => range_new (hu.objN HO6.out HO6.out.lt (obj_ne HO6.out HG6.out (by decide)))) (obsC (fun u hu => range_new (hu.objN HO10'.out HO10'.out.lt (obj_ne HO10'.out HG6.out (by decide)))) (obsC (fun u hu i v h => by simp at h) obsN)))) ⟨rfl, rfl, rfl, trivial⟩ ?_
          conv => whnf
          refine And.intro (Nat.le_refl 3) ?_
          conv => whnf
          refine And.intro (under_of fun u hu => at_in (mhi l k) _ bl b10 u ((hu.objN HO10'.out HO10'.out.lt (obj_ne HO10'.out HG6.out (by decide))).cell 0) (HSZ6.out.frv hu (Nat.le_refl _) HG6.out (dull_row _ _)) _ _ _ HAV.out (HIB.out k hlt)) ?_
          conv => whnf
          refine And.intro (Nat.le_refl 3) ?_
          conv => whnf
          refine And.intro (under_of fun u hu => at_in (mhi l j) _ bl b10 u ((hu.objN HO10'.out HO10'.out.lt (obj_ne HO10'.out HG6.out (by decide))).cell 0) (HSZ6.out.frv hu (Nat.le_refl _) HG6.out (dull_row _ _)) _ _ _ HBV.out (HIB.out j hlt2)) ?_
          conv => whnf
          refine And.intro (under_of fun u hu => Before_ret bl.length _ E _ _ u (HEV6.out.frv hu (Nat.le_refl _) HG6.out (dull_row _ _)) HOK.out HBL.out HSM.out HIN.out.ht (atB_lt (HIB.out k hlt)).1 (atB_lt (HIB.out j hlt2)).1) ?_
          conv => whnf
          refine And.intro (under_of ⟨rfl, hlt2, rfl, by show j = 0 + j * 1; omega⟩) ?_
          conv => whnf
          refine And.intro ⟨rfl, congrArg Value.bool (bef_val hlt hlt2)⟩ ?_
          intro f2
          conv => whnf
          intro w7 h7 hp7
          have HF7 := Lib.hid (HF6.out.cmp h7 HF6.out.size)
          have HG7 := Lib.hid hp7
          clear h7 hp7 HF6 HG6 HO14 HO10' HSZ6 HEV6 HN6 HO6
          go_wp2_with fail
          go_roundw
          case rel => exact ⟨j + 1, by omega, by go_num, HF7, HG7⟩
          case measure => simp [intOf]; omega
        · obtain rfl : j = l.length := by omega
          have c2 : wr.cell? ⟨hb, 2, none⟩ = some bv := HNj.out.o.cell 2
          have HLN : Hid (gs.length ≤ 2000000) := by show _ ≤ _; rw [HNj.out.len]; omega
          have HZZ : Hid (w3.heap.size ≤ wr.heap.size) := HNj.out.f.size
          have HCC : Hid ((wr.alloc (.cells #[.slice (some ⟨g, 0, none⟩) l.length l.length] 84)).cell? ⟨wr.heap.size, 0, none⟩ = some (rwV l.length g)) := (ObjAt.new wr #[.slice (some ⟨g, 0, none⟩) l.length l.length] 84).cell 0
          go_wp2_with (at_builtin; refine wpList_app_row rfl (.tmp 85) (.tmp 87) rfl w3.heap.size l.length bv gs rfl (World.ownsRow.alloc HNj.out.r _) wr.heap.size 1 g rfl HCC.out HLN.out (by have := HZZ.out; simp; omega) ?_)
          intro va wa hoa hga _
          have HNN := Lib.hid (HNj.out.push hg.out HG3.out hoa hga)
          have hh := ((HNj.out.o.alloc (.cells #[.slice (some ⟨g, 0, none⟩) l.length l.length] 84)).grown hga (HNj.out.o.ne HNj.out.r (by decide)))
          have c2' : wa.cell? ⟨hb, 2, none⟩ = some bv := hh.cell 2
          have c2f := hh.frozen 2
          obtain ⟨va1, va2, hva, _⟩ : ∃ g' cap, va = .slice (some ⟨g', 0, none⟩) (gs ++ [g]).length cap ∧ True := by
            rcases OwnR.form hoa with ⟨_, e⟩ | ⟨g', cap, e, _⟩
            · have e2 : (gs ++ [g]).length = 0 := by rw [e]; rfl
              simp at e2
            · exact ⟨g', cap, e, trivial⟩
          subst hva
          have HNX : Hid (∃ bv gs', NhO w3 (wa.setCell ⟨hb, 2, none⟩ (.slice (some ⟨va1, 0, none⟩) (gs.length + 1) va2)) hb (.slice (some ⟨b, off, none⟩) l.length jc) fr l.length (BefJ l bl E) (k + 1) bv gs') := by
            have h9 := HNN.out
            simp only [List.length_append, List.length_singleton] at h9
            exact ⟨_, _, h9⟩
          clear hoa hga hh c2 HNN
          go_wp2_with fail
          go_roundw
          case rel => exact ⟨k + 1, by omega, by go_num, HNX⟩
          case measure => simp [intOf]; omega
    · obtain rfl : k = l.length := by omega
      have HDO8 := Lib.hid (HN.out.f.objN HDO3.out HDO3.out.lt (obj_ne HDO3.out HH3.out (by decide)))
      obtain ⟨c0, c1, c2, c3, c4, c5⟩ := desC HDO8.out
      go_wp2_with fail
      refine (HNO.out wr HBW.out).mono ?_
      rintro e w8 ⟨nv, rfl, hnv, h8⟩
      rw [if_pos HIN.out.ht]
      have HNV := Lib.hid (hnv HIN.out.ht)
      clear c0 c1 c2 c3 c4 c5 hnv
      obtain ⟨T, hT⟩ : ∃ T, topo bl.length E bl.length = T := ⟨_, rfl⟩
      have HT := Lib.hid hT
      have HTW : Hid (TopoW bl.length E T) := by show TopoW ..; rw [← hT]; exact topo_w _ _ _
      have hTL : T.length = bl.length := by rw [← hT]; exact HIN.out.ht
      have HND : Hid ((ordJ (hl l) bl T).Nodup) := (ordJ_ok HIN.out.hJ.ok (by rw [← HIN.out.hbl]; exact HIN.out.hd) HIN.out.hJ.blk HTW.out hTL).nd
      rw [hT] at HNV
      clear hT
      have HN8 := Lib.hid (HN.out.below h8)
      have HB8 : Hid (Below w.heap.size w w8) := ext_trans HBW.out h8
      clear h8 HN HDO8
      obtain ⟨na, nc, rfl, n1, n2, n3⟩ := HNV.out
      have e1 : ((namesT bl T).map bs).length = T.length := by unfold namesT; rw [List.length_map, List.length_map]
      rw [e1] at n1 n3
      rw [e1]
      have N3 : Hid (∀ i (hi : i < T.length), ∃ b off, na = some ⟨b, off, none⟩ ∧ w8.cell? ⟨b, off + i, none⟩ = some (.string (bs (bkI bl T[i])))) := fun i hi => by
        obtain ⟨b, off, e, c⟩ := n3 i hi
        refine ⟨b, off, e, c.trans (congrArg some (congrArg Value.string ?_))⟩
        rw [zi_bs (by unfold namesT; rw [List.length_map]; exact hi)]
        unfold namesT; rw [List.getElem_map]
      clear n3 e1
      have hTm : T.length ≤ 256 := by rw [hTL]; exact HBL.out
      go_wp2_with fail
      go_loopw [99] (fun i wr => ∃ m : Nat, m ≤ T.length ∧ i = .int .i64 m ∧ Hid (∃ ov, NhP w8 wr hb (.slice ja l.length jc) fr bv ov (ordJ (hl l) bl (T.take m)))) (fun i _ => T.length - (intOf i).toNat)
      case atStart => exact ⟨0, Nat.zero_le _, rfl, ⟨_, NhP.start HN8.out.o⟩⟩
      case round =>
        obtain ⟨m, hm, rfl, hP⟩ := hrel
        obtain ⟨ov, hP⟩ := hP.out
        have HP := Lib.hid hP
        clear hP
        have HB9 : Hid (Below w.heap.size w wr) := HB8.out.trans (HP.out.f.belowN HWH.out HB8.out.size)
        by_cases hlt2 : m < T.length
        · obtain ⟨nb, no, rfl, hc⟩ := N3.out m hlt2
          have hc' := frv_cell HP.out.f hc (World.block_lt_of_cell? w8 _ hc) (fun e => by
            have e2 : hb = nb := Option.some.inj e
            subst e2
            rw [HN8.out.o.cell] at hc
            exact (HN8.out.dull _).1 _ hc)
          have i1 : (m : Int) < T.length := by omega
          have HIN9 := Lib.hid (HIN.out.keep HB9.out)
          have HAL : Hid (HallC wr hb (.slice ja l.length jc) fr bv ov) := ⟨HP.out.ob.cell 0, HP.out.ob.cell 1, HP.out.ob.cell 2, HP.out.ob.cell 3⟩
          have HLT : Hid (m < T.length) := hlt2
          obtain ⟨s, hs⟩ : ∃ s, bkI bl (T[m]'hlt2) = s := ⟨_, rfl⟩
          have HS := Lib.hid hs
          replace hc' : wr.cell? ⟨nb, no + m, none⟩ = some (.string (bs s)) := by rw [← hs]; exact hc'
          clear hs hc
          go_wp2_with fail
          refine (job_any hb ja jc fr bv ov l s wr HAL.out HIN9.out.hj HIN9.out.hc).mono ?_
          rintro e w9 ⟨rfl, h9⟩
          have HP9 := Lib.hid (HP.out.below h9)
          clear h9 hc' HP HAL HIN9
          have c3 : w9.cell? ⟨hb, 3, none⟩ = some ov := HP9.out.ob.cell 3
          by_cases hin : s ∈ (hl l).map (·.block)
          · obtain ⟨z1, z2⟩ := jobZ_in hin
            rw [z1]
            obtain ⟨q, hq⟩ : ∃ q, jobI (hl l) s = q := ⟨_, rfl⟩
            rw [hq] at z2 ⊢
            obtain ⟨o1, o2⟩ := ordJ_in (J := hl l) (b := bl) HLT.out (by rw [HS.out, hq, hl_len]; exact z2) HND.out
            rw [HS.out, hq] at o1 o2
            have O1 := Lib.hid o1
            have O2 : Hid ((ordJ (hl l) bl (T.take m)).contains q = false) := by show _ = _; rw [← Bool.not_eq_true, List.contains_iff_mem]; exact o2
            have i0 : (0 : Int) ≤ q := by omega
            clear o1 o2 z1 hq
            go_wp2_with fail
            refine (cnI_any ov (ordJ (hl l) bl (T.take m)) q w9 HP9.out.i.si).mono ?_
            rintro e wA ⟨rfl, hA⟩
            rw [O2.out]
            have HPA := Lib.hid (HP9.out.below hA)
            clear hA c3 HP9 O2
            have c3 : wA.cell? ⟨hb, 3, none⟩ = some ov := HPA.out.ob.cell 3
            have HLN : Hid ((natI (ordJ (hl l) bl (T.take m))).length + ([(q : Int)] : List Int).length ≤ 100000000) := by
              show _ ≤ _
              have h1 : (ordJ (hl l) bl (T.take m)).length ≤ T.length := by
                unfold ordJ
                refine Nat.le_trans (List.length_filter_le _ _) ?_
                rw [List.length_map, List.length_take]; omega
              rw [natI_len, List.length_singleton]; omega
            have HZZ : Hid (w8.heap.size ≤ wA.heap.size) := HPA.out.f.size
            go_wp2_with (at_builtin; refine wpList_app_int rfl (.tmp 121) (.tmp 123) rfl w8.heap.size ov _ (natI (ordJ (hl l) bl (T.take m))) [(q : Int)] rfl rfl (World.ownsRow.alloc HPA.out.i _) (SI_one _ _ _) HLN.out (by have := HZZ.out; simp; omega) ?_)
            intro va wa hoa hga _
            have hoa2 : OwnI wa w8.heap.size va (natI (ordJ (hl l) bl (T.take m) ++ [q])) := by unfold natI; rw [List.map_append]; exact hoa
            have HNP := Lib.hid (HPA.out.push hoa2 hga)
            rw [← O1.out] at HNP
            have hh := (HPA.out.ob.alloc (.cells #[.int .i64 q] 3)).grown hga (HPA.out.ob.ne HPA.out.i (by decide))
            have c3' : wa.cell? ⟨hb, 3, none⟩ = some ov := hh.cell 3
            have c3f := hh.frozen 3
            obtain ⟨va1, va2, hva, _⟩ := hoa2.si
            subst hva
            have HPX : Hid (∃ ov, NhP w8 (wa.setCell ⟨hb, 3, none⟩ (.slice va1 (natI (ordJ (hl l) bl (T.take m) ++ [q])).length va2)) hb (.slice ja l.length jc) fr bv ov (ordJ (hl l) bl (T.take (m + 1)))) := ⟨_, HNP.out⟩
            rw [natI_len] at HPX ⊢
            obtain ⟨qn, hqn⟩ : ∃ qn, (ordJ (hl l) bl (T.take m) ++ [q]).length = qn := ⟨_, rfl⟩
            rw [hqn] at HPX ⊢
            clear hoa hoa2 hga hh c3 HNP hqn HLN
            go_wp2_with fail
            go_roundw
            case rel => exact ⟨m + 1, by omega, by go_num, HPX⟩
            case measure => simp [intOf]; omega
          · have z1 := jobZ_out hin
            rw [z1]
            have O1 := Lib.hid (ordJ_out (J := hl l) (b := bl) HLT.out (by rw [HS.out]; exact jobI_out hin))
            have HPX : Hid (∃ ov, NhP w8 w9 hb (.slice ja l.length jc) fr bv ov (ordJ (hl l) bl (T.take (m + 1)))) := ⟨ov, by rw [O1.out]; exact HP9.out⟩
            clear z1
            go_wp2_with fail
            go_roundw
            case rel => exact ⟨m + 1, by omega, by go_num, HPX⟩
            case measure => simp [intOf]; omega
        · obtain rfl : m = T.length := by omega
          have HW : Hid (HallW wr hb (.slice ja l.length jc) l fr bv ov bl E) := by
            refine ⟨⟨HP.out.ob.cell 0, HP.out.ob.cell 1, HP.out.ob.cell 2, HP.out.ob.cell 3⟩, HN8.out.rows HP.out.f, ?_⟩
            unfold OrdL
            rw [HT.out]
            have := HP.out.i.si
            rw [List.take_length] at this
            exact this
          go_wp2_with fail
          go_ret2
          exact ⟨hb, bv, ov, rfl, HW.out, HB9.out⟩
end Go.Proofs.YtfpnjbomlmhlpaaGreat

/- Contracts: End of schedules. -/
namespace Go.Proofs.YtfpnjbomlmhlpaaGreat
open Go.RowKit

def enA (x : Ern) : Array Value := #[.string (bs x.block), .string (bs x.crane), .int .i64 x.a, .int .i64 x.b]
theorem enC {w : World} {b : Nat} {x : Ern} {e : TypeId} (h : ObjAt w b (enA x) e) : EnAt w b 0 x := ⟨h.cell 0, h.cell 1, h.cell 2, h.cell 3⟩
theorem copyEn (w : World) (x : Ern) : ∃ W1, Hid (ObjAt W1 w.heap.size (enA x) 72) ∧ Hid (Below w.heap.size w W1) ∧ Hid (w.alloc (.cells #[.string (bs x.block), .string (bs x.crane), .int .i64 x.a, .int .i64 x.b] 72) = W1) ∧ Hid (w.heap.size < W1.heap.size) :=
  ⟨w.alloc (.cells (enA x) 72), ObjAt.new _ _ _, (Below.refl _ _).alloc (Nat.le_refl _) _, rfl, by show _ < _; simp⟩
theorem end_step {l : List Ern} {k : Nat} (hk : k < l.length) : endF (l.take (k + 1)) = if (k == 0 || decide (endF (l.take k) < (eri l k).b)) = true then (eri l k).b else endF (l.take k) := by
  rw [take_eri hk, end_snoc]
  by_cases h0 : k = 0
  · subst h0; simp
  · have : l.take k ≠ [] := by
      intro e
      have := congrArg List.length e
      rw [List.length_take, List.length_nil] at this
      omega
    rw [if_neg this]
    by_cases h1 : endF (l.take k) < (eri l k).b
    · rw [if_pos (by simp [h1])]; omega
    · rw [if_neg (by simp [h0, h1])]; omega
set_option maxRecDepth 100000 in
theorem End_any (v : Value) (l : List Ern) (w : World) (h : SEn w v l) : Calls Tryz.prog 14 #[v] w (Ret w (.int .i64 (endF l))) := by
  obtain ⟨a, cap, rfl, h1, h2, h3⟩ := h
  have H3 := Lib.hid h3; clear h3
  have hm : l.length ≤ 9223372036854775807 := by unfold maxLen at h2; omega
  go_enter Tryz.func14, Tryz.ntmps14
  go_wp2_with fail
  go_loopw [2, 7] (fun n i wr => ∃ k : Nat, k ≤ l.length ∧ i = .int .i64 k ∧ n = .int .i64 (endF (l.take k)) ∧ Hid (Below w.heap.size w wr)) (fun _ i _ => l.length - (intOf i).toNat)
  case atStart => exact ⟨0, Nat.zero_le _, rfl, rfl, Below.refl _ _⟩
  case round =>
    obtain ⟨k, hk, rfl, rfl, hb⟩ := hrel
    by_cases hlt : k < l.length
    · obtain ⟨b, off, rfl, hc⟩ := H3.out k hlt
      obtain ⟨c0, c1, c2, c3⟩ := hc.keep hb.out
      obtain ⟨W2, HO2, HC2, HW, HZ2⟩ := copyEn wr (eri l k)
      have HB2 := Lib.hid (ext_trans hb.out HC2.out)
      have HES := Lib.hid (end_step hlt)
      clear hc
      go_upto_region 4 with fail
      rw [HW.out]
      clear c0 c1 c2 c3 HW
      obtain ⟨c0, c1, c2, c3⟩ := enC HO2.out
      by_cases h0 : k = 0
      · subst h0
        have HE : Hid ((eri l 0).b = endF (l.take (0 + 1))) := by show _ = _; rw [HES.out, if_pos (by simp)]
        go_wp2_with fail
        go_roundw
        case rel => exact ⟨1, by omega, by go_num, by rw [HE.out], HB2⟩
        case measure => simp [intOf]; omega
      · have i0 : ((k : Int) == 0) = false := by rw [beq_eq_false_iff_ne]; omega
        have i1 : ¬ (k : Int) = 0 := by omega
        by_cases h1 : endF (l.take k) < (eri l k).b
        · have HE : Hid ((eri l k).b = endF (l.take (k + 1))) := by show _ = _; rw [HES.out, if_pos (by simp [h1])]
          go_wp2_with fail
          go_roundw
          case rel => exact ⟨k + 1, by omega, by go_num, by rw [HE.out], HB2⟩
          case measure => simp [intOf]; omega
        · have HE : Hid (endF (l.take k) = endF (l.take (k + 1))) := by show _ = _; rw [HES.out, if_neg (by simp [h0, h1])]
          go_wp2_with fail
          go_roundw
          case rel => exact ⟨k + 1, by omega, by go_num, by rw [HE.out], HB2⟩
          case measure => simp [intOf]; omega
    · obtain rfl : k = l.length := by omega
      have HE : Hid (l.take l.length = l) := List.take_length
      go_wp2_with fail
      go_ret
      exact ⟨by rw [HE.out]; rfl, hb.out⟩
end Go.Proofs.YtfpnjbomlmhlpaaGreat

/- Contracts: slices.MinFunc at strings; slices.Clone at entries. -/
namespace Go.Proofs.YtfpnjbomlmhlpaaGreat
open Go.RowKit

/-- A function value that compares strings, in every world that keeps what W0 has. -/
def FnM (fv : Value) (W0 : World) (q : List UInt8 → Prop) (f : List UInt8 → List UInt8 → Int) : Prop :=
  ∃ F caps, fv = .func (.func F) #[] caps ∧ (∀ args w, (callFunc F args).run Tryz.prog w = .ok (.enter F args) w) ∧
    ∀ (x y : List UInt8) (w : World), q x → q y → Below W0.heap.size W0 w → Calls Tryz.prog F (#[.string (bs x), .string (bs y)] ++ caps) w (Ret w (.int .i64 (f x y)))
set_option maxRecDepth 100000 in
theorem minFunc_any (fv v : Value) (q : List UInt8 → Prop) (f : List UInt8 → List UInt8 → Int) (l : List (List UInt8)) (w : World) (h : SZ w v (l.map bs)) (hne : l ≠ []) (hq : ∀ x ∈ l, q x) (hf : FnM fv w q f) :
    Calls Tryz.prog 26 #[v, fv] w fun e w' => ∃ c, c ∈ l ∧ e = .returned (.string (bs c)) ∧ Below w.heap.size w w' := by
  obtain ⟨F, caps, rfl, hcf, hf⟩ := hf
  obtain ⟨a, cap, rfl, h1, h2, h3⟩ := h
  rw [List.length_map] at h1 h3
  rw [List.length_map]
  have HF := Lib.hid hf; clear hf
  have H3 : Hid (∀ i (hi : i < l.length), ∃ b off, a = some ⟨b, off, none⟩ ∧ w.cell? ⟨b, off + i, none⟩ = some (.string (bs l[i]))) := fun i hi => by
    obtain ⟨b, off, e, c⟩ := h3 i hi
    exact ⟨b, off, e, by rw [c]; exact congrArg some (congrArg Value.string (zi_bs hi))⟩
  clear h3
  have HQ := Lib.hid hq; clear hq
  have hm : l.length ≤ 9223372036854775807 := by unfold maxLen at h2; omega
  have hpos : 0 < l.length := List.length_pos_iff.2 hne
  have i0 : ¬ (l.length : Int) < 1 := by omega
  have i1 : (0 : Int) < l.length := by omega
  obtain ⟨b0, off0, ha, hc0⟩ := H3.out 0 hpos
  have HA := Lib.hid ha
  rw [Nat.add_zero] at hc0
  rw [ha]
  go_enter Tryz.func26, Tryz.ntmps26
  go_wp2_with fail
  clear hc0 i0
  go_loopw [5, 6] (fun m i wr => ∃ k : Nat, k ≤ l.length ∧ 1 ≤ k ∧ i = .int .i64 k ∧ Hid (∃ c, c ∈ l ∧ m = .string (bs c)) ∧ Hid (Below w.heap.size w wr)) (fun _ i _ => l.length - (intOf i).toNat)
  case atStart => exact ⟨1, by omega, Nat.le_refl _, rfl, ⟨_, List.getElem_mem hpos, rfl⟩, Below.refl _ _⟩
  case round =>
    obtain ⟨k, hk, hk1, rfl, hmm, hb⟩ := hrel
    obtain ⟨c, hcm, rfl⟩ := hmm.out
    have HCM := Lib.hid hcm
    clear hcm hmm
    by_cases hlt : k < l.length
    · obtain ⟨b, off, ha', hc⟩ := H3.out k hlt
      rw [HA.out] at ha'
      cases ha'
      have hc' := cell_keep hb.out hc
      clear hc
      have HMK := Lib.hid (List.getElem_mem hlt)
      have i2 : (k : Int) < l.length := by omega
      go_wp2_with fail
      refine (HF.out l[k] c _ (HQ.out _ HMK.out) (HQ.out _ HCM.out) hb.out).mono ?_
      rintro e w1 ⟨rfl, hb1⟩
      have HB1 := Lib.hid (ext_trans hb.out hb1)
      have hc2 := cell_keep hb1 hc'
      clear hb1 hc'
      by_cases hz : f l[k] c < 0
      · go_wp2_with fail
        go_roundw
        case rel => exact ⟨k + 1, by omega, by omega, by go_num, ⟨_, HMK.out, rfl⟩, HB1⟩
        case measure => simp [intOf]; omega
      · go_wp2_with fail
        go_roundw
        case rel => exact ⟨k + 1, by omega, by omega, by go_num, ⟨_, HCM.out, rfl⟩, HB1⟩
        case measure => simp [intOf]; omega
    · go_wp2_with fail
      go_ret
      exact ⟨_, HCM.out, rfl, hb.out⟩
/- a copy, or nothing -/
set_option maxRecDepth 100000 in
theorem cloneE_any (v : Value) (l : List Ern) (w : World) (h : SEn w v l) (hl : l.length ≤ 100000) : Calls Tryz.prog 42 #[v] w fun e w' => ∃ v', e = .returned v' ∧ OwnEn w' w.heap.size v' l ∧ Below w.heap.size w w' := by
  have HS := Lib.hid h
  obtain ⟨a, cap, rfl, h1, h2, h3⟩ := h
  clear h3
  have q40 : ∀ (w : World) (a : Option Addr) (n c : Nat), (binOp .eql 40 (.slice a n c) (.slice none 0 0)).run Tryz.prog w = .ok (.bool a.isNone) w := fun w a n c => Lib.run_eql_slice_nil w _ _ a n c 0 0 Tryz.underlying40
  cases a with
  | none =>
    have hl0 : l = [] := by
      obtain ⟨a, c, e, _, _, h3⟩ := HS.out
      cases l with
      | nil => rfl
      | cons x l => obtain ⟨b, off, hb, _⟩ := h3 0 (by simp); cases e; cases hb
    subst hl0
    go_enter Tryz.func42, Tryz.ntmps42
    go_wp2_with fail
    go_ret
    exact ⟨_, rfl, OwnEn_nil _ _, Below.refl _ _⟩
  | some ad =>
    have HLN : Hid (([] : List Ern).length + l.length ≤ 1000000) := by show _ ≤ _; simp; omega
    go_enter Tryz.func42, Tryz.ntmps42
    go_wp2_with (at_builtin; refine wpList_app_En rfl (.tmp 5) (.tmp 6) rfl w.heap.size (.slice (some ⟨w.heap.size, 0, none⟩) 0 0) [] l rfl (OwnEn_empty w _ (Nat.le_refl _)) ad _ _ rfl (HS.out.keep ((Below.refl _ _).alloc (Nat.le_refl _) _)) HLN.out (by simp) ?_)
    intro va wa hoa hga _
    have HO : Hid (OwnEn wa w.heap.size va l) := by exact hoa
    have HB : Hid (Below w.heap.size w wa) := ((Below.refl w.heap.size w).alloc (Nat.le_refl _) _).grown hga (by simp) (fun g hg => by cases hg; exact Nat.le_refl _)
    clear hoa hga
    go_wp2_with fail
    go_ret
    exact ⟨_, rfl, HO.out, HB.out⟩
end Go.Proofs.YtfpnjbomlmhlpaaGreat

/- Contracts: start and planned of schedules. -/
namespace Go.Proofs.YtfpnjbomlmhlpaaGreat
open Go.RowKit

theorem start_take {J : List Hst} {B : Bef} {fr : Int} {q : List Ern} {k i : Nat} {c : List UInt8} (h : k < q.length) : startF J B fr (q.take (k + 1)) i c = if ((eri q k).crane == c || B (jobI J (eri q k).block) i) = true then max (startF J B fr (q.take k) i c) (eri q k).b else startF J B fr (q.take k) i c := by
  unfold startF
  rw [take_eri h, List.foldl_append]; rfl
theorem job_in {hb : Nat} {ja : Option Addr} {jc : Nat} {fr : Int} {bv ov : Value} {l : List MH} {s : List UInt8} {w : World} (hh : HallC w hb (.slice ja l.length jc) fr bv ov) (h : SHs w (.slice ja l.length jc) l) (hc : Crn w l) (hin : s ∈ (hl l).map (·.block)) :
    Calls Tryz.prog 39 #[.pointer (some ⟨hb, 0, none⟩), .string (bs s)] w (Ret w (.int .i64 (jobI (hl l) s : Nat))) := by
  have := job_any hb ja jc fr bv ov l s w hh h hc
  rw [(jobZ_in hin).1] at this
  exact this
theorem ret_in {F : FuncId} {args : Array Value} {u W : World} {v : Value} (h : Calls Tryz.prog F args u (Ret u v)) (hu : Below W.heap.size W u) : Calls Tryz.prog F args u fun e w' => e = .returned v ∧ Below W.heap.size W w' :=
  h.mono fun _ _ ⟨h1, h2⟩ => ⟨h1, ext_trans hu h2⟩
/-- a hall and its jobs -/
structure HallJ (w : World) (hb : Nat) (ja : Option Addr) (jc : Nat) (l : List MH) (fr : Int) (bv ov : Value) (bl : List (List UInt8)) (E : Edg) : Prop where
  hw : HallW w hb (.slice ja l.length jc) l fr bv ov bl E
  j : SHs w (.slice ja l.length jc) l
  c : Crn w l
theorem HallJ.keep {w w' : World} {hb : Nat} {ja : Option Addr} {jc : Nat} {l : List MH} {fr : Int} {bv ov : Value} {bl : List (List UInt8)} {E : Edg} (h : HallJ w hb ja jc l fr bv ov bl E) (hk : Below w.heap.size w w') : HallJ w' hb ja jc l fr bv ov bl E := ⟨h.hw.keep hk, h.j.keep hk, h.c.keep hk⟩
theorem hall_range {w : World} {hb : Nat} {jv : Value} {fr : Int} {bv ov : Value} (h : HallC w hb jv fr bv ov) : w.rangeAt hb 0 (hallA jv fr bv ov).toList := fun j v hv => by
  rw [Nat.zero_add]
  match j, hv with
  | 0, hv => cases hv; exact h.c0
  | 1, hv => cases hv; exact h.c1
  | 2, hv => cases hv; exact h.c2
  | 3, hv => cases hv; exact h.c3
theorem hs_range {w : World} {b off : Nat} {x : MH} (h : HsAt w b off x) : w.rangeAt b off (hsCells x) := fun j v hv => by
  match j, hv with
  | 0, hv => cases hv; exact h.c0
  | 1, hv => cases hv; exact h.c1
  | 2, hv => cases hv; exact h.c2
/-- those of a plan are jobs -/
def InJ (l : List MH) (q : List Ern) : Prop := ∀ x ∈ q, x.block ∈ (hl l).map (·.block)
set_option maxRecDepth 100000 in
set_option maxHeartbeats 1000000 in
theorem start_any (hb : Nat) (ja : Option Addr) (jc : Nat) (l : List MH) (fr : Int) (bv ov : Value) (bl : List (List UInt8)) (E : Edg) (lv : Value) (q : List Ern) (i : Nat) (c : List UInt8) (w : World) (h : HallJ w hb ja jc l fr bv ov bl E) (hq : SEn w lv q) (hin : InJ l q) (hi : i < l.length) :
    Calls Tryz.prog 28 #[.pointer (some ⟨hb, 0, none⟩), lv, .int .i64 i, .string (bs c)] w (Ret w (.int .i64 (startF (hl l) (BefJ l bl E) fr q i c))) := by
  have HH := Lib.hid h
  obtain ⟨ra, rcap, e0, hr⟩ := h.hw.r
  obtain ⟨rb, ro, _, e1, _⟩ := hr i hi
  subst e1 e0
  have HR : Hid (∀ m, m < l.length → ∃ g, w.cell? ⟨rb, ro + m, none⟩ = some (.slice (some ⟨g, 0, none⟩) l.length l.length) ∧ w.cell? ⟨g, i, none⟩ = some (.bool (BefJ l bl E m i))) := fun m hm => by
    obtain ⟨b, off, g, e, c1, c2⟩ := hr m hm
    cases e
    exact ⟨g, c1, c2 i hi⟩
  obtain ⟨qa, qc, rfl, q1, q2, q3⟩ := hq
  have Q3 := Lib.hid q3
  have HIN := Lib.hid hin
  have hm : q.length ≤ 9223372036854775807 := by unfold maxLen at q2; omega
  have c1 := h.hw.c.c1
  clear hr q3 hin h
  go_enter Tryz.func28, Tryz.ntmps28
  go_wp2_with fail
  clear c1
  go_loopw [9, 18] (fun t n wr => ∃ k : Nat, k ≤ q.length ∧ n = .int .i64 k ∧ t = .int .i64 (startF (hl l) (BefJ l bl E) fr (q.take k) i c) ∧ Hid (Below w.heap.size w wr)) (fun _ n _ => q.length - (intOf n).toNat)
  case atStart => exact ⟨0, Nat.zero_le _, rfl, rfl, Below.refl _ _⟩
  case round =>
    obtain ⟨k, hk, rfl, rfl, hb1⟩ := hrel
    by_cases hlt : k < q.length
    · obtain ⟨b, off, rfl, hc⟩ := Q3.out k hlt
      obtain ⟨c0, c1, c2, c3⟩ := hc.keep hb1.out
      obtain ⟨W2, HO2, HC2, HW, HZ2⟩ := copyEn wr (eri q k)
      have HB2 := Lib.hid (ext_trans hb1.out HC2.out)
      have HST := Lib.hid (start_take (J := hl l) (B := BefJ l bl E) (fr := fr) (i := i) (c := c) hlt)
      have hix := HIN.out _ (eri_mem hlt)
      generalize eri q k = x at *
      obtain ⟨t, ht⟩ : ∃ t, startF (hl l) (BefJ l bl E) fr (q.take k) i c = t := ⟨_, rfl⟩
      rw [ht] at HST ⊢
      clear hc ht
      have hjl := (jobZ_in hix).2
      obtain ⟨g, r1, r2⟩ := HR.out _ hjl
      have HH2 := Lib.hid (HH.out.keep HB2.out)
      have R1 := Lib.hid (cell_keep HB2.out r1)
      have R2 := Lib.hid (cell_keep HB2.out r2)
      have HIX := Lib.hid hix
      clear r1 r2 hix
      go_upto_region 5 with fail
      rw [HW.out]
      clear c0 c1 c2 c3 HW
      refine wp_region_ev sqT sqT_ok [⟨wr.heap.size, 0, (enA x).toList⟩, ⟨hb, 0, (hallA (.slice ja l.length jc) fr (.slice (some ⟨rb, ro, none⟩) l.length rcap) ov).toList⟩, ⟨rb, ro + jobI (hl l) x.block, [.slice (some ⟨g, 0, none⟩) l.length l.length]⟩, ⟨g, i, [.bool (BefJ l bl E (jobI (hl l) x.block) i)]⟩] (Below W2.heap.size W2) [(11, 0), (0, 1)]
        [(34, .ret (.int .i64 (jobI (hl l) x.block : Nat))), (35, .ix (jobI (hl l) x.block) 2), (38, .ix i 3)] [(40, .bool (x.crane == c || BefJ l bl E (jobI (hl l) x.block) i))] (by kernel_rfl) mixed (by kernel_rfl) ((Below.refl _ _).drew)
        (obsC (fun u hu => rangeKeep (range_new HO2.out) hu) (obsC (fun u hu => rangeKeep (hall_range HH2.out.hw.c) hu) (obsC (fun u hu => rangeKeep (intR R1.out) hu) (obsC (fun u hu => rangeKeep (intR R2.out) hu) obsN)))) ⟨rfl, rfl, trivial⟩ ?_
      conv => whnf
      refine And.intro (under_of fun u hu => by
        have h2 := HH2.out.keep hu
        exact ret_in (job_in h2.hw.c h2.j h2.c HIX.out) hu) ?_
      conv => whnf
      refine And.intro (under_of ⟨rfl, hjl, rfl, by show ro + _ = ro + _ * 1; omega⟩) ?_
      conv => whnf
      refine And.intro (under_of ⟨rfl, hi, rfl, by show i = 0 + i * 1; omega⟩) ?_
      conv => whnf
      intro f1
      conv => whnf
      refine And.intro (by rw [bs_eq]) ?_
      conv => whnf
      intro w3 h3
      have HB3 := Lib.hid (ext_trans HB2.out h3)
      have c3 : w3.cell? ⟨wr.heap.size, 3, none⟩ = some (.int .i64 x.b) := (HO2.out.keep h3).cell 3
      clear h3 HH2 R1 R2 HO2 HB2 HC2 HZ2
      by_cases hcd : (x.crane == c || BefJ l bl E (jobI (hl l) x.block) i) = true
      · rw [hcd] at HST ⊢
        rw [if_pos rfl] at HST
        go_wp2_with fail
        go_roundw
        case rel => exact ⟨k + 1, by omega, by go_num, by rw [HST.out], HB3⟩
        case measure => simp [intOf]; omega
      · rw [Bool.not_eq_true] at hcd
        rw [hcd] at HST ⊢
        rw [if_neg (by decide)] at HST
        go_wp2_with fail
        go_roundw
        case rel => exact ⟨k + 1, by omega, by go_num, by rw [HST.out], HB3⟩
        case measure => simp [intOf]; omega
    · obtain rfl : k = q.length := by omega
      have HT : Hid (q.take q.length = q) := List.take_length
      go_wp2_with fail
      go_ret
      exact ⟨by rw [HT.out]; rfl, hb1.out⟩
theorem build_En (s c : ByteArray) (a b : Int) (w : World) : (Instr.build 72 #[(0, .string s), (1, .string c), (2, .int .i64 a), (3, .int .i64 b)]).run Tryz.prog w = .ok (.agg #[.string s, .string c, .int .i64 a, .int .i64 b]) w := by go_simp
theorem info_En : (Tryz.prog.info? 72).map (·.size) = some 4 := by kernel_rfl
theorem one_En (x : Ern) : (enA x).all (·.oneCell') = true := by simp [enA, Value.oneCell']
theorem store_En {u : World} {b : Nat} {x y : Ern} (h : ObjAt u b (enA x) 72) : (Instr.storeAt 72 (.pointer (some ⟨b, 0, none⟩)) (.agg (enA y))).run Tryz.prog u = .ok () (u.setRow b (enA y)) := by
  simp only [Instr.storeAt, Instr.sureAddr, Sem.run_bind, Sem.run_pure, Result.andThen_ok, run_storeVar_row (P := Tryz.prog) u b 72 72 (enA x) (enA y) h info_En rfl (one_En y)]
/-- a start behind a plan is not late -/
structure StOK (l : List MH) (bl : List (List UInt8)) (E : Edg) (fr : Int) (q : List Ern) (i : Nat) (c : List UInt8) : Prop where
  a : 0 ≤ startF (hl l) (BefJ l bl E) fr q i c
  b : startF (hl l) (BefJ l bl E) fr q i c ≤ 1000000000000
  h0 : 0 ≤ (mhi l i).h.hours
  h1 : (mhi l i).h.hours ≤ 10000
set_option maxRecDepth 100000 in
set_option maxHeartbeats 1000000 in
theorem planned_any (hb : Nat) (ja : Option Addr) (jc : Nat) (l : List MH) (fr : Int) (bv ov : Value) (bl : List (List UInt8)) (E : Edg) (lv : Value) (q : List Ern) (i : Nat) (c : List UInt8) (w : World) (h : HallJ w hb ja jc l fr bv ov bl E) (hq : SEn w lv q) (hin : InJ l q) (hi : i < l.length) (hs : StOK l bl E fr q i c) :
    Calls Tryz.prog 29 #[.pointer (some ⟨hb, 0, none⟩), lv, .int .i64 i, .string (bs c)] w (Ret w (.agg (enA (planned (hl l) (BefJ l bl E) fr q i c)))) := by
  have HST := Lib.hid (fun w' (hb1 : Below w.heap.size w w') => start_any hb ja jc l fr bv ov bl E lv q i c w' (h.keep hb1) (hq.keep hb1) hin hi)
  have HH := Lib.hid h
  obtain ⟨ja', jc', e, _, _, j3⟩ := h.j
  cases e
  obtain ⟨jb, jo, rfl, hc⟩ := j3 i hi
  have HC := Lib.hid hc
  have HP : Hid (planned (hl l) (BefJ l bl E) fr q i c = ⟨(mhi l i).h.block, c, startF (hl l) (BefJ l bl E) fr q i c, startF (hl l) (BefJ l bl E) fr q i c + (mhi l i).h.hours⟩) := by show _ = _; unfold planned; rw [hsi_ml hi]
  obtain ⟨s0, s1, s2, s3⟩ := hs
  obtain ⟨t, ht⟩ : ∃ t, startF (hl l) (BefJ l bl E) fr q i c = t := ⟨_, rfl⟩
  rw [ht] at HST HP s0 s1
  obtain ⟨va, vc, hav, _⟩ := h.c.form hi
  clear h hq j3 ht hc
  obtain ⟨W1, hW1⟩ : ∃ W1, w.alloc (.cells (enA default) 72) = W1 := ⟨_, rfl⟩
  have HO1 : Hid (ObjAt W1 w.heap.size (enA default) 72) := by show ObjAt ..; rw [← hW1]; exact ObjAt.new _ _ _
  have HB1 : Hid (Below w.heap.size w W1) := by show Below ..; rw [← hW1]; exact (Below.refl _ _).alloc (Nat.le_refl _) _
  have HW1 : Hid (w.alloc (.cells #[.string ⟨#[]⟩, .string ⟨#[]⟩, .int .i64 0, .int .i64 0] 72) = W1) := hW1
  clear hW1
  go_enter Tryz.func29, Tryz.ntmps29
  go_upto_region 1 with fail
  rw [HW1.out]
  go_wp2_with fail
  refine (HST.out W1 HB1.out).mono ?_
  rintro e w2 ⟨rfl, h2⟩
  have HO2 := Lib.hid (HO1.out.keep h2)
  have HB2 := Lib.hid (ext_trans HB1.out h2)
  clear h2 HB1 HO1
  go_upto_region 2 with fail
  refine wp_region_st sqT sqT_ok [⟨hb, 0, (hallA (.slice (some ⟨jb, jo, none⟩) l.length jc) fr bv ov).toList⟩, ⟨jb, jo + i * 3, hsCells (mhi l i)⟩] (Below w.heap.size w) (fun u u' => Below u.heap.size u u') [(0, 0)]
    [(20, .ix i 1), (31, .ix i 1), (35, .ret (.agg (enA (planned (hl l) (BefJ l bl E) fr q i c))))] [] 21 8 35 72 (.pointer (some ⟨w.heap.size, 0, none⟩)) (.agg (enA (planned (hl l) (BefJ l bl E) fr q i c)))
    (fun u => ObjAt u w.heap.size (enA default) 72) (fun u => ObjAt u w.heap.size (enA (planned (hl l) (BefJ l bl E) fr q i c)) 72)
    (by kernel_rfl) mixed (by kernel_rfl) (by kernel_rfl) ⟨_, rfl, rfl, rfl⟩ HB2.out.drew HO2.out (fun u u' h1 h2 => ext_trans h1 h2) (fun u _ => Below.refl _ _) (fun u u' _ h h2 => h.keep h2) (fun u u' _ h h2 => h.keep h2)
    (fun u h1 h2 => ⟨_, store_En h2, below_setRow h1 (Nat.le_refl _) _, setRow_heap _ _ _ _ _ _ h2⟩)
    (obsC (fun u hu => rangeKeep (hall_range HH.out.hw.c) hu) (obsC (fun u hu => rangeKeep (hs_range HC.out) hu) obsN)) ⟨rfl, trivial⟩ ?_
  conv => whnf
  refine And.intro (under_of ⟨rfl, hi, rfl, rfl⟩) ?_
  conv => whnf
  refine And.intro (under_of ⟨rfl, hi, rfl, rfl⟩) ?_
  conv => whnf
  refine And.intro (under_of (by omega)) ?_
  conv => whnf
  refine And.intro (under_of fun w => by rw [HP.out]; exact build_En _ _ _ _ w) ?_
  conv => whnf
  refine And.intro ⟨⟨rfl, rfl⟩, rfl⟩ ?_
  intro f1
  conv => whnf
  intro w3 h3 ho3
  have HO3 := Lib.hid ho3
  have HB3 := Lib.hid h3
  clear h3 ho3 HC HH HST
  go_wp2_with fail
  exact bodyPost_ret (v := .agg (enA (planned (hl l) (BefJ l bl E) fr q i c))) (results_cell_row Tryz.results29 _ w3 w.heap.size 72 _ (0, 0) _ rfl HO3.out Tryz.underlying72 rfl info_En) rfl ⟨rfl, HB3.out⟩
end Go.Proofs.YtfpnjbomlmhlpaaGreat
