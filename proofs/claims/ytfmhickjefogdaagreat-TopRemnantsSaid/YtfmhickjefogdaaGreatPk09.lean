/- side, right and Find of the reference's nest (printed by wip/gen_rmk.py). -/
import Derived.Test.YtfmhickjefogdaaGreatPk02
import Derived.Deep.WholeRow
import Derived.Test.YtfmhickjefogdaaGreatPk08
set_option linter.unusedSimpArgs false
set_option linter.unusedVariables false

/- A region that keeps the text's order: its first n operations read, what is behind them is walked. -/
namespace Go.Proofs.YtfmhickjefogdaaGreat
open Go.RowKit

theorem wpList_of_quiet_app {P : Program} {ops : Array Oper} {C : World → Prop} {Q : Exit → Act → World → Prop} {rest : List Oper} : ∀ (l : List Oper) (a : Act) (w : World), C w → wpQuiet P ops C (fun a' => ∀ w', C w' → wpList P ops Q rest a' w') l a → wpList P ops Q (l ++ rest) a w
  | [], a, w, hw, h => h w hw
  | o :: l, a, w, hw, h => by
    unfold wpQuiet at h
    rw [List.cons_append]
    unfold wpList
    split at h
    · rename_i hq
      rw [if_pos hq]
      exact .inl (Oper.wp_of_quiet hw (fun a' w' hw' h' => wpList_of_quiet_app l a' w' hw' h') h)
    · rename_i hq
      rw [if_neg hq]
      exact wpList_of_quiet_app l _ w hw h
section
variable {a0 : Act} {ps : List (Nat × Nat)} {T : QTab} {E : List Ob} {hs : List (Nat × Hint)} {C : World → Prop}
theorem wp_region_ep {id : Nat} {Q : Exit → Act → World → Prop} {w : World} {ops : List Oper} (n : Nat) (T : QTab) (hT : T.Ok) (E : List Ob) (C : World → Prop) (ps : List (Nat × Nat)) (hs : List (Nat × Hint)) (outs : List (Nat × Value))
    (hz : (ops.all fun o => match o.dst with | some n => decide (n < a0.tmps.size) | none => true) = true) (hC : C w) (hE : ObsIn C E) (P : psOk a0 E ps)
    (h : evL a0 ps T E C (fun _ => C) hs ops (evFin a0 E C outs fun a w' => wpList Tryz.prog ops.toArray Q (ops.drop n) a w') (ops.take n) []) : (Code.region id ops.toArray false).wp Tryz.prog Q a0 w :=
  wp_region_list (by
    rw [List.toList_toArray]
    have := wpList_of_quiet_app (rest := ops.drop n) (Q := Q) (ops.take n) a0 w hC (evL_sound P hT hE (fun _ _ _ h => h) hz (fun S H a I h => evFin_sound I h) _ [] [] a0 (fun o ho => List.mem_of_mem_take ho) InvQ.start h)
    rw [List.take_append_drop] at this
    exact this)
def evEn (a0 : Act) (E : List Ob) (C : World → Prop) (nA nX : Nat) (ty : TypeId) (cells : Array Value) (outs : List (Nat × Value)) (Q : Act → World → Prop) (S : List Ent) : Prop := ∀ f : Nat → Value, match a0 with
  | ⟨⟨l⟩, d⟩ => finS E outs f S l fun l' => (l'[nX]? = some (.agg cells) ∧ Nat.ble (nA + 1) l'.length = true) ∧ ∀ w', C w' → setN l' nA (.pointer (some ⟨w'.heap.size, 0, none⟩)) fun l'' => Q ⟨l''.toArray, d⟩ (w'.alloc (.cells cells ty))
/-- .. behind it a new variable that holds a struct -/
theorem wp_region_en {id : Nat} {Q : Exit → Act → World → Prop} {w : World} {ops : List Oper} (n : Nat) (T : QTab) (hT : T.Ok) (E : List Ob) (C : World → Prop) (ps : List (Nat × Nat)) (hs : List (Nat × Hint)) (outs : List (Nat × Value))
    (nA nX : Nat) (ty : TypeId) (zero cells : Array Value)
    (hz : (ops.all fun o => match o.dst with | some n => decide (n < a0.tmps.size) | none => true) = true) (hC : C w)
    (hops : ∃ oA oS, ops.drop n = [oA, oS] ∧ (oA.op = .alloc ty ∧ oA.dst = some nA ∧ oA.guard = none) ∧ (oS.op = .store ty (.tmp nA) (.tmp nX) ∧ oS.dst = none ∧ oS.guard = none)) (hn : nA ≠ nX)
    (halloc : ∀ w, (Instr.alloc ty true (.tuple #[])).run Tryz.prog w = .ok (.pointer (some ⟨w.heap.size, 0, none⟩)) (w.alloc (.cells zero ty)))
    (hi : (Tryz.prog.info? ty).map (·.size) = some cells.size) (hzs : zero.size = cells.size) (h1 : cells.all (·.oneCell') = true)
    (hE : ObsIn C E) (P : psOk a0 E ps)
    (h : evL a0 ps T E C (fun _ => C) hs ops (evEn a0 E C nA nX ty cells outs (Q .normal)) (ops.take n) []) : (Code.region id ops.toArray false).wp Tryz.prog Q a0 w :=
  wp_region_list (by
    obtain ⟨oA, oS, ho, ⟨a1, a2, a3⟩, s1, s2, s3⟩ := hops
    rw [List.toList_toArray]
    have := wpList_of_quiet_app (rest := ops.drop n) (Q := Q) (ops.take n) a0 w hC (evL_sound P hT hE (fun _ _ _ h => h) hz (fun S H a I h => evFin_sound (outs := outs) (Q := fun a w' => wpList Tryz.prog ops.toArray Q (ops.drop n) a w') I (by
      unfold evEn at h
      unfold evFin
      intro f
      have h2 := h f
      obtain ⟨⟨l⟩, d⟩ := a0
      dsimp only at h2 ⊢
      refine finS_mono (fun l' hl' => ?_) h2
      intro w' hw'
      obtain ⟨⟨e1, e0⟩, e2⟩ := hl'
      have e3 := e2 w' hw'
      rw [setN_eq] at e3
      rw [ho]
      refine wpList_plain a3 fun K hK => ?_
      refine wp_of_run (v := .pointer (some ⟨w'.heap.size, 0, none⟩)) (w' := w'.alloc (.cells zero ty)) (by unfold execOp; simp only [a1, Sem.run_bind, halloc]; rfl) (hK _ _ ?_)
      have hsz : nX < l'.length := (List.getElem?_eq_some_iff.1 e1).1
      rw [a2]
      refine wpList_store_row s3 ty (.tmp nA) (.tmp nX) s1 w'.heap.size cells ?_ ?_ ty zero (heap_alloc_new w' (.cells zero ty)) hi hzs h1 ?_
      · have hA : nA < l'.length := Nat.le_of_ble_eq_true e0
        simp [Act.eval, Act.put, hA]
      · have e4 : l'[nX]?.getD undef = .agg cells := by rw [e1]; rfl
        simpa [Act.eval, Act.put, hn] using e4
      · rw [s2, World.setRow_alloc_new]
        refine wpList_nil ?_
        simpa [Act.put] using e3)) _ [] [] a0 (fun o ho => List.mem_of_mem_take ho) InvQ.start h)
    rw [List.take_append_drop] at this
    exact this)
end
end Go.Proofs.YtfmhickjefogdaaGreat

/- Bounds and Within of the reference's regions. -/
namespace Go.Proofs.YtfmhickjefogdaaGreat
open Go.RowKit

/-- one more point -/
def bnd1 (r : Rct) (q : Pnt) : Rct := ⟨min r.x0 q.x, min r.y0 q.y, max r.x1 q.x, max r.y1 q.y⟩
def bndTo (l : List Pnt) : Nat → Rct
  | 0 => ⟨0, 0, 0, 0⟩
  | k + 1 => bnd1 (if k = 0 then ⟨(pti l k).x, (pti l k).y, (pti l k).x, (pti l k).y⟩ else bndTo l k) (pti l k)
/-- the box of a contour -/
def bndL (l : List Pnt) : Rct := bndTo l l.length
theorem bndTo_in {l : List Pnt} : ∀ {k i : Nat}, i < k → (bndTo l k).x0 ≤ (pti l i).x ∧ (pti l i).x ≤ (bndTo l k).x1 ∧ (bndTo l k).y0 ≤ (pti l i).y ∧ (pti l i).y ≤ (bndTo l k).y1
  | 0, i, h => by omega
  | k + 1, i, h => by
    unfold bndTo
    by_cases e : i = k
    · subst e; simp only [bnd1]; omega
    · have := bndTo_in (l := l) (show i < k by omega)
      rw [if_neg (show ¬ k = 0 by omega)]
      simp only [bnd1]
      omega
theorem bndTo_mono {l : List Pnt} {a b c d : Int} (h : ∀ i, i < l.length → a ≤ (pti l i).x ∧ (pti l i).x ≤ b ∧ c ≤ (pti l i).y ∧ (pti l i).y ≤ d) : ∀ {k : Nat}, 0 < k → k ≤ l.length → a ≤ (bndTo l k).x0 ∧ (bndTo l k).x0 ≤ (bndTo l k).x1 ∧ (bndTo l k).x1 ≤ b ∧ c ≤ (bndTo l k).y0 ∧ (bndTo l k).y0 ≤ (bndTo l k).y1 ∧ (bndTo l k).y1 ≤ d
  | 0, h0, _ => by omega
  | k + 1, _, hk => by
    have h1 := h k (by omega)
    unfold bndTo
    by_cases e : k = 0
    · rw [if_pos e]; simp only [bnd1]; omega
    · have := bndTo_mono h (show 0 < k by omega) (by omega)
      rw [if_neg e]
      simp only [bnd1]
      omega
theorem boxBd (w : World) (oa : Option Addr) (on oc : Nat) (ha : Option Addr) (hn hc : Nat) : ∃ W1, Hid (ObjAt W1 w.heap.size #[.slice oa on oc, .slice ha hn hc] 47) ∧ Hid (ObjAt W1 (w.heap.size + 1) (rcA ⟨0, 0, 0, 0⟩) 39) ∧ Hid (ObjAt W1 (w.heap.size + 1 + 1) (rcA ⟨0, 0, 0, 0⟩) 39) ∧ Hid (Below w.heap.size w W1) ∧ Hid (((w.alloc (.cells #[.slice oa on oc, .slice ha hn hc] 47)).alloc (.cells #[.int .i64 0, .int .i64 0, .int .i64 0, .int .i64 0] 39)).alloc (.cells #[.int .i64 0, .int .i64 0, .int .i64 0, .int .i64 0] 39) = W1) ∧ Hid (W1.heap.size = w.heap.size + 1 + 1 + 1) :=
  ⟨_, ((ObjAt.new w #[.slice oa on oc, .slice ha hn hc] 47).alloc _).alloc _, (by have h := ObjAt.new (w.alloc (.cells #[.slice oa on oc, .slice ha hn hc] 47)) (rcA ⟨0, 0, 0, 0⟩) 39; rw [size_alloc] at h; exact h.alloc _), (by have h := ObjAt.new ((w.alloc (.cells #[.slice oa on oc, .slice ha hn hc] 47)).alloc (.cells (rcA ⟨0, 0, 0, 0⟩) 39)) (rcA ⟨0, 0, 0, 0⟩) 39; rw [size_alloc, size_alloc] at h; exact h), (((Below.refl _ _).alloc (Nat.le_refl _) _).alloc (by simp) _).alloc (by simp; omega) _, rfl, by show _ = _; simp⟩
/-- a point goes into two cells of an object -/
theorem build_Point (a b : Int) (w : World) : (Instr.build 37 #[(0, .int .i64 a), (1, .int .i64 b)]).run Tryz.prog w = .ok (.agg #[.int .i64 a, .int .i64 b]) w := by go_simp
theorem run_storeAt_pt {w : World} {b k : Nat} {u v : Int} {xs : Array Value} {e : TypeId} (hob : ObjAt w b xs e) (hk : k + 1 < xs.size) :
    (Instr.storeAt 37 (.pointer (some ⟨b, k, none⟩)) (.agg #[.int .i64 u, .int .i64 v])).run Tryz.prog w = .ok () ((w.setCell ⟨b, k, none⟩ (.int .i64 u)).setCell ⟨b, k + 1, none⟩ (.int .i64 v)) := by
  have := run_storeCells_cells (P := Tryz.prog) b k [.int .i64 u, .int .i64 v] 0 w (fun j hj => by
      have hj : j < 2 := hj
      rw [hob.cell, Array.getElem?_eq_getElem (show k + 0 + j < xs.size by omega)]; rfl) (fun j hj => hob.frozen _) (fun z hz => by
      rcases List.mem_cons.1 hz with rfl | hz
      · rfl
      · rcases List.mem_cons.1 hz with rfl | hz
        · rfl
        · cases hz)
  have hs : (Tryz.prog.info? 37).map (·.size) = some 2 := info_Point
  cases hq : Tryz.prog.info? 37 with
  | none => simp [hq] at hs
  | some i =>
    have hs2 : i.size = 2 := by simpa [hq] using hs
    have hc : (Value.agg #[.int .i64 u, .int .i64 v]).cells = #[.int .i64 u, .int .i64 v] := rfl
    have hz : (#[.int .i64 u, .int .i64 v] : Array Value).size = 2 := rfl
    have hl : (#[.int .i64 u, .int .i64 v] : Array Value).toList = [.int .i64 u, .int .i64 v] := rfl
    simp only [Nat.add_zero] at this
    simp only [Instr.storeAt, Instr.sureAddr, storeVar, sizeOf, typeInfo, Sem.run_bind, Sem.run_pure, Result.andThen_ok, run_program, hq, hc, hs2, hz, hl, ne_eq, not_true_eq_false, if_false, this]
    rfl
theorem wpList_store_pt {ops : Array Oper} {rest : List Oper} {o : Oper} {a : Act} {w : World} {Q : Exit → Act → World → Prop} (hgd : o.guard = none) (x y : Operand) (ho : o.op = .store 37 x y)
    (b k : Nat) (u v : Int) (hx : a.eval x = .pointer (some ⟨b, k, none⟩)) (hy : a.eval y = .agg #[.int .i64 u, .int .i64 v]) (xs : Array Value) (e : TypeId) (hob : ObjAt w b xs e) (hk : k + 1 < xs.size)
    (h : wpList Tryz.prog ops Q rest (a.put o.dst undef) ((w.setCell ⟨b, k, none⟩ (.int .i64 u)).setCell ⟨b, k + 1, none⟩ (.int .i64 v))) : wpList Tryz.prog ops Q (o :: rest) a w :=
  wpList_plain hgd fun K hK => by
    unfold Oper.wp execOp
    simp only [ho, hx, hy, Sem.run_bind, run_storeAt_pt hob hk]
    exact hK _ _ h
theorem info_Rect : (Tryz.prog.info? 39).map (·.size) = some 4 := by kernel_rfl
theorem load_Rect {w : World} {g : Nat} {x : Rct} {e : TypeId} (h : ObjAt w g (rcA x) e) : (loadVar 39 ⟨g, 0, none⟩).run Tryz.prog w = .ok (.agg (rcA x)) w := run_loadVar_row (P := Tryz.prog) w g e 39 (rcA x) (0, 0) _ h Tryz.underlying39 rfl info_Rect
theorem rc_one (a : Rct) : (rcA a).all (·.oneCell') = true := by simp [rcA, Value.oneCell']
set_option maxRecDepth 100000 in
set_option maxHeartbeats 1000000 in
theorem rBounds_any (ov hv : Value) (outer : List Pnt) (w : World) (h : SPt w ov outer) (hl : outer.length ≤ 100000) (hs : ∃ a n c, hv = .slice a n c) : Calls Tryz.prog 70 #[.agg #[ov, hv]] w (Ret w (.agg (rcA (bndL outer)))) := by
  have HP := Lib.hid h
  obtain ⟨oa, oc, rfl, _, _, p3⟩ := h
  have P3 := Lib.hid p3
  obtain ⟨ha, hn, hc, rfl⟩ := hs
  clear p3
  obtain ⟨W1, HS1, HR1, HU1, HB1, HW1, HZ1⟩ := boxBd w oa outer.length oc ha hn hc
  go_enter Tryz.func70, Tryz.ntmps70
  go_wp2_with fail
  rw [HW1.out]
  go_loopw [4] (fun i wr => ∃ k : Nat, k ≤ outer.length ∧ i = .int .i64 k ∧ Hid (Below w.heap.size w wr) ∧ Hid (ObjAt wr w.heap.size #[.slice oa outer.length oc, .slice ha hn hc] 47) ∧ Hid (ObjAt wr (w.heap.size + 1) (rcA ⟨0, 0, 0, 0⟩) 39) ∧ Hid (ObjAt wr (w.heap.size + 1 + 1) (rcA (bndTo outer k)) 39)) (fun i _ => outer.length - (intOf i).toNat)
  case atStart => exact ⟨0, Nat.zero_le _, rfl, HB1, HS1, HR1, HU1⟩
  case round =>
    obtain ⟨k, hk, rfl, hb, hs, hr, hu⟩ := hrel
    have c0 := hs.out.cell 0
    dsimp at c0
    by_cases hlt : k < outer.length
    · have i1 : (k : Int) < outer.length := by omega
      obtain ⟨pb, po, rfl, hcp⟩ := P3.out k hlt
      have p0 := (hcp.keep hb.out).c0
      have p1 := (hcp.keep hb.out).c1
      obtain ⟨⟨qx, qy⟩, hpq⟩ : ∃ q, pti outer k = q := ⟨_, rfl⟩
      have HPQ := Lib.hid hpq
      rw [hpq] at p0 p1
      clear hpq
      dsimp only at p0 p1
      obtain ⟨W2, HQ2, HB2, HW2, HZ2⟩ := copyPt wr ⟨qx, qy⟩
      dsimp only at HW2
      have HBw2 := Lib.hid (ext_trans hb.out HB2.out)
      have HS2 := Lib.hid (hs.out.keep HB2.out)
      have HR2 := Lib.hid (hr.out.keep HB2.out)
      have HU2 := Lib.hid (hu.out.keep HB2.out)
      by_cases e : k = 0
      · subst e
        have HBN : Hid (bndTo outer (0 + 1) = ⟨min qx qx, min qy qy, max qx qx, max qy qy⟩) := by show _ = _; simp [bndTo, bnd1, HPQ.out]
        simp only [Nat.zero_mul, Nat.add_zero] at p0 p1
        go_upto_region 6 with fail
        rw [HW2.out]
        have q0 := HQ2.out.cell 0
        have q1 := HQ2.out.cell 1
        simp only [ptA] at q0 q1
        dsimp at q0 q1
        clear p0 p1 c0
        obtain ⟨W3, HW3⟩ : ∃ W3, Hid (W2.setRow (w.heap.size + 1 + 1) (rcA ⟨qx, qy, qx, qy⟩) = W3) := ⟨_, rfl⟩
        have HU3 : Hid (ObjAt W3 (w.heap.size + 1 + 1) (rcA ⟨qx, qy, qx, qy⟩) 39) := by show ObjAt ..; rw [← HW3.out]; exact setRow_heap _ _ _ _ _ _ HU2.out
        have HQ3 : Hid (ObjAt W3 wr.heap.size (ptA ⟨qx, qy⟩) 37) := by show ObjAt ..; rw [← HW3.out]; exact HQ2.out.row (by have := hu.out.lt; omega) _
        have HS3 : Hid (ObjAt W3 w.heap.size #[.slice (some ⟨pb, po, none⟩) outer.length oc, .slice ha hn hc] 47) := by show ObjAt ..; rw [← HW3.out]; exact HS2.out.row (by omega) _
        have HR3 : Hid (ObjAt W3 (w.heap.size + 1) (rcA ⟨0, 0, 0, 0⟩) 39) := by show ObjAt ..; rw [← HW3.out]; exact HR2.out.row (by omega) _
        have HB3 : Hid (Below w.heap.size w W3) := by show Below ..; rw [← HW3.out]; exact below_setRow HBw2.out (by omega) _
        go_upto_region 8 with (refine wpList_store_row (o := ⟨none, .store _ _ _, _, _, _, _⟩) rfl 39 (.tmp 3) (.tmp 23) rfl (w.heap.size + 1 + 1) (rcA ⟨qx, qy, qx, qy⟩) rfl rfl 39 _ HU2.out info_Rect rfl (rc_one _) ?_)
        rw [HW3.out]
        clear q0 q1
        have q0 := HQ3.out.cell 0
        have q1 := HQ3.out.cell 1
        simp only [ptA] at q0 q1
        dsimp at q0 q1
        obtain ⟨W4, HW4⟩ : ∃ W4, Hid ((W3.setCell ⟨w.heap.size + 1 + 1, 0, none⟩ (.int .i64 (min qx qx))).setCell ⟨w.heap.size + 1 + 1, 0 + 1, none⟩ (.int .i64 (min qy qy)) = W4) := ⟨_, rfl⟩
        have HU4 : Hid (ObjAt W4 (w.heap.size + 1 + 1) (rcA ⟨(min qx qx), (min qy qy), qx, qy⟩) 39) := by show ObjAt ..; rw [← HW4.out]; exact (HU3.out.set 0 _).set 1 _
        have HQ4 : Hid (ObjAt W4 wr.heap.size (ptA ⟨qx, qy⟩) 37) := by show ObjAt ..; rw [← HW4.out]; exact (HQ3.out.other (by have := hu.out.lt; omega) 0 _).other (by have := hu.out.lt; omega) 1 _
        have HS4 : Hid (ObjAt W4 w.heap.size #[.slice (some ⟨pb, po, none⟩) outer.length oc, .slice ha hn hc] 47) := by show ObjAt ..; rw [← HW4.out]; exact (HS3.out.other (by omega) 0 _).other (by omega) 1 _
        have HR4 : Hid (ObjAt W4 (w.heap.size + 1) (rcA ⟨0, 0, 0, 0⟩) 39) := by show ObjAt ..; rw [← HW4.out]; exact (HR3.out.other (by omega) 0 _).other (by omega) 1 _
        have HB4 : Hid (Below w.heap.size w W4) := by show Below ..; rw [← HW4.out]; exact (HB3.out.setCell (p := ⟨w.heap.size + 1 + 1, 0, none⟩) (by show w.heap.size ≤ w.heap.size + 1 + 1; omega) _).setCell (p := ⟨w.heap.size + 1 + 1, 1, none⟩) (by show w.heap.size ≤ w.heap.size + 1 + 1; omega) _
        clear q0 q1
        refine wp_region_ep 14 gmT gmT_ok [⟨w.heap.size + 1 + 1, 0, (rcA ⟨qx, qy, qx, qy⟩).toList⟩, ⟨wr.heap.size, 0, (ptA ⟨qx, qy⟩).toList⟩] (fun v => v = W3) [(3, 0), (5, 1)] [(36, .ret (.agg #[.int .i64 (min qx qx), .int .i64 (min qy qy)]))] [(36, .agg #[.int .i64 (min qx qx), .int .i64 (min qy qy)]), (37, .pointer (some ⟨w.heap.size + 1 + 1, 0, none⟩))] (by kernel_rfl) rfl
          (obsC (fun u hu => by cases hu; exact (range_new HU3.out)) (obsC (fun u hu => by cases hu; exact (range_new HQ3.out)) obsN)) ⟨rfl, rfl, trivial⟩ ?_
        conv => whnf
        refine And.intro (under_of fun w => build_Point _ _ w) ?_
        conv => whnf
        intro f1
        conv => whnf
        refine And.intro (rfl) ?_
        conv => whnf
        refine And.intro (rfl) ?_
        conv => whnf
        intro _ he
        cases he
        change wpList Tryz.prog _ _ [_] _ _
        refine wpList_store_pt (o := ⟨none, .store _ _ _, _, _, _, _⟩) rfl (.tmp 37) (.tmp 36) rfl (w.heap.size + 1 + 1) 0 (min qx qx) (min qy qy) ?_ ?_ _ _ HU3.out (by show 1 < 4; decide) ?_
        · rfl
        · rfl
        rw [HW4.out]
        clear HW4
        obtain ⟨W5, HW5⟩ : ∃ W5, Hid ((W4.setCell ⟨w.heap.size + 1 + 1, 2, none⟩ (.int .i64 (max qx qx))).setCell ⟨w.heap.size + 1 + 1, 2 + 1, none⟩ (.int .i64 (max qy qy)) = W5) := ⟨_, rfl⟩
        have HU5 : Hid (ObjAt W5 (w.heap.size + 1 + 1) (rcA (bndTo outer (0 + 1))) 39) := by show ObjAt ..; rw [HBN.out, ← HW5.out]; exact (HU4.out.set 2 _).set 3 _
        have HS5 : Hid (ObjAt W5 w.heap.size #[.slice (some ⟨pb, po, none⟩) outer.length oc, .slice ha hn hc] 47) := by show ObjAt ..; rw [← HW5.out]; exact (HS4.out.other (by omega) 2 _).other (by omega) 3 _
        have HR5 : Hid (ObjAt W5 (w.heap.size + 1) (rcA ⟨0, 0, 0, 0⟩) 39) := by show ObjAt ..; rw [← HW5.out]; exact (HR4.out.other (by omega) 2 _).other (by omega) 3 _
        have HB5 : Hid (Below w.heap.size w W5) := by show Below ..; rw [← HW5.out]; exact (HB4.out.setCell (p := ⟨w.heap.size + 1 + 1, 2, none⟩) (by show w.heap.size ≤ w.heap.size + 1 + 1; omega) _).setCell (p := ⟨w.heap.size + 1 + 1, 3, none⟩) (by show w.heap.size ≤ w.heap.size + 1 + 1; omega) _
        go_upto_region 9 with fail
        refine wp_region_ep 14 gmT gmT_ok [⟨w.heap.size + 1 + 1, 0, (rcA ⟨(min qx qx), (min qy qy), qx, qy⟩).toList⟩, ⟨wr.heap.size, 0, (ptA ⟨qx, qy⟩).toList⟩] (fun v => v = W4) [(3, 0), (5, 1)] [(50, .ret (.agg #[.int .i64 (max qx qx), .int .i64 (max qy qy)]))] [(50, .agg #[.int .i64 (max qx qx), .int .i64 (max qy qy)]), (51, .pointer (some ⟨w.heap.size + 1 + 1, 2, none⟩))] (by kernel_rfl) rfl
          (obsC (fun u hu => by cases hu; exact (range_new HU4.out)) (obsC (fun u hu => by cases hu; exact (range_new HQ4.out)) obsN)) ⟨rfl, rfl, trivial⟩ ?_
        conv => whnf
        refine And.intro (under_of fun w => build_Point _ _ w) ?_
        conv => whnf
        intro f1
        conv => whnf
        refine And.intro (rfl) ?_
        conv => whnf
        refine And.intro (rfl) ?_
        conv => whnf
        intro _ he
        cases he
        change wpList Tryz.prog _ _ [_] _ _
        refine wpList_store_pt (o := ⟨none, .store _ _ _, _, _, _, _⟩) rfl (.tmp 51) (.tmp 50) rfl (w.heap.size + 1 + 1) 2 (max qx qx) (max qy qy) ?_ ?_ _ _ HU4.out (by show 3 < 4; decide) ?_
        · rfl
        · rfl
        rw [HW5.out]
        clear HW5
        go_wp2_with fail
        go_roundw
        case rel => exact ⟨0 + 1, by omega, by go_num, HB5, HS5, HR5, HU5⟩
        case measure => simp [intOf]; omega
      · have i2 : ¬ (k : Int) = 0 := by omega
        obtain ⟨⟨xa, xb, xc, xd⟩, hbn⟩ : ∃ r, bndTo outer k = r := ⟨_, rfl⟩
        have HBN : Hid (bndTo outer (k + 1) = ⟨min xa qx, min xb qy, max xc qx, max xd qy⟩) := by show _ = _; simp only [bndTo, if_neg e, bnd1, HPQ.out, hbn]
        rw [hbn] at HU2
        clear hbn
        go_upto_region 6 with fail
        rw [HW2.out]
        have q0 := HQ2.out.cell 0
        have q1 := HQ2.out.cell 1
        simp only [ptA] at q0 q1
        dsimp at q0 q1
        clear p0 p1 c0
        go_upto_region 8 with fail
        obtain ⟨W4, HW4⟩ : ∃ W4, Hid ((W2.setCell ⟨w.heap.size + 1 + 1, 0, none⟩ (.int .i64 (min xa qx))).setCell ⟨w.heap.size + 1 + 1, 0 + 1, none⟩ (.int .i64 (min xb qy)) = W4) := ⟨_, rfl⟩
        have HU4 : Hid (ObjAt W4 (w.heap.size + 1 + 1) (rcA ⟨(min xa qx), (min xb qy), xc, xd⟩) 39) := by show ObjAt ..; rw [← HW4.out]; exact (HU2.out.set 0 _).set 1 _
        have HQ4 : Hid (ObjAt W4 wr.heap.size (ptA ⟨qx, qy⟩) 37) := by show ObjAt ..; rw [← HW4.out]; exact (HQ2.out.other (by have := hu.out.lt; omega) 0 _).other (by have := hu.out.lt; omega) 1 _
        have HS4 : Hid (ObjAt W4 w.heap.size #[.slice (some ⟨pb, po, none⟩) outer.length oc, .slice ha hn hc] 47) := by show ObjAt ..; rw [← HW4.out]; exact (HS2.out.other (by omega) 0 _).other (by omega) 1 _
        have HR4 : Hid (ObjAt W4 (w.heap.size + 1) (rcA ⟨0, 0, 0, 0⟩) 39) := by show ObjAt ..; rw [← HW4.out]; exact (HR2.out.other (by omega) 0 _).other (by omega) 1 _
        have HB4 : Hid (Below w.heap.size w W4) := by show Below ..; rw [← HW4.out]; exact (HBw2.out.setCell (p := ⟨w.heap.size + 1 + 1, 0, none⟩) (by show w.heap.size ≤ w.heap.size + 1 + 1; omega) _).setCell (p := ⟨w.heap.size + 1 + 1, 1, none⟩) (by show w.heap.size ≤ w.heap.size + 1 + 1; omega) _
        clear q0 q1
        refine wp_region_ep 14 gmT gmT_ok [⟨w.heap.size + 1 + 1, 0, (rcA ⟨xa, xb, xc, xd⟩).toList⟩, ⟨wr.heap.size, 0, (ptA ⟨qx, qy⟩).toList⟩] (fun v => v = W2) [(3, 0), (5, 1)] [(36, .ret (.agg #[.int .i64 (min xa qx), .int .i64 (min xb qy)]))] [(36, .agg #[.int .i64 (min xa qx), .int .i64 (min xb qy)]), (37, .pointer (some ⟨w.heap.size + 1 + 1, 0, none⟩))] (by kernel_rfl) rfl
          (obsC (fun u hu => by cases hu; exact (range_new HU2.out)) (obsC (fun u hu => by cases hu; exact (range_new HQ2.out)) obsN)) ⟨rfl, rfl, trivial⟩ ?_
        conv => whnf
        refine And.intro (under_of fun w => build_Point _ _ w) ?_
        conv => whnf
        intro f1
        conv => whnf
        refine And.intro (rfl) ?_
        conv => whnf
        refine And.intro (rfl) ?_
        conv => whnf
        intro _ he
        cases he
        change wpList Tryz.prog _ _ [_] _ _
        refine wpList_store_pt (o := ⟨none, .store _ _ _, _, _, _, _⟩) rfl (.tmp 37) (.tmp 36) rfl (w.heap.size + 1 + 1) 0 (min xa qx) (min xb qy) ?_ ?_ _ _ HU2.out (by show 1 < 4; decide) ?_
        · rfl
        · rfl
        rw [HW4.out]
        clear HW4
        obtain ⟨W5, HW5⟩ : ∃ W5, Hid ((W4.setCell ⟨w.heap.size + 1 + 1, 2, none⟩ (.int .i64 (max xc qx))).setCell ⟨w.heap.size + 1 + 1, 2 + 1, none⟩ (.int .i64 (max xd qy)) = W5) := ⟨_, rfl⟩
        have HU5 : Hid (ObjAt W5 (w.heap.size + 1 + 1) (rcA (bndTo outer (k + 1))) 39) := by show ObjAt ..; rw [HBN.out, ← HW5.out]; exact (HU4.out.set 2 _).set 3 _
        have HS5 : Hid (ObjAt W5 w.heap.size #[.slice (some ⟨pb, po, none⟩) outer.length oc, .slice ha hn hc] 47) := by show ObjAt ..; rw [← HW5.out]; exact (HS4.out.other (by omega) 2 _).other (by omega) 3 _
        have HR5 : Hid (ObjAt W5 (w.heap.size + 1) (rcA ⟨0, 0, 0, 0⟩) 39) := by show ObjAt ..; rw [← HW5.out]; exact (HR4.out.other (by omega) 2 _).other (by omega) 3 _
        have HB5 : Hid (Below w.heap.size w W5) := by show Below ..; rw [← HW5.out]; exact (HB4.out.setCell (p := ⟨w.heap.size + 1 + 1, 2, none⟩) (by show w.heap.size ≤ w.heap.size + 1 + 1; omega) _).setCell (p := ⟨w.heap.size + 1 + 1, 3, none⟩) (by show w.heap.size ≤ w.heap.size + 1 + 1; omega) _
        go_upto_region 9 with fail
        refine wp_region_ep 14 gmT gmT_ok [⟨w.heap.size + 1 + 1, 0, (rcA ⟨(min xa qx), (min xb qy), xc, xd⟩).toList⟩, ⟨wr.heap.size, 0, (ptA ⟨qx, qy⟩).toList⟩] (fun v => v = W4) [(3, 0), (5, 1)] [(50, .ret (.agg #[.int .i64 (max xc qx), .int .i64 (max xd qy)]))] [(50, .agg #[.int .i64 (max xc qx), .int .i64 (max xd qy)]), (51, .pointer (some ⟨w.heap.size + 1 + 1, 2, none⟩))] (by kernel_rfl) rfl
          (obsC (fun u hu => by cases hu; exact (range_new HU4.out)) (obsC (fun u hu => by cases hu; exact (range_new HQ4.out)) obsN)) ⟨rfl, rfl, trivial⟩ ?_
        conv => whnf
        refine And.intro (under_of fun w => build_Point _ _ w) ?_
        conv => whnf
        intro f1
        conv => whnf
        refine And.intro (rfl) ?_
        conv => whnf
        refine And.intro (rfl) ?_
        conv => whnf
        intro _ he
        cases he
        change wpList Tryz.prog _ _ [_] _ _
        refine wpList_store_pt (o := ⟨none, .store _ _ _, _, _, _, _⟩) rfl (.tmp 51) (.tmp 50) rfl (w.heap.size + 1 + 1) 2 (max xc qx) (max xd qy) ?_ ?_ _ _ HU4.out (by show 3 < 4; decide) ?_
        · rfl
        · rfl
        rw [HW5.out]
        clear HW5
        go_wp2_with fail
        go_roundw
        case rel => exact ⟨k + 1, by omega, by go_num, HB5, HS5, HR5, HU5⟩
        case measure => simp [intOf]; omega
    · have i1 : ¬ (k : Int) < outer.length := by omega
      have e : k = outer.length := by omega
      have HU2 : Hid (ObjAt wr (w.heap.size + 1 + 1) (rcA (bndL outer)) 39) := by show ObjAt ..; have := hu.out; rw [e] at this; exact this
      have HV : ∃ r, bndL outer = r := ⟨_, rfl⟩
      obtain ⟨r, hr2⟩ := HV
      rw [hr2] at HU2
      have r0 := HU2.out.cell 0
      have r1 := HU2.out.cell 1
      have r2 := HU2.out.cell 2
      have r3 := HU2.out.cell 3
      simp only [rcA] at r0 r1 r2 r3
      dsimp at r0 r1 r2 r3
      go_wp2_with (refine wpList_store_row (o := ⟨none, .store _ _ _, _, _, _, _⟩) rfl 39 (.tmp 2) (.tmp 52) rfl (w.heap.size + 1) (rcA r) rfl rfl 39 _ hr.out info_Rect rfl (rc_one _) ?_)
      refine bodyPost_ret (results_cell Tryz.results70 rfl (load_Rect (setRow_heap _ _ _ (rcA r) _ _ hr.out))) rfl ?_
      exact ⟨by first | rfl | rw [hr2], below_setRow hb.out (by omega) _⟩
end Go.Proofs.YtfmhickjefogdaaGreat

/- Within of the reference's regions (printed by wip/gen_rmi2.py). -/
namespace Go.Proofs.YtfmhickjefogdaaGreat
open Go.RowKit

/-- what a shape within a plate says -/
structure WinR (outer : List Pnt) (L W m : Int) : Prop where
  l0 : 0 ≤ L
  l1 : L ≤ 32768
  w0 : 0 ≤ W
  w1 : W ≤ 32768
  m0 : 0 ≤ m
  inn : Inn m m (L - m) (W - m) outer
def winA (n : Nat) (L W m : Int) : Bool := ((((((decide ((n : Int) = 0) || decide (L < 0)) || decide (32768 < L)) || decide (W < 0)) || decide (32768 < W)) || decide (m < 0)) || decide (1000 < m))
def winB (r : Rct) (L W m : Int) : Bool := ((decide (m ≤ r.x0) && decide (m ≤ r.y0)) && decide (r.x1 ≤ L - m)) && decide (r.y1 ≤ W - m)
theorem win_ok {outer : List Pnt} {L W m : Int} (h1 : winA outer.length L W m = false) (h2 : winB (bndL outer) L W m = true) : WinR outer L W m := by
  unfold winA at h1
  unfold winB at h2
  simp only [Bool.or_eq_false_iff, decide_eq_false_iff_not, Bool.and_eq_true, decide_eq_true_eq] at h1 h2
  refine ⟨by omega, by omega, by omega, by omega, by omega, ⟨fun i hi => ?_, fun i hi => ?_⟩⟩
  · have := bndTo_in (l := outer) (k := outer.length) hi
    unfold bndL at h2
    omega
  · have := bndTo_in (l := outer) (k := outer.length) hi
    unfold bndL at h2
    omega
theorem win_eq {n : Nat} {L W m : Int} (r : Rct) (h1 : winA n L W m = false) : Value.bool (decide (m ≤ r.x0) && decide (m ≤ r.y0) && decide (r.x1 ≤ IntKind.i64.wrap (L - m)) && decide (r.y1 ≤ IntKind.i64.wrap (W - m))) = Value.bool (winB r L W m) := by
  unfold winA at h1
  simp only [Bool.or_eq_false_iff, decide_eq_false_iff_not] at h1
  rw [IntWalk.i64_in (L - m) (by omega), IntWalk.i64_in (W - m) (by omega)]
  rfl
theorem boxW (w : World) (x : Rct) : ∃ W1, Hid (ObjAt W1 w.heap.size (rcA x) 39) ∧ Hid (Below w.heap.size w W1) ∧ Hid (w.alloc (.cells #[.int .i64 x.x0, .int .i64 x.y0, .int .i64 x.x1, .int .i64 x.y1] 39) = W1) :=
  ⟨_, ObjAt.new _ _ _, (Below.refl _ _).alloc (Nat.le_refl _) _, rfl⟩
set_option maxRecDepth 100000 in
set_option maxHeartbeats 1000000 in
theorem rWithin_any (ov hv : Value) (outer : List Pnt) (L W m : Int) (w : World) (h : SPt w ov outer) (hl : outer.length ≤ 100000) (hs : ∃ a n c, hv = .slice a n c) : Calls Tryz.prog 36 #[.agg #[ov, hv], .int .i64 L, .int .i64 W, .int .i64 m] w (RetT (WinR outer L W m) w) := by
  have HP := Lib.hid h
  have HL := Lib.hid hl
  obtain ⟨oa, oc, rfl, _⟩ := h
  obtain ⟨ha, hn, hc, rfl⟩ := hs
  clear hl
  obtain ⟨W1, HS1, HB1, HW1⟩ := boxS w oa outer.length oc ha hn hc
  go_enter Tryz.func36, Tryz.ntmps36
  go_upto_region 1 with fail
  rw [HW1.out]

  refine wp_region_et gmT gmT_ok [⟨w.heap.size, 0, [.slice oa outer.length oc, .slice ha hn hc]⟩] (Below W1.heap.size W1) [(4, 0)] [] [(37, .bool (winA outer.length L W m))] (by kernel_rfl) (Below.refl _ _)
    (obsC (fun u hu => rangeKeep (range_new HS1.out) hu) obsN) ⟨rfl, trivial⟩ ?_
  conv => whnf
  intro f1
  conv => whnf
  refine And.intro (rfl) ?_
  conv => whnf
  intro w2 h2
  have HB2 := Lib.hid (ext_trans HB1.out h2)
  have HS2 := Lib.hid (HS1.out.keep h2)
  clear h2
  obtain ⟨z, hz⟩ : ∃ z, winA outer.length L W m = z := ⟨_, rfl⟩
  have HZ := Lib.hid hz
  rw [hz]
  clear hz
  cases z
  · have c0 := HS2.out.cell 0
    have c1 := HS2.out.cell 1
    dsimp at c0 c1
    go_wp2_with fail
    refine (rBounds_any _ _ outer w2 (HP.out.keep HB2.out) HL.out ⟨_, _, _, rfl⟩).mono ?_
    rintro e w3 ⟨rfl, hb3⟩
    have HB3 := Lib.hid (ext_trans HB2.out hb3)
    clear hb3 c0 c1
    obtain ⟨r, hr⟩ : ∃ r, bndL outer = r := ⟨_, rfl⟩
    have HR := Lib.hid hr
    rw [hr]
    clear hr
    obtain ⟨W4, HS4, HB4, HW4⟩ := boxW w3 r
    unfold rcA
    go_upto_region 4 with fail
    rw [HW4.out]

    refine wp_region_et gmT gmT_ok [⟨w3.heap.size, 0, (rcA r).toList⟩] (Below W4.heap.size W4) [(9, 0)] [] [(8, .bool (winB r L W m))] (by kernel_rfl) (Below.refl _ _)
      (obsC (fun u hu => rangeKeep (range_new HS4.out) hu) obsN) ⟨rfl, trivial⟩ ?_
    conv => whnf
    intro f5
    conv => whnf
    refine And.intro (win_eq r HZ.out) ?_
    conv => whnf
    intro w5 h5
    have HB5 := Lib.hid (ext_trans HB3.out (ext_trans HB4.out h5))
    clear h5
    go_wp2_with fail
    go_ret
    exact ⟨_, rfl, HB5.out, fun hb => win_ok HZ.out (by rw [HR.out]; exact hb)⟩
  · go_wp2_with fail
    go_ret
    exact ⟨false, rfl, HB2.out, fun hb => by cases hb⟩
end Go.Proofs.YtfmhickjefogdaaGreat

/- (Qsp without 'put': calls need only be kept by what is made.) Regions that draw their order, with calls whose values are not known ahead, assignments of these, and a new variable that holds one of these. -/
namespace Go.Proofs.YtfmhickjefogdaaGreat
open Go.RowKit

/-- no strings, no two integers side by side -/
def Dull (cs : Array Value) : Prop := ∀ j : Nat, (∀ s, cs[j]? ≠ some (.string s)) ∧ ∀ x y, cs[j]? = some (.int .i64 x) → cs[j + 1]? ≠ some (.int .i64 y)
/-- kept by what is made, and by what goes into a block that is dull -/
structure KeptV (V : Value → World → Prop) : Prop where
  bl : ∀ v u u', V v u → Below u.heap.size u u' → V v u'
  fr : ∀ v u u' b c cs e, V v u → FrV u.heap.size (.slice (some ⟨b, 0, none⟩) c c) u u' → ObjAt u b cs e → Dull cs → V v u'
inductive SpK where
  | call (F : FuncId) (ns : List Nat) (vs : List Value) (V : Value → World → Prop)
  | asg (j : Nat)
  /-- a value reckoned from another one -/
  | fn (j : Nat) (ns : List Nat) (vs : List Value) (P : Value → Prop) (g : Value → Value)
  | new (ty : TypeId) (z : Value) (k : Nat)
  | put (A j : Nat) (ty : TypeId) (V : Value → World → Prop)
def SpK.isPut : SpK → Bool
  | .put .. => true
  | _ => false
/-- what is known of its value -/
def SpK.pr : SpK → Value → World → Prop
  | .call _ _ _ V, v, u => V v u
  | .fn _ _ _ P _, v, _ => P v
  | _, _, _ => True
def SpOK (n0 : Nat) (s : Nat → Option Value) (w : World) (i : Nat) : SpK → Prop
  | .call _ _ _ V => ∀ v, s i = some v → V v w
  | .asg j => ∀ v, s i = some v → s j = some v
  | .fn j _ _ P g => ∀ v, s i = some v → P v ∧ ∃ x, s j = some x ∧ v = g x
  | .new ty z k => ∀ v, s i = some v → ∃ b, v = .pointer (some ⟨b, 0, none⟩) ∧ n0 ≤ b ∧ (s k = none → ObjAt w b #[z] ty)
  | .put A j ty _ => ∀ v, s i = some v → ∃ x b, s j = some x ∧ s A = some (.pointer (some ⟨b, 0, none⟩)) ∧ n0 ≤ b ∧ ObjAt w b #[x] ty
def SpJ (n0 : Nat) (sps : List (Nat × SpK)) (s : Nat → Option Value) (w : World) : Prop := ∀ p ∈ sps, SpOK n0 s w p.1 p.2
def behind (ops : List Oper) (i j m : Nat) : Prop := ∃ o oj, ops[i]? = some o ∧ ops[j]? = some oj ∧ oj.dst = some m ∧ ∃ e ∈ o.after, e.on = j ∧ Region.binds .any e = true
def SpH (w : World) (ops : List Oper) (sps : List (Nat × SpK)) (i : Nat) : SpK → Prop
  | .call F ns vs V => (∃ o c, ops[i]? = some o ∧ o.op = .call c ∧ c.callee = .value (.func F) ∧ c.args.toList = ns.map Operand.tmp) ∧ (∀ args w, (callFunc F args).run Tryz.prog w = .ok (.enter F args) w) ∧ (∀ v u u', V v u → Below u.heap.size u u' → V v u') ∧
      ∀ u, Below w.heap.size w u → Calls Tryz.prog F vs.toArray u fun e u' => ∃ v, e = .returned v ∧ V v u' ∧ Below u.heap.size u u'
  | .asg j => j ∈ sps.map (·.1) ∧ ∃ o m, ops[i]? = some o ∧ o.op = .assign (.tmp m) ∧ behind ops i j m
  | .fn j ns vs P g => ∃ kj, (j, kj) ∈ sps ∧ ∃ o m, ops[i]? = some o ∧ behind ops i j m ∧ (∀ n ∈ ns, n ∈ o.looksAt ops.toArray) ∧ ∀ (a : Act) x u, a.eval (.tmp m) = x → (ns.map Operand.tmp).map a.eval = vs → kj.pr x u → P (g x) ∧ (execOp a.eval o).run Tryz.prog u = .ok (.value (g x)) u
  | .new ty z k => (∃ V j, (k, .put i j ty V) ∈ sps) ∧ (∃ o, ops[i]? = some o ∧ o.op = .alloc ty) ∧ (∀ w, (Instr.alloc ty true (.tuple #[])).run Tryz.prog w = .ok (.pointer (some ⟨w.heap.size, 0, none⟩)) (w.alloc (.cells #[z] ty))) ∧ Dull #[z]
  | .put A j ty V => False ∧ (∃ z, (A, .new ty z i) ∈ sps) ∧ (∃ F ns vs, (j, .call F ns vs V) ∈ sps) ∧ (∃ o mA mj, ops[i]? = some o ∧ o.op = .store ty (.tmp mA) (.tmp mj) ∧ o.dst = none ∧ behind ops i A mA ∧ behind ops i j mj) ∧ (Tryz.prog.info? ty).map (·.size) = some 1 ∧ ∀ v u, V v u → v.oneCell' = true ∧ v.cells = #[v]
section
variable {a0 : Act} {ps : List (Nat × Nat)} {T : QTab} {E : List Ob} {hs : List (Nat × Hint)}
def spArgs (E : List Ob) (S : List Ent) : List (Nat × SpK) → Prop
  | [] => True
  | (_, .call _ ns vs _) :: l => argsAt E S ns vs ∧ spArgs E S l
  | (_, .fn _ ns vs _ _) :: l => argsAt E S ns vs ∧ spArgs E S l
  | _ :: l => spArgs E S l
theorem spArgs_at {E : List Ob} {S : List Ent} {i : Nat} {F : FuncId} {ns : List Nat} {vs : List Value} {V : Value → World → Prop} {l : List (Nat × SpK)} (h : spArgs E S l) (hm : (i, .call F ns vs V) ∈ l) : argsAt E S ns vs := by
  induction l with
  | nil => cases hm
  | cons q l ih =>
    obtain ⟨j, k⟩ := q
    rcases List.mem_cons.1 hm with e | hm2
    · cases e; exact h.1
    · cases k <;> first | exact ih h.2 hm2 | exact ih h hm2
theorem spArgs_fn {E : List Ob} {S : List Ent} {i j : Nat} {ns : List Nat} {vs : List Value} {P : Value → Prop} {g : Value → Value} {l : List (Nat × SpK)} (h : spArgs E S l) (hm : (i, .fn j ns vs P g) ∈ l) : argsAt E S ns vs := by
  induction l with
  | nil => cases hm
  | cons q l ih =>
    obtain ⟨j, k⟩ := q
    rcases List.mem_cons.1 hm with e | hm2
    · cases e; exact h.1
    · cases k <;> first | exact ih h.2 hm2 | exact ih h hm2
def evSp (a0 : Act) (E : List Ob) (W : World) (ops : List Oper) (sps : List (Nat × SpK)) (outs : List (Nat × Value)) (Q : Act → World → Prop) (S : List Ent) : Prop :=
  spArgs E S sps ∧ ∀ (f : Nat → Value) (s : Nat → Option Value), (∀ i, (sps.map (·.1)).contains i = true → ∀ o, ops[i]? = some o → ∃ v, s i = some v ∧ ∀ n, o.dst = some n → v = f n) → match a0 with
    | ⟨⟨l⟩, d⟩ => finS E outs f S l fun l' => setsN f (spD (sps.map (·.1)) 0 ops) l' fun l'' => ∀ w', Below W.heap.size W w' → SpJ W.heap.size sps s w' → Q ⟨l''.toArray, d⟩ w'
theorem spec_all {J : (Nat → Option Value) → World → Prop} {C : World → Prop} {sp : List Nat} {ops : List Oper} {Q : Exit → Act → World → Prop} {S : List Ent} : ∀ {l : List Nat}, (∀ i ∈ l, SpecAt a0 E C J sp ops Q S i) → SpecL a0 E C J sp ops Q S l
  | [], _ => trivial
  | i :: l, h => ⟨h i (List.mem_cons_self ..), spec_all fun j hj => h j (List.mem_cons_of_mem _ hj)⟩
theorem setCell_frv {n : Nat} {u : World} {b c k : Nat} {x : Value} : FrV n (.slice (some ⟨b, 0, none⟩) c c) u (u.setCell ⟨b, k, none⟩ x) :=
  ⟨rfl, rfl, rfl, by simp [World.setCell], fun j _ h1 => Below.heap_setCell _ _ _ _ (fun e => h1 (by rw [e]; rfl))⟩
theorem below_setCell {n : Nat} {w w' : World} (h : Below n w w') {b : Nat} (hg : n ≤ b) (k : Nat) (x : Value) : Below n w (w'.setCell ⟨b, k, none⟩ x) :=
  ⟨h.os, h.tape, h.output, Nat.le_trans h.size (by simp [World.setCell]), fun j hj => (Below.heap_setCell _ _ _ _ (by dsimp only; omega)).trans (h.block j hj)⟩
theorem wp_region_sp {id : Nat} {Q : Exit → Act → World → Prop} {w : World} {ops : List Oper} (T : QTab) (hT : T.Ok) (E : List Ob) (ps : List (Nat × Nat)) (hs : List (Nat × Hint)) (outs : List (Nat × Value))
    (sps : List (Nat × SpK))
    (hz : (ops.all fun o => match o.dst with | some n => decide (n < a0.tmps.size) | none => true) = true) (hm : Tryz.prog.follows .mixedOrders = true)
    (hst : (ordB ops.toArray && nodB (dstsL ops) && chkB ops.toArray (quietL (sps.map (·.1)) 0 ops) && depB (sps.map (·.1)) ops.toArray) = true)
    (hkey : ∀ p ∈ sps, ∀ q ∈ sps, p.1 = q.1 → p = q) (hput : ∀ p ∈ sps, ∀ q ∈ sps, p.2.isPut = true → q.2.isPut = true → p = q)
    (hsp : ∀ p ∈ sps, SpH w ops sps p.1 p.2)
    (hE : ObsIn (Below w.heap.size w) E) (P : psOk a0 E ps)
    (h : evL a0 ps T E (Below w.heap.size w) (fun u u' => Below u.heap.size u u') hs ops (evSp a0 E w ops sps outs (Q .normal)) (quietL (sps.map (·.1)) 0 ops) []) : (Code.region id ops.toArray true).wp Tryz.prog Q a0 w := by
  have hst' := hst
  simp only [Bool.and_eq_true] at hst'
  obtain ⟨⟨⟨s1, s2⟩, s3⟩, s4⟩ := hst'
  have hsub : ∀ o ∈ quietL (sps.map (·.1)) 0 ops, o ∈ ops := fun o ho => by obtain ⟨k, hk, _⟩ := mem_quietL ho; exact List.mem_of_getElem? hk
  obtain ⟨S, H, af, I, ⟨h1, h2⟩, f1, f2, f3⟩ := evL_fin P hT hE hz _ [] [] a0 hsub s3 InvQ.start h
  -- what is made keeps all
  have keepB : ∀ s u u', SpJ w.heap.size sps s u → Below u.heap.size u u' → SpJ w.heap.size sps s u' := by
    intro s u u' hJ hb p hp
    have h0 := hJ p hp
    have hH := hsp p hp
    obtain ⟨i, k⟩ := p
    cases k with
    | call F ns vs V => exact fun v hv => hH.2.2.1 v u u' (h0 v hv) hb
    | asg j => exact h0
    | fn j ns vs P g => exact h0
    | new ty z k => exact fun v hv => by obtain ⟨b, e1, e2, e3⟩ := h0 v hv; exact ⟨b, e1, e2, fun hk => (e3 hk).keep hb⟩
    | put A j ty V => exact fun v hv => by obtain ⟨x, b, e1, e2, e3, e4⟩ := h0 v hv; exact ⟨x, b, e1, e2, e3, e4.keep hb⟩
  -- one more slot
  have more : ∀ s u i v, SpJ w.heap.size sps s u → s i = none → (∀ k, (i, k) ∈ sps → SpOK w.heap.size (updS s i v) u i k) → SpJ w.heap.size sps (updS s i v) u := by
    intro s u i v hJ hn hnew p hp
    have h0 := hJ p hp
    obtain ⟨q, k⟩ := p
    by_cases e : q = i
    · subst e; exact hnew k hp
    · cases k with
      | call F ns vs V => exact fun v' hv' => by rw [updS_other e] at hv'; exact h0 v' hv'
      | asg j =>
        exact fun v' hv' => by
          rw [updS_other e] at hv'
          have := h0 v' hv'
          rw [updS_other (fun e2 => by subst e2; rw [hn] at this; cases this)]; exact this
      | fn j ns vs P g =>
        exact fun v' hv' => by
          rw [updS_other e] at hv'
          obtain ⟨e1, x, e2, e3⟩ := h0 v' hv'
          exact ⟨e1, x, by rw [updS_other (fun e4 => by subst e4; rw [hn] at e2; cases e2)]; exact e2, e3⟩
      | new ty z k =>
        exact fun v' hv' => by
          rw [updS_other e] at hv'
          obtain ⟨b, e1, e2, e3⟩ := h0 v' hv'
          refine ⟨b, e1, e2, fun hk => e3 ?_⟩
          by_cases ek : k = i
          · subst ek; exact hn
          · rw [updS_other ek] at hk; exact hk
      | put A j ty V =>
        exact fun v' hv' => by
          rw [updS_other e] at hv'
          obtain ⟨x, b, e1, e2, e3, e4⟩ := h0 v' hv'
          exact ⟨x, b, by rw [updS_other (fun e5 => by subst e5; rw [hn] at e1; cases e1)]; exact e1, by rw [updS_other (fun e5 => by subst e5; rw [hn] at e2; cases e2)]; exact e2, e3, e4⟩
  refine mix_core (sps.map (·.1)) E (Below w.heap.size w) (fun u u' => Below u.heap.size u u') outs (SpJ w.heap.size sps) hz hm hst ((Below.refl _ _).drew) (fun p hp => ?_) (fun u u' h1 h2 => h1.trans (h2.mono h1.size)) (fun u _ => Below.refl _ _) (fun s u u' _ h2 h3 => keepB s u u' h2 h3) I ⟨spec_all fun i hi => ?_, h2⟩ f1 f2 f3
  · obtain ⟨i, k⟩ := p
    cases k <;> exact fun v hv => (by cases hv)
  · obtain ⟨⟨i', k⟩, hp, rfl⟩ := List.mem_map.1 hi
    have hH := hsp _ hp
    have uniq : ∀ k', (i', k') ∈ sps → k' = k := fun k' hk' => by have := hkey _ hk' _ hp rfl; cases this; rfl
    intro o a u s ho hC hJ hn hq _ hdep K hK
    -- what an operation waits for
    have waits : ∀ j m, behind ops i' j m → j ∈ sps.map (·.1) → ∃ v, s j = some v ∧ a.eval (.tmp m) = v := by
      rintro j m ⟨o', oj, b1, b2, b3, e, b4, b5, b6⟩ hj
      rw [ho] at b1; cases b1
      obtain ⟨v, v1, v2⟩ := hdep e b4 b6 (by rw [b5]; simpa using hj)
      rw [b5] at v1 v2
      exact ⟨v, v1, v2 oj m b2 b3⟩
    cases k with
    | call F ns vs V =>
      obtain ⟨⟨o', c, g1, g2, g3, g4⟩, hen, hV, hcall⟩ := hH
      rw [ho] at g1; cases g1
      have hx : c.args.toList.map a.eval = vs := by
        rw [g4]
        refine argsAt_map (spArgs_at h1 hp) fun n hn' => hq n ?_
        unfold Oper.looksAt
        refine List.mem_append_left _ (List.mem_filterMap.2 ⟨.tmp n, ?_, rfl⟩)
        rw [g2]
        unfold Op.operands
        have : Operand.tmp n ∈ c.args.toList := by rw [g4]; exact List.mem_map.2 ⟨n, hn', rfl⟩
        simp only [Call.operands, g3]; simp at this; simp [this]
      refine wp_of_enter (enters_call g2 g3 hx hen u) ((hcall u hC).mono fun e u' ⟨v, he, hv, hb⟩ => ⟨v, he, ?_⟩)
      refine hK _ _ (hC.trans (hb.mono hC.size)) (more s u' i' v (keepB s u u' hJ hb) hn fun k' hk' => ?_)
      rw [uniq k' hk']
      exact fun v' hv' => by rw [updS_same] at hv'; cases hv'; exact hv
    | asg j =>
      obtain ⟨hj, o', m, g1, g2, g3⟩ := hH
      rw [ho] at g1; cases g1
      obtain ⟨v, v1, v2⟩ := waits j m g3 hj
      refine wp_of_run (v := v) (w' := u) (by unfold execOp; simp only [g2, v2]; rfl) (hK _ _ hC (more s u i' v hJ hn fun k' hk' => ?_))
      rw [uniq k' hk']
      exact fun v' hv' => by
        rw [updS_same] at hv'; cases hv'
        rw [updS_other (fun e => by subst e; rw [hn] at v1; cases v1)]; exact v1
    | fn j ns vs P g =>
      obtain ⟨kj, hj, o', m, g1, g3, gl, hg⟩ := hH
      rw [ho] at g1; cases g1
      obtain ⟨v, v1, v2⟩ := waits j m g3 (List.mem_map.2 ⟨_, hj, rfl⟩)
      have hpr : kj.pr v u := by
        have h0 := hJ _ hj
        cases kj with
        | call F ns vs V => exact h0 v v1
        | fn j' ns' vs' P' g' => exact (h0 v v1).1
        | asg j' => trivial
        | new ty z k => trivial
        | put A j' ty V => trivial
      obtain ⟨hP, hrun⟩ := hg a v u v2 (argsAt_map (spArgs_fn h1 hp) fun n hn' => hq n (gl n hn')) hpr
      refine wp_of_run (v := g v) (w' := u) hrun (hK _ _ hC (more s u i' _ hJ hn fun k' hk' => ?_))
      rw [uniq k' hk']
      exact fun v' hv' => by
        rw [updS_same] at hv'; cases hv'
        exact ⟨hP, v, by rw [updS_other (fun e => by subst e; rw [hn] at v1; cases v1)]; exact v1, rfl⟩
    | new ty z k =>
      obtain ⟨⟨V, j, hk⟩, ⟨o', g1, g2⟩, halloc, _⟩ := hH
      rw [ho] at g1; cases g1
      have hb : Below u.heap.size u (u.alloc (.cells #[z] ty)) := (Below.refl _ _).alloc (Nat.le_refl _) _
      refine wp_of_run (v := .pointer (some ⟨u.heap.size, 0, none⟩)) (w' := u.alloc (.cells #[z] ty)) (by unfold execOp; simp only [g2, Sem.run_bind, halloc]; rfl) (hK _ _ (hC.alloc hC.size _) (more s _ i' _ (keepB s u _ hJ hb) hn fun k' hk' => ?_))
      rw [uniq k' hk']
      exact fun v' hv' => by
        rw [updS_same] at hv'; cases hv'
        exact ⟨_, rfl, hC.size, fun _ => ObjAt.new u #[z] ty⟩
    | put A j ty V =>
      exact hH.1.elim
end
end Go.Proofs.YtfmhickjefogdaaGreat

/- Clear of the reference's regions, for shapes that are right (printed by wip/gen_rmj.py). -/
namespace Go.Proofs.YtfmhickjefogdaaGreat
open Go.RowKit

theorem rChk0 (ov hv : Value) (outer : List Pnt) (holes : List (List Pnt)) (hvs : List Value) (w : World) (h : ShpOK w ov hv outer holes hvs) (hr : Rgn outer holes) : Calls Tryz.prog 33 #[.agg #[ov, hv]] w (Ret w (.int .i64 0)) :=
  (rChkR_any ov hv outer holes hvs w h).mono fun e w' ⟨z, he, hb, hz⟩ => ⟨by rw [he, hz.2 hr], hb⟩
theorem Rgn.con {o : List Pnt} {hl : List (List Pnt)} (h : Rgn o hl) : ∀ i, i < (o :: hl).length → Con ((o :: hl).getD i []) := by
  have s := rgn_shp.1 h
  exact fun i hi => by
    have := s.c _ (getD_mem hi)
    exact ⟨fun j hj => this.nr hj, Nat.le_trans this.n (by decide)⟩
theorem Rgn.pos {o : List Pnt} {hl : List (List Pnt)} (h : Rgn o hl) : 0 < o.length := ((rgn_shp.1 h).c o (by simp)).len0
def gapA (g : Int) : Bool := ((false || false) || decide (g < 0)) || decide (1000 < g)
theorem boxS2 (w : World) (oa : Option Addr) (on oc : Nat) (ha : Option Addr) (hn hc : Nat) (pa : Option Addr) (pn pc : Nat) (qa : Option Addr) (qn qc : Nat) : ∃ W1, Hid (ObjAt W1 w.heap.size #[.slice oa on oc, .slice ha hn hc] 47) ∧ Hid (ObjAt W1 (w.heap.size + 1) #[.slice pa pn pc, .slice qa qn qc] 47) ∧ Hid (Below w.heap.size w W1) ∧ Hid ((w.alloc (.cells #[.slice oa on oc, .slice ha hn hc] 47)).alloc (.cells #[.slice pa pn pc, .slice qa qn qc] 47) = W1) :=
  ⟨_, (ObjAt.new w #[.slice oa on oc, .slice ha hn hc] 47).alloc _, (by have h := ObjAt.new (w.alloc (.cells #[.slice oa on oc, .slice ha hn hc] 47)) #[.slice pa pn pc, .slice qa qn qc] 47; rw [size_alloc] at h; exact h), ((Below.refl _ _).alloc (Nat.le_refl _) _).alloc (by simp) _, rfl⟩
theorem cLim {w : World} {ov hv : Value} {o : List Pnt} {hl : List (List Pnt)} {vs : List Value} (h : ShpOK w ov hv o hl vs) (r : Rgn o hl) : vs.length ≤ 1000 := by have := h.n; have := r.n; omega
theorem slB {n : Nat} {C : Nat → Value} : ∀ v u u', Sl u v n C → Below u.heap.size u u' → Sl u' v n C := fun _ _ _ h hb => Sl.keep h hb
set_option maxRecDepth 100000 in
set_option maxHeartbeats 2000000 in
theorem rClear_any (ov hv pv qv : Value) (ao bo : List Pnt) (ah bh : List (List Pnt)) (avs bvs : List Value) (gap : Int) (w : World) (ha : ShpOK w ov hv ao ah avs) (hb : ShpOK w pv qv bo bh bvs) (ra : Rgn ao ah) (rb : Rgn bo bh) : Calls Tryz.prog 37 #[.agg #[ov, hv], .agg #[pv, qv], .int .i64 gap] w (RetT (SepR ao ah bo bh) w) := by
  have HA := Lib.hid ha
  have HB := Lib.hid hb
  have RA := Lib.hid ra
  have RB := Lib.hid rb
  obtain ⟨oa, oc, rfl, _, _, a3⟩ := ha.o
  obtain ⟨xa, xc, rfl, _⟩ := ha.hs
  obtain ⟨pa, pc, rfl, _, _, b3⟩ := hb.o
  obtain ⟨qa, qc, rfl, _⟩ := hb.hs
  obtain ⟨ab, ao', rfl, ac⟩ := a3 0 ra.pos
  obtain ⟨bb, bo', rfl, bc⟩ := b3 0 rb.pos
  have AC := Lib.hid ac
  have BC := Lib.hid bc
  have PA := Lib.hid ra.pos
  have PB := Lib.hid rb.pos
  clear ha hb ra rb a3 b3 ac bc
  obtain ⟨W1, HS1, HT1, HB1, HW1⟩ := boxS2 w (some ⟨ab, ao', none⟩) ao.length oc xa avs.length xc (some ⟨bb, bo', none⟩) bo.length pc qa bvs.length qc
  go_enter Tryz.func37, Tryz.ntmps37
  go_upto_region 1 with fail
  rw [HW1.out]

  refine wp_region_et gmT gmT_ok [⟨w.heap.size, 0, [.slice (some ⟨ab, ao', none⟩) ao.length oc, .slice xa avs.length xc]⟩, ⟨w.heap.size + 1, 0, [.slice (some ⟨bb, bo', none⟩) bo.length pc, .slice qa bvs.length qc]⟩] (Below W1.heap.size W1) [(3, 0), (4, 1)] [(12, .ret (.int .i64 0)), (16, .ret (.int .i64 0))] [(26, .bool (gapA gap))] (by kernel_rfl) (Below.refl _ _)
    (obsC (fun u hu => rangeKeep (range_new HS1.out) hu) (obsC (fun u hu => rangeKeep (range_new HT1.out) hu) obsN)) ⟨rfl, rfl, trivial⟩ ?_
  conv => whnf
  refine And.intro (Nat.le_of_ble_eq_true rfl) ?_
  conv => whnf
  refine And.intro (under_of fun u hu => ret_in (rChk0 _ _ ao ah avs u (HA.out.keep (ext_trans HB1.out hu)) RA.out) hu) ?_
  conv => whnf
  refine And.intro (Nat.le_of_ble_eq_true rfl) ?_
  conv => whnf
  refine And.intro (under_of fun u hu => ret_in (rChk0 _ _ bo bh bvs u (HB.out.keep (ext_trans HB1.out hu)) RB.out) hu) ?_
  conv => whnf
  intro f1
  conv => whnf
  refine And.intro (rfl) ?_
  conv => whnf
  intro w2 h2
  have HB2 := Lib.hid (ext_trans HB1.out h2)
  have HS2 := Lib.hid (HS1.out.keep h2)
  have HT2 := Lib.hid (HT1.out.keep h2)
  clear h2
  obtain ⟨z, hz⟩ : ∃ z, gapA gap = z := ⟨_, rfl⟩
  rw [hz]
  clear hz
  cases z
  · go_upto_region 3 with fail

    refine wp_region_ev gmT gmT_ok [⟨w.heap.size, 0, [.slice (some ⟨ab, ao', none⟩) ao.length oc, .slice xa avs.length xc]⟩, ⟨w.heap.size + 1, 0, [.slice (some ⟨bb, bo', none⟩) bo.length pc, .slice qa bvs.length qc]⟩, ⟨ab, ao' + 0 * 2, ptCells (pti ao 0)⟩, ⟨bb, bo' + 0 * 2, ptCells (pti bo 0)⟩] (Below w2.heap.size w2) [(3, 0), (4, 1)] [(30, .ix 0 3), (32, .ret (.int .i64 (whereS ao ah (pti bo 0)))), (38, .ix 0 2), (40, .ret (.int .i64 (whereS bo bh (pti ao 0))))] [(42, .bool (decide (0 ≤ whereS ao ah (pti bo 0)) || decide (0 ≤ whereS bo bh (pti ao 0))))] (by kernel_rfl) mixed (by kernel_rfl) ((Below.refl _ _).drew)
      (obsC (fun u hu => rangeKeep (range_new HS2.out) hu) (obsC (fun u hu => rangeKeep (range_new HT2.out) hu) (obsC (fun u hu => rangeKeep ((pt_range (AC.out.keep HB2.out))) hu) (obsC (fun u hu => rangeKeep ((pt_range (BC.out.keep HB2.out))) hu) obsN)))) ⟨rfl, rfl, trivial⟩ ?_
    conv => whnf
    refine And.intro (Nat.le_of_ble_eq_true rfl) ?_
    conv => whnf
    refine And.intro (under_of ⟨rfl, PB.out, rfl, rfl⟩) ?_
    conv => whnf
    refine And.intro (Nat.le_of_ble_eq_true rfl) ?_
    conv => whnf
    refine And.intro (under_of fun u hu => ret_in (rWhereS_any _ _ ao ah avs _ u (HA.out.keep (ext_trans HB2.out hu)) RA.out) hu) ?_
    conv => whnf
    refine And.intro (Nat.le_of_ble_eq_true rfl) ?_
    conv => whnf
    refine And.intro (under_of ⟨rfl, PA.out, rfl, rfl⟩) ?_
    conv => whnf
    refine And.intro (Nat.le_of_ble_eq_true rfl) ?_
    conv => whnf
    refine And.intro (under_of fun u hu => ret_in (rWhereS_any _ _ bo bh bvs _ u (HB.out.keep (ext_trans HB2.out hu)) RB.out) hu) ?_
    conv => whnf
    intro f3
    conv => whnf
    refine And.intro (rfl) ?_
    conv => whnf
    intro w3 h3
    have HB3 := Lib.hid (ext_trans HB2.out h3)
    have HS3 := Lib.hid (HS2.out.keep h3)
    have HT3 := Lib.hid (HT2.out.keep h3)
    clear h3
    obtain ⟨z, hz⟩ : ∃ z, (decide (0 ≤ whereS ao ah (pti bo 0)) || decide (0 ≤ whereS bo bh (pti ao 0))) = z := ⟨_, rfl⟩
    have HZ := Lib.hid hz
    rw [hz]
    clear hz
    cases z
    · have HW := Lib.hid HZ.out
      go_upto_region 5 with fail

      refine wp_region_sp gmT gmT_ok [⟨w.heap.size, 0, [.slice (some ⟨ab, ao', none⟩) ao.length oc, .slice xa avs.length xc]⟩, ⟨w.heap.size + 1, 0, [.slice (some ⟨bb, bo', none⟩) bo.length pc, .slice qa bvs.length qc]⟩] [(3, 0), (4, 1)] [] [] [(1, .call 67 [43] [(.agg #[.slice (some ⟨ab, ao', none⟩) ao.length oc, .slice xa avs.length xc])] (fun v u => Sl u v (.slice (some ⟨ab, ao', none⟩) ao.length oc :: avs).length fun i => (.slice (some ⟨ab, ao', none⟩) ao.length oc :: avs).getD i undef)), (3, .call 67 [45] [(.agg #[.slice (some ⟨bb, bo', none⟩) bo.length pc, .slice qa bvs.length qc])] (fun v u => Sl u v (.slice (some ⟨bb, bo', none⟩) bo.length pc :: bvs).length fun i => (.slice (some ⟨bb, bo', none⟩) bo.length pc :: bvs).getD i undef)), (4, .asg 1), (5, .asg 3)]
        (by kernel_rfl) mixed (by kernel_rfl) (by simp) (by simp [SpK.isPut]) ?_ (obsC (fun u hu => rangeKeep (range_new HS3.out) hu) (obsC (fun u hu => rangeKeep (range_new HT3.out) hu) obsN)) ⟨rfl, rfl, trivial⟩ ?_
      · exact List.forall_mem_cons.2 ⟨⟨⟨_, _, rfl, rfl, rfl, rfl⟩, fun args w => enters_of Tryz.func67 (by kernel_rfl) rfl args w, slB, fun u hu => (rcontours_any _ _ ao ah avs u (HA.out.keep (ext_trans HB3.out hu)) (cLim (HA.out) RA.out)).mono fun e u1 ⟨v, he, hv, hb⟩ => ⟨v, he, hv, hb⟩⟩, List.forall_mem_cons.2 ⟨⟨⟨_, _, rfl, rfl, rfl, rfl⟩, fun args w => enters_of Tryz.func67 (by kernel_rfl) rfl args w, slB, fun u hu => (rcontours_any _ _ bo bh bvs u (HB.out.keep (ext_trans HB3.out hu)) (cLim (HB.out) RB.out)).mono fun e u1 ⟨v, he, hv, hb⟩ => ⟨v, he, hv, hb⟩⟩, List.forall_mem_cons.2 ⟨⟨by simp, _, _, rfl, rfl, ⟨_, _, rfl, rfl, rfl, ⟨1, .data⟩, by simp, rfl, rfl⟩⟩, List.forall_mem_cons.2 ⟨⟨by simp, _, _, rfl, rfl, ⟨_, _, rfl, rfl, rfl, ⟨3, .data⟩, by simp, rfl, rfl⟩⟩, fun p hp => by cases hp⟩⟩⟩⟩
      conv => whnf
      refine And.intro (Nat.le_of_ble_eq_true rfl) ?_
      conv => whnf
      refine And.intro (Nat.le_of_ble_eq_true rfl) ?_
      conv => whnf
      refine And.intro ⟨⟨rfl, trivial⟩, ⟨rfl, trivial⟩, trivial⟩ ?_
      intro f1 s1 hs1
      conv => whnf
      intro w5 h5 hj2
      obtain ⟨v1, a1, b1⟩ := hs1 1 rfl _ rfl
      have e1 := hj2 _ ((.head _)) v1 a1
      obtain ⟨v3, a3, b3⟩ := hs1 3 rfl _ rfl
      have e3 := hj2 _ ((.tail _ (.head _))) v3 a3
      obtain ⟨v4, a4, b4⟩ := hs1 4 rfl _ rfl
      have e4 := hj2 _ ((.tail _ (.tail _ (.head _)))) v4 a4
      obtain ⟨v5, a5, b5⟩ := hs1 5 rfl _ rfl
      have e5 := hj2 _ ((.tail _ (.tail _ (.tail _ (.head _))))) v5 a5
      clear hs1 hj2
      rw [a1] at e4
      cases e4
      rw [a3] at e5
      cases e5
      have e7 := b4 7 rfl
      have e8 := b5 8 rfl
      rw [← e7, ← e8]
      obtain ⟨la, lc, rfl, _, _, l3⟩ := e1
      obtain ⟨ma, mc, rfl, _, _, m3⟩ := e3
      have L3 := Lib.hid l3
      have M3 := Lib.hid m3
      have HB5 := Lib.hid (ext_trans HB3.out h5)
      have CA := Lib.hid (ShpOK.con (HA.out.keep HB5.out))
      have CB := Lib.hid (ShpOK.con (HB.out.keep HB5.out))
      have KA := Lib.hid RA.out.con
      have KB := Lib.hid RB.out.con
      have n1 : avs.length ≤ 8 := by have := HA.out.n; have := RA.out.n; omega
      have n2 : bvs.length ≤ 8 := by have := HB.out.n; have := RB.out.n; omega
      have NA := Lib.hid HA.out.n
      have NB := Lib.hid HB.out.n
      clear l3 m3 h5 e7 e8 a1 a3 a4 a5 b1 b3 b4 b5
      go_wp2_with fail
      go_loopw [9] (fun i wr => ∃ k : Nat, k ≤ avs.length + 1 ∧ i = .int .i64 k ∧ Hid (Below w5.heap.size w5 wr) ∧ Hid (∀ i n, i < k → n < bvs.length + 1 → crossB ((ao :: ah).getD i []) ((bo :: bh).getD n []) = false)) (fun i _ => avs.length + 1 - (intOf i).toNat)
      case atStart => exact ⟨0, Nat.zero_le _, rfl, Below.refl _ _, fun i n h1 h2 => by omega⟩
      case round =>
        obtain ⟨i, hi, rfl, hb, hA⟩ := hrel
        by_cases hlt : i < avs.length + 1
        · have i1 : (i : Int) < avs.length + 1 := by omega
          go_wp2_with fail
          go_loopw [10] (fun i2 wr2 => ∃ k : Nat, k ≤ bvs.length + 1 ∧ i2 = .int .i64 k ∧ Hid (Below w5.heap.size w5 wr2) ∧ Hid (∀ n, n < k → crossB ((ao :: ah).getD i []) ((bo :: bh).getD n []) = false)) (fun i2 _ => bvs.length + 1 - (intOf i2).toNat)
          case atStart => exact ⟨0, Nat.zero_le _, rfl, hb, fun n h => by omega⟩
          case round =>
            obtain ⟨k, hk, rfl, hb2, hA2⟩ := hrel
            by_cases hlt2 : k < bvs.length + 1
            · have i2 : (k : Int) < bvs.length + 1 := by omega
              obtain ⟨lb, lo, rfl, hcl⟩ := L3.out i hlt
              obtain ⟨mb, mo, rfl, hcm⟩ := M3.out k hlt2
              obtain ⟨ua, uc, ep, u1, u2, u3⟩ := CA.out i hlt
              obtain ⟨va, vc, eq, v1, v2, v3⟩ := CB.out k hlt2
              rw [ep] at hcl
              rw [eq] at hcm
              have HN := Lib.hid (KA.out i (by have := NA.out; simp; omega))
              have HM := Lib.hid (KB.out k (by have := NB.out; simp; omega))
              obtain ⟨C, hC⟩ : ∃ C, (ao :: ah).getD i [] = C := ⟨_, rfl⟩
              obtain ⟨D, hD⟩ : ∃ D, (bo :: bh).getD k [] = D := ⟨_, rfl⟩
              rw [hC] at u1 u3 hcl HN
              rw [hD] at v1 v3 hcm HM
              have HC := Lib.hid hC
              have HD := Lib.hid hD
              have HCL := Lib.hid (cell_keep hb2.out hcl)
              have HCM := Lib.hid (cell_keep hb2.out hcm)
              have SC : Hid (SPt wr (.slice ua C.length uc) C) := SPt.keep ⟨ua, uc, rfl, u1, u2, u3⟩ hb2.out
              have SD : Hid (SPt wr (.slice va D.length vc) D) := SPt.keep ⟨va, vc, rfl, v1, v2, v3⟩ hb2.out
              clear ep eq hC hD hcl hcm u1 u2 u3 v1 v2 v3
              go_upto_region 12 with fail
              refine wp_region_ev gmT gmT_ok [⟨lb, lo + i, [.slice ua C.length uc]⟩, ⟨mb, mo + k, [.slice va D.length vc]⟩] (Below wr.heap.size wr) [] [(61, .ix i 0), (65, .ix k 1), (67, .ret (.bool (crossB C D))), (71, .ix i 0), (75, .ix k 1), (78, .ret (.bool (closeB C D gap))), (83, .ix k 1), (87, .ix i 0), (90, .ret (.bool (closeB D C gap)))] [(91, .bool ((crossB C D || closeB C D gap) || closeB D C gap))] (by kernel_rfl) mixed (by kernel_rfl) ((Below.refl _ _).drew)
                (obsC (fun u hu => rangeKeep (intR HCL.out) hu) (obsC (fun u hu => rangeKeep (intR HCM.out) hu) obsN)) trivial ?_
              conv => whnf
              refine And.intro (under_of ⟨rfl, hlt, rfl, by show lo + i = lo + i * 1; omega⟩) ?_
              conv => whnf
              refine And.intro (under_of ⟨rfl, hlt2, rfl, by show mo + k = mo + k * 1; omega⟩) ?_
              conv => whnf
              refine And.intro (under_of fun u hu => ret_in (rcross_any _ _ C D u (SC.out.keep hu) (SD.out.keep hu) (Nat.le_trans HN.out.ln (by decide)) (Nat.le_trans HM.out.ln (by decide))) hu) ?_
              conv => whnf
              refine And.intro (under_of ⟨rfl, hlt, rfl, by show lo + i = lo + i * 1; omega⟩) ?_
              conv => whnf
              refine And.intro (under_of ⟨rfl, hlt2, rfl, by show mo + k = mo + k * 1; omega⟩) ?_
              conv => whnf
              refine And.intro (under_of fun u hu => ret_in (rclose_any _ _ C D gap u (SC.out.keep hu) (SD.out.keep hu) (Nat.le_trans HN.out.ln (by decide)) (Nat.le_trans HM.out.ln (by decide))) hu) ?_
              conv => whnf
              refine And.intro (under_of ⟨rfl, hlt2, rfl, by show mo + k = mo + k * 1; omega⟩) ?_
              conv => whnf
              refine And.intro (under_of ⟨rfl, hlt, rfl, by show lo + i = lo + i * 1; omega⟩) ?_
              conv => whnf
              refine And.intro (under_of fun u hu => ret_in (rclose_any _ _ D C gap u (SD.out.keep hu) (SC.out.keep hu) (Nat.le_trans HM.out.ln (by decide)) (Nat.le_trans HN.out.ln (by decide))) hu) ?_
              conv => whnf
              intro f7
              conv => whnf
              refine And.intro (rfl) ?_
              conv => whnf
              intro w7 h7
              have HB7 := Lib.hid (ext_trans hb2.out h7)
              clear h7
              obtain ⟨z, hz⟩ : ∃ z, ((crossB C D || closeB C D gap) || closeB D C gap) = z := ⟨_, rfl⟩
              have HZ2 := Lib.hid hz
              rw [hz]
              clear hz
              cases z
              · have HA3 : Hid (∀ n, n < k + 1 → crossB ((ao :: ah).getD i []) ((bo :: bh).getD n []) = false) := fun n h => by
                  by_cases e : n = k
                  · subst e
                    have := HZ2.out
                    rw [Bool.or_eq_false_iff, Bool.or_eq_false_iff] at this
                    rw [HC.out, HD.out]; exact this.1.1
                  · exact hA2.out n (by omega)
                go_wp2_with fail
                go_roundw
                case rel => exact ⟨k + 1, by omega, by go_num, HB7, HA3⟩
                case measure => simp [intOf]; omega
              · have HBE := Lib.hid (ext_trans HB5.out HB7.out)
                go_wp2_with fail
                go_ret
                exact ⟨false, rfl, HBE.out, fun hb => by cases hb⟩
            · have i2 : ¬ (k : Int) < bvs.length + 1 := by omega
              have HA3 : Hid (∀ i' n, i' < i + 1 → n < bvs.length + 1 → crossB ((ao :: ah).getD i' []) ((bo :: bh).getD n []) = false) := fun i' n h1 h2 => by
                by_cases e : i' = i
                · subst e; exact hA2.out n (by omega)
                · exact hA.out i' n (by omega) h2
              go_wp2_with fail
              go_roundw
              case rel => exact ⟨i + 1, by omega, by go_num, hb2, HA3⟩
              case measure => simp [intOf]; omega
        · have i1 : ¬ (i : Int) < avs.length + 1 := by omega
          have HBE := Lib.hid (ext_trans HB5.out hb.out)
          have HSEP : Hid (SepR ao ah bo bh) := by
            have hz := HW.out
            rw [Bool.or_eq_false_iff, decide_eq_false_iff_not, decide_eq_false_iff_not] at hz
            refine ⟨fun c hc d hd => ?_, whereS_neg (by omega), whereS_neg (by omega)⟩
            obtain ⟨i', h1, rfl⟩ := List.mem_iff_getElem.1 hc
            obtain ⟨n', h2, rfl⟩ := List.mem_iff_getElem.1 hd
            have := hA.out i' n' (by have := NA.out; simp at h1; omega) (by have := NB.out; simp at h2; omega)
            rw [List.getD_eq_getElem?_getD, List.getD_eq_getElem?_getD, List.getElem?_eq_getElem h1, List.getElem?_eq_getElem h2] at this
            exact this
          go_wp2_with fail
          go_ret
          exact ⟨true, rfl, HBE.out, fun _ => HSEP.out⟩
    · go_wp2_with fail
      go_ret
      exact ⟨false, rfl, HB3.out, fun hb => by cases hb⟩
  · go_wp2_with fail
    go_ret
    exact ⟨false, rfl, HB2.out, fun hb => by cases hb⟩
end Go.Proofs.YtfmhickjefogdaaGreat

/- side, right and Find of the reference's nest (printed by wip/gen_rmk.py). -/
namespace Go.Proofs.YtfmhickjefogdaaGreat
open Go.RowKit

def sideB (n : Int) : Bool := decide (-32768 ≤ n) && decide (n ≤ 32768)
def rightB (x : Spo) : Bool := ((decide (0 ≤ x.turn) && decide (x.turn ≤ 3)) && sideB x.x) && sideB x.y
theorem rightB_iff (x : Spo) : rightB x = true ↔ RightS x := by
  unfold rightB sideB
  simp only [Bool.and_eq_true, decide_eq_true_eq]
  exact ⟨fun ⟨⟨⟨a, b⟩, c, d⟩, e, f⟩ => ⟨a, b, c, d, e, f⟩, fun h => ⟨⟨⟨h.t0, h.t3⟩, h.x0, h.x1⟩, h.y0, h.y1⟩⟩
/-- the index of the first part with an id, -1 if there is none -/
def findTo (l : List Prt) (s : List UInt8) : Nat → Int
  | 0 => -1
  | k + 1 => if findTo l s k < 0 then (if (pri l k).id = s then k else -1) else findTo l s k
def findP (l : List Prt) (s : List UInt8) : Int := findTo l s l.length
theorem findTo_no {l : List Prt} {s : List UInt8} : ∀ {k : Nat}, (∀ j, j < k → (pri l j).id ≠ s) → findTo l s k = -1
  | 0, _ => rfl
  | k + 1, h => by
    unfold findTo
    rw [findTo_no (k := k) fun j hj => h j (by omega), if_pos (by decide), if_neg (h k (by omega))]
theorem findTo_at {l : List Prt} {s : List UInt8} {k : Nat} (h : ∀ j, j < k → (pri l j).id ≠ s) (e : (pri l k).id = s) : ∀ {n : Nat}, k < n → findTo l s n = k
  | 0, h0 => by omega
  | n + 1, h0 => by
    unfold findTo
    by_cases c : k < n
    · rw [findTo_at h e c, if_neg (by omega)]
    · obtain rfl : k = n := by omega
      rw [findTo_no h, if_pos (by decide), if_pos e]
theorem findTo_spec {l : List Prt} {s : List UInt8} : ∀ {n : Nat}, (findTo l s n = -1 ∧ ∀ j, j < n → (pri l j).id ≠ s) ∨ ∃ k : Nat, k < n ∧ findTo l s n = k ∧ (pri l k).id = s
  | 0 => Or.inl ⟨rfl, fun j h => by omega⟩
  | n + 1 => by
    rcases findTo_spec (l := l) (s := s) (n := n) with ⟨h1, h2⟩ | ⟨k, h1, h2, h3⟩
    · by_cases e : (pri l n).id = s
      · exact Or.inr ⟨n, by omega, by unfold findTo; rw [h1, if_pos (by decide), if_pos e], e⟩
      · exact Or.inl ⟨by unfold findTo; rw [h1, if_pos (by decide), if_neg e], fun j hj => by
          by_cases c : j = n
          · subst c; exact e
          · exact h2 j (by omega)⟩
    · exact Or.inr ⟨k, by omega, by unfold findTo; rw [h2, if_neg (by omega)], h3⟩
theorem findP_spec (l : List Prt) (s : List UInt8) : findP l s = -1 ∨ ∃ k : Nat, k < l.length ∧ findP l s = k ∧ (pri l k).id = s := by
  rcases findTo_spec (l := l) (s := s) (n := l.length) with ⟨h, _⟩ | h
  · exact Or.inl h
  · exact Or.inr h
theorem pr_id {w : World} {b off : Nat} {x : Prt} (h : PrAt w b off x) : w.rangeAt b off [.string (bs x.id)] := intR h.c0
set_option maxRecDepth 100000 in
theorem rside_any (n : Int) (w : World) : Calls Tryz.prog 66 #[.int .i64 n] w (Ret w (.bool (sideB n))) := by
  go_enter Tryz.func66, Tryz.ntmps66
  go_upto_region 1 with fail
  refine wp_region_et gmT gmT_ok [] (Below w.heap.size w) [] [] [(2, .bool (sideB n))] (by kernel_rfl) (Below.refl _ _)
    obsN trivial ?_
  conv => whnf
  intro f1
  conv => whnf
  refine And.intro (rfl) ?_
  conv => whnf
  intro w2 h2
  go_wp2_with fail
  go_ret
  exact ⟨rfl, h2⟩
set_option maxRecDepth 100000 in
theorem rright_any (x : Spo) (w : World) : Calls Tryz.prog 34 #[.agg (soA x)] w (Ret w (.bool (rightB x))) := by
  obtain ⟨W1, HO, HB, HW, HSZ⟩ := boxSo w x
  go_enter Tryz.func34, Tryz.ntmps34
  go_upto_region 1 with fail
  rw [HW.out]
  refine wp_region_et gmT gmT_ok [⟨w.heap.size, 0, (soA x).toList⟩] (Below W1.heap.size W1) [(1, 0)] [(15, .ret (.bool (sideB x.x))), (21, .ret (.bool (sideB x.y)))] [(2, .bool (rightB x))] (by kernel_rfl) (Below.refl _ _)
    (obsC (fun u hu => rangeKeep (range_new HO.out) hu) obsN) ⟨rfl, trivial⟩ ?_
  conv => whnf
  refine And.intro (under_of fun u hu => ret_in (rside_any _ u) hu) ?_
  conv => whnf
  refine And.intro (under_of fun u hu => ret_in (rside_any _ u) hu) ?_
  conv => whnf
  intro f1
  conv => whnf
  refine And.intro (rfl) ?_
  conv => whnf
  intro w2 h2
  have HB2 := Lib.hid (ext_trans HB.out h2)
  clear h2
  go_wp2_with fail
  go_ret
  exact ⟨rfl, HB2.out⟩
set_option maxRecDepth 100000 in
theorem rFind_any (v : Value) (l : List Prt) (s : List UInt8) (w : World) (h : SPr w v l) (hl : l.length ≤ 100000) : Calls Tryz.prog 32 #[v, .string (bs s)] w (Ret w (.int .i64 (findP l s))) := by
  obtain ⟨pa, pc, rfl, k1, k2, k3⟩ := h
  have K3 := Lib.hid k3
  clear k3
  go_enter Tryz.func32, Tryz.ntmps32
  go_wp2_with fail
  go_loopw [5] (fun i wr => ∃ k : Nat, k ≤ l.length ∧ i = .int .i64 k ∧ Hid (Below w.heap.size w wr) ∧ Hid (∀ j, j < k → (pri l j).id ≠ s)) (fun i _ => l.length - (intOf i).toNat)
  case atStart => exact ⟨0, Nat.zero_le _, rfl, Below.refl _ _, fun j h => by omega⟩
  case round =>
    obtain ⟨k, hk, rfl, hb, hn⟩ := hrel
    by_cases hlt : k < l.length
    · have i1 : (k : Int) < l.length := by omega
      obtain ⟨pb, po, rfl, hc⟩ := K3.out k hlt
      have HC := Lib.hid (hc.keep hb.out)
      clear hc
      go_upto_region 4 with fail
      refine wp_region_et gmT gmT_ok [⟨pb, po + k * 18, [.string (bs (pri l k).id)]⟩] (Below wr.heap.size wr) [] [(14, .ix k 0)] [(18, .bool ((pri l k).id == s))] (by kernel_rfl) (Below.refl _ _)
        (obsC (fun u hu => rangeKeep (pr_id HC.out) hu) obsN) trivial ?_
      conv => whnf
      refine And.intro (under_of ⟨rfl, hlt, rfl, rfl⟩) ?_
      conv => whnf
      intro f4
      conv => whnf
      refine And.intro (congrArg Value.bool (bs_eq _ _)) ?_
      conv => whnf
      intro w4 h4
      have HB4 := Lib.hid (ext_trans hb.out h4)
      clear h4
      by_cases e : (pri l k).id = s
      · have HV : Hid (findP l s = k) := findTo_at hn.out e hlt
        have e2 : ((pri l k).id == s) = true := beq_iff_eq.2 e
        rw [e2]
        clear e e2
        go_wp2_with fail
        go_ret
        exact ⟨ret_int HV.out.symm, HB4.out⟩
      · have HN : Hid (∀ j, j < k + 1 → (pri l j).id ≠ s) := fun j hj => by
          by_cases c : j = k
          · subst c; exact e
          · exact hn.out j (by omega)
        have e2 : ((pri l k).id == s) = false := beq_eq_false_iff_ne.2 e
        rw [e2]
        clear e e2
        go_wp2_with fail
        go_roundw
        case rel => exact ⟨k + 1, by omega, by go_num, HB4, HN⟩
        case measure => simp [intOf]; omega
    · have i1 : ¬ (k : Int) < l.length := by omega
      have HV : Hid (findP l s = -1) := findTo_no fun j hj => hn.out j (by omega)
      go_wp2_with fail
      go_ret
      exact ⟨ret_int HV.out.symm, hb.out⟩
end Go.Proofs.YtfmhickjefogdaaGreat
