/- Contract: Best of schedules. -/
import Derived.Test.YtfpnjbomlmhlpaaGreatPk21
import Derived.Test.YtfpnjbomlmhlpaaGreatPk17
import Derived.Test.YtfpnjbomlmhlpaaGreatPk13
import Derived.Laws.EntriesVeiled
set_option linter.unusedSimpArgs false
set_option linter.unusedVariables false

/- Contract: next of schedules. -/
namespace Go.Proofs.YtfpnjbomlmhlpaaGreat
open Go.RowKit

set_option maxRecDepth 100000 in
theorem nextCC_any (hb : Nat) (ja : Option Addr) (jc : Nat) (l : List MH) (fr : Int) (bv ov : Value) (bl : List (List UInt8)) (E : Edg) (y : Ern) (k bh bk : Nat) (w : World) (h : HallJ w hb ja jc l fr bv ov bl E) (hk : k < l.length) (c1 : w.cell? ⟨bh, 0, none⟩ = some (.pointer (some ⟨hb, 0, none⟩))) (c2 : w.cell? ⟨bk, 0, none⟩ = some (.int .i64 k)) :
    Calls Tryz.prog 84 (#[enV y] ++ #[.pointer (some ⟨bh, 0, none⟩), .pointer (some ⟨bk, 0, none⟩)]) w (Ret w (.bool (y.block == (mhi l k).h.block))) := by
  have HH := Lib.hid h
  obtain ⟨ja', jc', e, _, _, j3⟩ := h.j
  cases e
  obtain ⟨jb, jo, rfl, hc⟩ := j3 k hk
  have HC := Lib.hid hc
  have C1 := Lib.hid c1; have C2 := Lib.hid c2
  obtain ⟨W1, HO1, HB1, HW1, HZ1⟩ := copyEn w y
  show Calls Tryz.prog 84 #[.agg #[.string (bs y.block), .string (bs y.crane), .int .i64 y.a, .int .i64 y.b], .pointer (some ⟨bh, 0, none⟩), .pointer (some ⟨bk, 0, none⟩)] w _
  clear j3 hc h c1 c2
  go_enter Tryz.func84, Tryz.ntmps84
  go_upto_region 1 with fail
  rw [HW1.out]
  refine wp_region_ev sqT sqT_ok [⟨w.heap.size, 0, (enA y).toList⟩, ⟨bh, 0, [.pointer (some ⟨hb, 0, none⟩)]⟩, ⟨bk, 0, [.int .i64 k]⟩, ⟨hb, 0, (hallA (.slice (some ⟨jb, jo, none⟩) l.length jc) fr bv ov).toList⟩, ⟨jb, jo + k * 3, hsCells (mhi l k)⟩] (Below W1.heap.size W1) [(3, 0), (1, 1), (2, 2)] [(7, .ix 0 3), (12, .ix k 4)] [(4, .bool (y.block == (mhi l k).h.block))] (by kernel_rfl) mixed (by kernel_rfl) ((Below.refl _ _).drew)
    (obsC (fun u hu => rangeKeep (range_new HO1.out) hu) (obsC (fun u hu => rangeKeep (rangeKeep (intR C1.out) HB1.out) hu) (obsC (fun u hu => rangeKeep (rangeKeep (intR C2.out) HB1.out) hu) (obsC (fun u hu => rangeKeep (hall_range (HH.out.keep HB1.out).hw.c) hu) (obsC (fun u hu => rangeKeep (hs_range (HC.out.keep HB1.out)) hu) obsN))))) ⟨rfl, rfl, rfl, trivial⟩ ?_
  conv => whnf
  refine And.intro (under_of rfl) ?_
  conv => whnf
  refine And.intro (under_of ⟨rfl, hk, rfl, rfl⟩) ?_
  conv => whnf
  intro f1
  conv => whnf
  refine And.intro (by rw [bs_eq]) ?_
  conv => whnf
  intro w2 h2
  have HB := Lib.hid (ext_trans HB1.out h2)
  clear h2
  go_wp2_with fail
  go_ret
  exact ⟨rfl, HB.out⟩
theorem enter_nextCC : ∀ args w, (callFunc 84 args).run Tryz.prog w = .ok (.enter 84 args) w := enters_of Tryz.func84 (by kernel_rfl) rfl
set_option maxRecDepth 100000 in
theorem nextC_any (hb : Nat) (ja : Option Addr) (jc : Nat) (l : List MH) (fr : Int) (bv ov : Value) (bl : List (List UInt8)) (E : Edg) (lv : Value) (q : List Ern) (k b4 b3 : Nat) (w : World) (h : HallJ w hb ja jc l fr bv ov bl E) (hq : SEn w lv q) (hk : k < l.length) (c4 : w.cell? ⟨b4, 0, none⟩ = some lv) (c3 : w.cell? ⟨b3, 0, none⟩ = some (.pointer (some ⟨hb, 0, none⟩))) :
    Calls Tryz.prog 83 #[.int .i64 k, .pointer (some ⟨b4, 0, none⟩), .pointer (some ⟨b3, 0, none⟩)] w (Ret w (.bool (hasB q (mhi l k).h.block))) := by
  have HH := Lib.hid h; have HQ := Lib.hid hq; have C3 := Lib.hid c3
  have hb4 : b4 < w.heap.size := World.block_lt_of_cell? w _ c4
  obtain ⟨qa, qc, rfl, _⟩ := hq
  obtain ⟨W1, hW1⟩ : ∃ W1, w.alloc (.cells #[.int .i64 k] 3) = W1 := ⟨_, rfl⟩
  have HB1 : Hid (Below w.heap.size w W1) := by show Below ..; rw [← hW1]; exact (Below.refl _ _).alloc (Nat.le_refl _) _
  have HO1 : Hid (ObjAt W1 w.heap.size #[.int .i64 k] 3) := by show ObjAt ..; rw [← hW1]; exact ObjAt.new _ _ _
  have c4' := cell_keep HB1.out c4
  have HW1 := Lib.hid hW1
  clear h hW1 c3
  go_enter Tryz.func83, Tryz.ntmps83
  go_upto_region 1 with fail
  rw [HW1.out]
  clear HW1 c4
  go_wp2_with fail
  refine (containsFunc_E _ _ (fun _ => True) (fun y => y.block == (mhi l k).h.block) q W1 (HQ.out.keep HB1.out) (fun _ _ => trivial) ⟨84, #[.pointer (some ⟨b3, 0, none⟩), .pointer (some ⟨w.heap.size, 0, none⟩)], rfl, enter_nextCC, fun y u _ hu =>
    nextCC_any hb ja jc l fr bv ov bl E y k b3 _ u (HH.out.keep (ext_trans HB1.out hu)) hk (cell_keep (ext_trans HB1.out hu) C3.out) ((HO1.out.keep hu).cell 0)⟩).mono ?_
  rintro e w2 ⟨rfl, h2⟩
  have HB2 := Lib.hid (ext_trans HB1.out h2)
  clear h2 c4'
  go_wp2_with fail
  go_ret
  exact ⟨rfl, HB2.out⟩
theorem enter_nextC : ∀ args w, (callFunc 83 args).run Tryz.prog w = .ok (.enter 83 args) w := enters_of Tryz.func83 (by kernel_rfl) rfl
set_option maxRecDepth 100000 in
set_option maxHeartbeats 1000000 in
theorem next_any (hb : Nat) (ja : Option Addr) (jc : Nat) (l : List MH) (fr : Int) (bv ov : Value) (bl : List (List UInt8)) (E : Edg) (lv : Value) (q : List Ern) (i : Nat) (w : World) (h : HallJ w hb ja jc l fr bv ov bl E) (hq : SEn w lv q) (hi : i < l.length) (hl1 : l.length ≤ 64) :
    Calls Tryz.prog 43 #[.pointer (some ⟨hb, 0, none⟩), lv, .int .i64 i] w (Ret w (.bool (nextB (hl l) (BefJ l bl E) q i))) := by
  have HH := Lib.hid h; have HQ := Lib.hid hq
  obtain ⟨ra, rcap, e0, hr⟩ := h.hw.r
  obtain ⟨rb, ro, _, e1, _⟩ := hr i hi
  subst e1 e0
  have HR : Hid (∀ m, m < l.length → ∃ g, w.cell? ⟨rb, ro + m, none⟩ = some (.slice (some ⟨g, 0, none⟩) l.length l.length) ∧ w.cell? ⟨g, i, none⟩ = some (.bool (BefJ l bl E m i))) := fun m hm => by
    obtain ⟨b, off, g, e, c1, c2⟩ := hr m hm
    cases e
    exact ⟨g, c1, c2 i hi⟩
  obtain ⟨qa, qc, rfl, _⟩ := hq
  obtain ⟨W1, hW1⟩ : ∃ W1, w.alloc (.cells #[.pointer (some ⟨hb, 0, none⟩)] 61) = W1 := ⟨_, rfl⟩
  obtain ⟨W2, hW2⟩ : ∃ W2, W1.alloc (.cells #[.slice qa q.length qc] 40) = W2 := ⟨_, rfl⟩
  have hs1 : W1.heap.size = w.heap.size + 1 := by rw [← hW1]; simp
  have hB1 : Below w.heap.size w W1 := by rw [← hW1]; exact (Below.refl _ _).alloc (Nat.le_refl _) _
  have hB12 : Below W1.heap.size W1 W2 := by rw [← hW2]; exact (Below.refl _ _).alloc (Nat.le_refl _) _
  have HO3 : Hid (ObjAt W2 w.heap.size #[.pointer (some ⟨hb, 0, none⟩)] 61) := by
    show ObjAt ..
    refine ObjAt.keep ?_ hB12
    rw [← hW1]; exact ObjAt.new _ _ _
  have HO4 : Hid (ObjAt W2 (w.heap.size + 1) #[.slice qa q.length qc] 40) := by show ObjAt ..; rw [← hs1, ← hW2]; exact ObjAt.new _ _ _
  have HB2 := Lib.hid (ext_trans hB1 hB12)
  have HW1 := Lib.hid hW1; have HW2 := Lib.hid hW2
  have HN := Lib.hid (fun (u : World) (hu : Below W2.heap.size W2 u) k (hk : k < l.length) => nextC_any hb ja jc l fr _ ov bl E _ q k (w.heap.size + 1) w.heap.size u (HH.out.keep (ext_trans HB2.out hu)) (HQ.out.keep (ext_trans HB2.out hu)) hk ((HO4.out.keep hu).cell 0) ((HO3.out.keep hu).cell 0))
  clear h hr hW1 hW2 hs1 hB1 hB12
  go_enter Tryz.func43, Tryz.ntmps43
  go_upto_region 1 with fail
  rw [HW1.out, HW2.out]
  clear HW1 HW2
  go_wp2_with fail
  refine (HN.out W2 (Below.refl _ _) i hi).mono ?_
  rintro e w3 ⟨rfl, h3⟩
  have HB3 := Lib.hid h3
  have HNB : Hid (nextB (hl l) (BefJ l bl E) q i = (!hasB q (mhi l i).h.block && (List.range l.length).all fun k => !BefJ l bl E k i || hasB q (mhi l k).h.block)) := by
    show _ = _
    unfold nextB
    rw [hsi_ml hi, hl_len]
    congr 1
    rw [Bool.eq_iff_iff, List.all_eq_true, List.all_eq_true]
    exact ⟨fun h k hk => by have := h k hk; rw [hsi_ml (List.mem_range.1 hk)] at this; exact this, fun h k hk => by rw [hsi_ml (List.mem_range.1 hk)]; exact h k hk⟩
  clear h3
  obtain ⟨z, hz⟩ : ∃ z, hasB q (mhi l i).h.block = z := ⟨_, rfl⟩
  rw [hz] at HNB ⊢
  clear hz
  cases z
  · have HH3 := Lib.hid (HH.out.keep (ext_trans HB2.out HB3.out))
    have c3 : w3.cell? ⟨w.heap.size, 0, none⟩ = some (.pointer (some ⟨hb, 0, none⟩)) := (HO3.out.keep HB3.out).cell 0
    have d0 := HH3.out.hw.c.c0
    go_wp2_with fail
    clear c3 d0
    go_loopw [18] (fun n wr => ∃ k : Nat, k ≤ l.length ∧ n = .int .i64 k ∧ Hid (Below W2.heap.size W2 wr) ∧ Hid (∀ m, m < k → (!BefJ l bl E m i || hasB q (mhi l m).h.block) = true)) (fun n _ => l.length - (intOf n).toNat)
    case atStart => exact ⟨0, Nat.zero_le _, rfl, HB3, fun m hm => by omega⟩
    case round =>
      obtain ⟨k, hk, rfl, hb4, hal⟩ := hrel
      have HBW := Lib.hid (ext_trans HB2.out hb4.out)
      by_cases hlt : k < l.length
      · obtain ⟨g, r1, r2⟩ := HR.out k hlt
        have r1 := cell_keep HBW.out r1
        have r2 := cell_keep HBW.out r2
        have c3 : wr.cell? ⟨w.heap.size, 0, none⟩ = some (.pointer (some ⟨hb, 0, none⟩)) := (HO3.out.keep hb4.out).cell 0
        have d2 := (HH.out.keep HBW.out).hw.c.c2
        have i1 : (k : Int) < l.length := by omega
        have i2 : (i : Int) < l.length := by omega
        obtain ⟨z, hz⟩ : ∃ z, BefJ l bl E k i = z := ⟨_, rfl⟩
        have HZ := Lib.hid hz
        rw [hz] at r2
        clear hz
        cases z
        · have HAL : Hid (∀ m, m < k + 1 → (!BefJ l bl E m i || hasB q (mhi l m).h.block) = true) := upto (q := fun m => (!BefJ l bl E m i || hasB q (mhi l m).h.block) = true) hal.out (by rw [HZ.out]; rfl)
          go_wp2_with fail
          go_roundw
          case rel => exact ⟨k + 1, by omega, by go_num, hb4, HAL⟩
          case measure => simp [intOf]; omega
        · go_wp2_with fail
          refine (HN.out wr hb4.out k hlt).mono ?_
          rintro e w4 ⟨rfl, h4⟩
          have HB4 := Lib.hid (ext_trans hb4.out h4)
          clear h4 c3 d2 r1 r2
          obtain ⟨y, hy⟩ : ∃ y, hasB q (mhi l k).h.block = y := ⟨_, rfl⟩
          have HY := Lib.hid hy
          rw [hy]
          clear hy
          cases y
          · have HF : Hid (nextB (hl l) (BefJ l bl E) q i = false) := by
              show _ = _
              rw [HNB.out, Bool.not_false, Bool.true_and, ← Bool.not_eq_true, List.all_eq_true]
              intro h
              have := h k (List.mem_range.2 hlt)
              rw [HZ.out, HY.out] at this
              exact absurd this (by decide)
            go_wp2_with fail
            go_ret
            exact ⟨ret_bool HF.out.symm, ext_trans HB2.out HB4.out⟩
          · have HAL : Hid (∀ m, m < k + 1 → (!BefJ l bl E m i || hasB q (mhi l m).h.block) = true) := upto (q := fun m => (!BefJ l bl E m i || hasB q (mhi l m).h.block) = true) hal.out (by rw [HY.out, Bool.or_true])
            go_wp2_with fail
            go_roundw
            case rel => exact ⟨k + 1, by omega, by go_num, HB4, HAL⟩
            case measure => simp [intOf]; omega
      · obtain rfl : k = l.length := by omega
        have HF : Hid (nextB (hl l) (BefJ l bl E) q i = true) := by
          show _ = _
          rw [HNB.out, Bool.not_false, Bool.true_and, List.all_eq_true]
          exact fun m hm => hal.out m (List.mem_range.1 hm)
        go_wp2_with fail
        go_ret
        exact ⟨ret_bool HF.out.symm, HBW.out⟩
  · have HF : Hid (nextB (hl l) (BefJ l bl E) q i = false) := by show _ = _; rw [HNB.out]; rfl
    go_wp2_with fail
    go_ret
    exact ⟨ret_bool HF.out.symm, ext_trans HB2.out HB3.out⟩
end Go.Proofs.YtfpnjbomlmhlpaaGreat

/- A region that draws its order: an entry is appended to a clone, a closure is called with it, and its answer is turned round. -/
namespace Go.Proofs.YtfpnjbomlmhlpaaGreat
open Go.RowKit

structure JBs (A B C D F : Nat) (w : World) (x : Ern) (q : List Ern) (Post : World → Bool → Prop) (s : Nat → Option Value) (u : World) : Prop where
  ac : s A = none → s C = none
  bc : s B = none → s C = none
  cd : s C = none → s D = none
  df : s D = none → s F = none
  a : ∀ v, s A = some v → s C = none → OwnEn u w.heap.size v q
  b : ∀ v, s B = some v → ∃ g, v = .slice (some ⟨g, 0, none⟩) 1 1 ∧ (s C = none → EnAt u g 0 x)
  c : ∀ v, s C = some v → s D = none → OwnEn u w.heap.size v (q ++ [x])
  d0 : s D = none → Below w.heap.size w u
  d : ∀ v, s D = some v → ∃ b, v = .bool b ∧ Post u b
  f : ∀ v, s F = some v → ∃ b, s D = some (.bool b) ∧ v = .bool (!b)
theorem JBs.below {A B C D F : Nat} {w : World} {x : Ern} {q : List Ern} {Post : World → Bool → Prop} {s : Nat → Option Value} {u u' : World} (hP : ∀ u u' b, Post u b → Below u.heap.size u u' → Post u' b) (h : JBs A B C D F w x q Post s u) (hb : Below u.heap.size u u') : JBs A B C D F w x q Post s u' :=
  ⟨h.ac, h.bc, h.cd, h.df, fun v hv hc => owns_below (h.a v hv hc) hb, fun v hv => by obtain ⟨g, e, k⟩ := h.b v hv; exact ⟨g, e, fun hc => (k hc).keep hb⟩, fun v hv hd => owns_below (h.c v hv hd) hb, fun hd => ext_trans (h.d0 hd) hb, fun v hv => by obtain ⟨b, e, k⟩ := h.d v hv; exact ⟨b, e, hP _ _ _ k hb⟩, h.f⟩
section
variable {a0 : Act} {ps : List (Nat × Nat)} {T : QTab} {E : List Ob} {hs : List (Nat × Hint)}
def evBs (a0 : Act) (E : List Ob) (nL nF : Nat) (lv fv : Value) (nA nB nC nD nE : Nat) (Post : World → Bool → Prop) (outs : List (Nat × Value)) (Q : Act → World → Prop) (ops : List Oper) (S : List Ent) : Prop :=
  (argsAt E S [nL] [lv] ∧ slotAt a0 E ops S nF fv) ∧ ∀ (f : Nat → Value) (b : Bool), match a0 with
    | ⟨⟨l⟩, d⟩ => finS E outs f S l fun l' => f nD = .bool b → f nE = .bool (!b) → setsN f [nA, nB, nC, nD, nE] l' fun l'' => ∀ w', Post w' b → Q ⟨l''.toArray, d⟩ w'
theorem wp_region_bs {id : Nat} {Q : Exit → Act → World → Prop} {w : World} {ops : List Oper} (T : QTab) (hT : T.Ok) (E : List Ob) (ps : List (Nat × Nat)) (hs : List (Nat × Hint)) (outs : List (Nat × Value))
    (A B C D F nA nB nC nD nE nX nL nF : Nat) (G H : FuncId) (caps : Array Value) (lv : Value) (x : Ern) (q : List Ern) (Post : World → Bool → Prop)
    (hz : (ops.all fun o => match o.dst with | some n => decide (n < a0.tmps.size) | none => true) = true) (hm : Tryz.prog.follows .mixedOrders = true)
    (hst : (ordB ops.toArray && nodB (dstsL ops) && chkB ops.toArray (quietL [A, B, C, D, F] 0 ops) && depB [A, B, C, D, F] ops.toArray) = true)
    (hsp : spD [A, B, C, D, F] 0 ops = [nA, nB, nC, nD, nE]) (hah : aheadB [A, B, C, D, F] ops D = true) (hne : [A, B, C, D, F].Nodup)
    (hA : ∃ o c, ops[A]? = some o ∧ o.op = .call c ∧ c.callee = .value (.func G) ∧ c.args.toList = [.tmp nL] ∧ o.dst = some nA)
    (hB : ∃ o, ops[B]? = some o ∧ o.op = .buildSlice 40 1 #[(0, .tmp nX)] ∧ o.dst = some nB)
    (hC : ∃ o, ops[C]? = some o ∧ o.op = .call { callee := .builtin .append, args := #[.tmp nA, .tmp nB], argTypes := #[40, 40] } ∧ o.dst = some nC ∧ (∃ e ∈ o.after, e.on = A ∧ Region.binds .any e = true) ∧ ∃ e ∈ o.after, e.on = B ∧ Region.binds .any e = true)
    (hD : ∃ o c, ops[D]? = some o ∧ o.op = .call c ∧ c.callee = .value (.tmp nF) ∧ c.args.toList = [.tmp nC] ∧ o.dst = some nD ∧ ∃ e ∈ o.after, e.on = C ∧ Region.binds .any e = true)
    (hF : ∃ o t, ops[F]? = some o ∧ o.op = .unOp .not t (.tmp nD) ∧ o.dst = some nE ∧ ∃ e ∈ o.after, e.on = D ∧ Region.binds .any e = true)
    (henG : ∀ args w, (callFunc G args).run Tryz.prog w = .ok (.enter G args) w) (henH : ∀ args w, (callFunc H args).run Tryz.prog w = .ok (.enter H args) w)
    (hclone : ∀ u, Below w.heap.size w u → Calls Tryz.prog G #[lv] u fun e u' => ∃ v', e = .returned v' ∧ OwnEn u' u.heap.size v' q ∧ Below u.heap.size u u')
    (hrec : ∀ u v, Below w.heap.size w u → OwnEn u w.heap.size v (q ++ [x]) → Calls Tryz.prog H (#[v] ++ caps) u fun e u' => ∃ b, e = .returned (.bool b) ∧ Post u' b)
    (hP : ∀ u u' b, Post u b → Below u.heap.size u u' → Post u' b) (hq : q.length ≤ 900000)
    (hE : ObsIn (Below w.heap.size w) E) (P : psOk a0 E ps)
    (h : evL a0 ps T E (Below w.heap.size w) (fun u u' => Below u.heap.size u u') hs ops (fun S => slotAt a0 E ops S nX (.agg (enA x)) ∧ evBs a0 E nL nF lv (.func (.func H) #[] caps) nA nB nC nD nE Post outs (Q .normal) ops S) (quietL [A, B, C, D, F] 0 ops) []) : (Code.region id ops.toArray true).wp Tryz.prog Q a0 w := by
  obtain ⟨oA, cA, hA1, hA2, hA3, hA4, hA5⟩ := hA
  obtain ⟨oB, hB1, hB2, hB3⟩ := hB
  obtain ⟨oC, hC1, hC2, hC3, ⟨eA, hC4, hC5, hC6⟩, eB, hC7, hC8, hC9⟩ := hC
  obtain ⟨oD, cD, hD1, hD2, hD3, hD3', hD3'', eD, hD4, hD5, hD6⟩ := hD
  obtain ⟨oF, tF, hF1, hF2, hF3, eF, hF4, hF5, hF6⟩ := hF
  have ne : A ≠ B ∧ A ≠ C ∧ A ≠ D ∧ A ≠ F ∧ B ≠ C ∧ B ≠ D ∧ B ≠ F ∧ C ≠ D ∧ C ≠ F ∧ D ≠ F := by
    simp only [List.nodup_cons, List.mem_cons, List.not_mem_nil, or_false, not_or] at hne
    obtain ⟨⟨a1, a2, a3, a4⟩, ⟨b1, b2, b3⟩, ⟨c1, c2⟩, d1, _⟩ := hne
    exact ⟨a1, a2, a3, a4, b1, b2, b3, c1, c2, d1⟩
  obtain ⟨nAB, nAC, nAD, nAF, nBC, nBD, nBF, nCD, nCF, nDF⟩ := ne
  have hst' := hst
  simp only [Bool.and_eq_true] at hst'
  obtain ⟨⟨⟨s1, s2⟩, s3⟩, s4⟩ := hst'
  have hsub : ∀ o ∈ quietL [A, B, C, D, F] 0 ops, o ∈ ops := fun o ho => by obtain ⟨k, hk, _⟩ := mem_quietL ho; exact List.mem_of_getElem? hk
  obtain ⟨S, Hh, af, I, ⟨g0, ⟨g1, g2⟩, h2⟩, f1, f2, f3⟩ := evL_fin P hT hE hz _ [] [] a0 hsub s3 InvQ.start h
  have slotV : ∀ {o : Oper} {a : Act} {n : Nat} {v : Value}, slotAt a0 E ops S n v → n ∈ o.looksAt ops.toArray → (∀ m ∈ o.looksAt ops.toArray, ∀ e, lookS S m = some e → e.path = [] → a.eval (.tmp m) = e.sw.den E) → (∀ m, m ∉ dstsL ops → a.eval (.tmp m) = a0.eval (.tmp m)) → a.eval (.tmp n) = v := by
    intro o a n v hs hl hq hold
    unfold slotAt at hs
    split at hs
    · rename_i m s' hl'
      rw [← hs]; exact hq n hl _ hl' rfl
    · cases hs
    · rw [hold n (by simpa using hs.1)]; exact hs.2
  refine mix_coreD [A, B, C, D, F] E (fun _ => True) (fun u u' => Below u.heap.size u u') outs (JBs A B C D F w x q Post) hz hm hst (Below w.heap.size w) (fun i hi hs L s u hL hl hn _ hj => hj.d0 (hn D (ahead_spec hah hi hs hL hl)))
    trivial ⟨fun _ => rfl, fun _ => rfl, fun _ => rfl, fun _ => rfl, fun v hv => (by cases hv), fun v hv => (by cases hv), fun v hv => (by cases hv), fun _ => (Below.refl _ _).drew, fun v hv => (by cases hv), fun v hv => (by cases hv)⟩ (fun _ _ _ _ => trivial) (fun u _ => Below.refl _ _) (fun s u u' _ hj hb => hj.below hP hb) I ⟨⟨?_, ?_, ?_, ?_, ?_, trivial⟩, fun f s hsv => ?_⟩ f1 f2 f3
  · intro o a u s ho _ hJ hn hq' _ hdep K hK
    rw [hA1] at ho; cases ho
    have hx : cA.args.toList.map a.eval = [lv] := by
      rw [hA4]
      refine argsAt_map (ns := [nL]) g1 fun n hn' => hq' n ?_
      rw [List.mem_singleton] at hn'
      subst hn'
      unfold Oper.looksAt
      refine List.mem_append_left _ (List.mem_filterMap.2 ⟨.tmp n, ?_, rfl⟩)
      rw [hA2]
      unfold Op.operands
      have : Operand.tmp n ∈ cA.args.toList := by rw [hA4]; simp
      simp only [Call.operands, hA3]; simp at this; simp [this]
    have hsC := hJ.ac hn
    have hsD := hJ.cd hsC
    refine wp_of_enter (enters_call hA2 hA3 hx henG u) ((hclone u (hJ.d0 hsD)).mono fun e u' ⟨v, he, ho, hb⟩ => ⟨_, he, ?_⟩)
    have hJ' := hJ.below hP hb
    refine hK _ _ trivial ⟨fun h => (by rw [updS_same] at h; cases h), fun h => ?_, fun h => ?_, fun h => ?_, fun v' hv' _ => ?_, fun v' hv' => ?_, fun v' hv' hd => ?_, fun hd => hJ'.d0 hsD, fun v' hv' => ?_, fun v' hv' => ?_⟩
    · rw [updS_other (Ne.symm nAC)]; exact hsC
    · rw [updS_other (Ne.symm nAD)]; exact hsD
    · rw [updS_other (Ne.symm nAF)]; exact hJ.df hsD
    · rw [updS_same] at hv'; cases hv'; exact OwnEn.mono ho (hJ.d0 hsD).size
    · rw [updS_other (Ne.symm nAB)] at hv'
      obtain ⟨g, e1, e2⟩ := hJ'.b v' hv'
      exact ⟨g, e1, fun _ => e2 hsC⟩
    · rw [updS_other (Ne.symm nAC), hsC] at hv'; cases hv'
    · rw [updS_other (Ne.symm nAD), hsD] at hv'; cases hv'
    · rw [updS_other (Ne.symm nAF), hJ.df hsD] at hv'; cases hv'
  · intro o a u s ho _ hJ hn hq' hold hdep K hK
    rw [hB1] at ho; cases ho
    have hx : a.eval (.tmp nX) = .agg (enA x) := slotV g0 (by unfold Oper.looksAt; rw [hB2]; simp [Op.operands]) hq' hold
    have hsC := hJ.bc hn
    have hsD := hJ.cd hsC
    have hb : Below u.heap.size u (u.alloc (.cells (enA x) 72)) := (Below.refl _ _).alloc (Nat.le_refl _) _
    have hJ' := hJ.below hP hb
    refine wp_of_run (v := .slice (some ⟨u.heap.size, 0, none⟩) 1 1) (w' := u.alloc (.cells (enA x) 72)) ?_ ?_
    · unfold execOp; simp only [hB2, List.map_toArray, List.map_cons, List.map_nil, hx, Sem.run_bind, build_one_En]; rfl
    refine hK _ _ trivial ⟨fun h => ?_, fun h => (by rw [updS_same] at h; cases h), fun h => ?_, fun h => ?_, fun v' hv' _ => ?_, fun v' hv' => ?_, fun v' hv' hd => ?_, fun hd => hJ'.d0 hsD, fun v' hv' => ?_, fun v' hv' => ?_⟩
    · rw [updS_other (Ne.symm nBC)]; exact hsC
    · rw [updS_other (Ne.symm nBD)]; exact hsD
    · rw [updS_other (Ne.symm nBF)]; exact hJ.df hsD
    · rw [updS_other nAB] at hv'; exact hJ'.a v' hv' hsC
    · rw [updS_same] at hv'; cases hv'
      exact ⟨_, rfl, fun _ => enC (ObjAt.new u (enA x) 72)⟩
    · rw [updS_other (Ne.symm nBC), hsC] at hv'; cases hv'
    · rw [updS_other (Ne.symm nBD), hsD] at hv'; cases hv'
    · rw [updS_other (Ne.symm nBF), hJ.df hsD] at hv'; cases hv'
  · intro o a u s ho _ hJ hn hq' hold hdep K hK
    rw [hC1] at ho; cases ho
    obtain ⟨va, va1, va2⟩ := hdep eA hC4 hC6 (by rw [hC5]; simp)
    rw [hC5] at va1 va2
    obtain ⟨vb, vb1, vb2⟩ := hdep eB hC7 hC9 (by rw [hC8]; simp)
    rw [hC8] at vb1 vb2
    obtain ⟨g, e1, e2⟩ := hJ.b vb vb1
    have hxa : a.eval (.tmp nA) = va := va2 oA nA hA1 hA5
    have hxb : a.eval (.tmp nB) = .slice (some ⟨g, 0, none⟩) 1 1 := (vb2 oB nB hB1 hB3).trans e1
    have hsD := hJ.cd hn
    have hbl := hJ.d0 hsD
    have hown := hJ.a va va1 hn
    refine wp_app_En (.tmp nA) (.tmp nB) hC2 w.heap.size va q [x] hxa hown ⟨g, 0, none⟩ 1 1 hxb (sEn_one (e2 hn)) (by simp; omega) hbl.size fun v' u' a1 a2 a3 => ?_
    refine hK _ _ trivial ⟨fun h => ?_, fun h => ?_, fun h => (by rw [updS_same] at h; cases h), fun h => ?_, fun v'' hv'' hc => (by rw [updS_same] at hc; cases hc), fun v'' hv'' => ?_, fun v'' hv'' _ => ?_, fun _ => hbl.grown a2 hbl.size (fun r hr => (OwnEn.lt hown r hr).1), fun v'' hv'' => ?_, fun v'' hv'' => ?_⟩
    · rw [updS_other nAC, va1] at h; cases h
    · rw [updS_other nBC, vb1] at h; cases h
    · rw [updS_other (Ne.symm nCF)]; exact hJ.df hsD
    · rw [updS_other nBC] at hv''
      obtain ⟨g', q1, _⟩ := hJ.b v'' hv''
      exact ⟨g', q1, fun h => (by rw [updS_same] at h; cases h)⟩
    · rw [updS_same] at hv''; cases hv''; exact a1
    · rw [updS_other (Ne.symm nCD), hsD] at hv''; cases hv''
    · rw [updS_other (Ne.symm nCF), hJ.df hsD] at hv''; cases hv''
  · intro o a u s ho _ hJ hn hq' hold hdep K hK
    rw [hD1] at ho; cases ho
    obtain ⟨v, v1, v2⟩ := hdep eD hD4 hD6 (by rw [hD5]; simp)
    rw [hD5] at v1 v2
    have hx : a.eval (.tmp nC) = v := v2 oC nC hC1 hC3
    have hf : a.eval (.tmp nF) = .func (.func H) #[] caps := slotV g2 (by unfold Oper.looksAt; rw [hD2]; simp [Op.operands, Call.operands, hD3]) hq' hold
    have hent : (execOp a.eval oD).run Tryz.prog u = .ok (.enter H (#[v] ++ caps)) u := by
      have e1 : cD.args.map a.eval = #[v] := by
        apply Array.ext'
        rw [Array.toList_map, hD3']
        simp [hx]
      unfold execOp
      simp only [hD2, resolve, hD3, e1, hf, Deferred.ofValue, Sem.run_bind, Sem.run_pure, Result.andThen_ok, invoke, Array.empty_append, henH]
    refine wp_of_enter hent ((hrec u v (hJ.d0 hn) (hJ.c v v1 hn)).mono fun e u' ⟨b, he, hp⟩ => ⟨_, he, ?_⟩)
    have hC' : ∀ j, j ≠ D → updS s D (.bool b) j = s j := fun j hj => updS_other hj
    refine hK _ _ trivial ⟨fun h => ?_, fun h => ?_, fun h => ?_, fun h => (by rw [updS_same] at h; cases h), fun v' hv' hc => ?_, fun v' hv' => ?_, fun v' hv' hd => (by rw [updS_same] at hd; cases hd), fun hd => (by rw [updS_same] at hd; cases hd), fun v' hv' => ?_, fun v' hv' => ?_⟩
    · rw [hC' _ nAD] at h; rw [hC' _ nCD]; exact hJ.ac h
    · rw [hC' _ nBD] at h; rw [hC' _ nCD]; exact hJ.bc h
    · rw [hC' _ nCD, v1] at h; cases h
    · rw [hC' _ nCD, v1] at hc; cases hc
    · rw [hC' _ nBD] at hv'
      obtain ⟨g', q1, _⟩ := hJ.b v' hv'
      exact ⟨g', q1, fun h => (by rw [hC' _ nCD, v1] at h; cases h)⟩
    · rw [updS_same] at hv'; cases hv'; exact ⟨b, rfl, hp⟩
    · rw [hC' _ (Ne.symm nDF), hJ.df hn] at hv'; cases hv'
  · intro o a u s ho _ hJ hn hq' hold hdep K hK
    rw [hF1] at ho; cases ho
    obtain ⟨v, v1, v2⟩ := hdep eF hF4 hF6 (by rw [hF5]; simp)
    rw [hF5] at v1 v2
    obtain ⟨b, rfl, hp⟩ := hJ.d v v1
    have hx : a.eval (.tmp nD) = .bool b := v2 oD nD hD1 hD3''
    refine wp_of_run (v := .bool (!b)) (w' := u) ?_ ?_
    · unfold execOp; simp only [hF2, hx, Sem.run_bind]; rfl
    have hC' : ∀ j, j ≠ F → updS s F (.bool (!b)) j = s j := fun j hj => updS_other hj
    refine hK _ _ trivial ⟨fun h => ?_, fun h => ?_, fun h => ?_, fun h => ?_, fun v' hv' hc => ?_, fun v' hv' => ?_, fun v' hv' hd => ?_, fun hd => ?_, fun v' hv' => ?_, fun v' hv' => ?_⟩
    · rw [hC' _ nAF] at h; rw [hC' _ nCF]; exact hJ.ac h
    · rw [hC' _ nBF] at h; rw [hC' _ nCF]; exact hJ.bc h
    · rw [hC' _ nCF] at h; rw [hC' _ nDF]; exact hJ.cd h
    · rw [hC' _ nDF, v1] at h; cases h
    · rw [hC' _ nAF] at hv'; rw [hC' _ nCF] at hc; exact hJ.a v' hv' hc
    · rw [hC' _ nBF] at hv'
      obtain ⟨g', q1, q2⟩ := hJ.b v' hv'
      exact ⟨g', q1, fun h => q2 (by rw [hC' _ nCF] at h; exact h)⟩
    · rw [hC' _ nCF] at hv'; rw [hC' _ nDF] at hd; exact hJ.c v' hv' hd
    · rw [hC' _ nDF, v1] at hd; cases hd
    · rw [hC' _ nDF] at hv'; exact hJ.d v' hv'
    · rw [updS_same] at hv'; cases hv'
      exact ⟨b, by rw [hC' _ nDF]; exact v1, rfl⟩
  · obtain ⟨vD, d1, d2⟩ := hsv D (by simp) oD hD1
    obtain ⟨vF, e1, e2⟩ := hsv F (by simp) oF hF1
    obtain ⟨⟨l⟩, d⟩ := a0
    dsimp only at h2 ⊢
    rw [hsp]
    by_cases hb : ∃ b, vD = .bool b ∧ vF = .bool (!b)
    · obtain ⟨b, rfl, rfl⟩ := hb
      refine finS_mono (fun l' hl' => ?_) (h2 f b)
      have hl' := hl' (d2 nD hD3'').symm (e2 nE hF3).symm
      rw [setsN_eq] at hl' ⊢
      intro w' _ hJ
      obtain ⟨b', e3, hp⟩ := hJ.d _ d1
      cases e3
      exact hl' w' hp
    · refine finS_mono (fun l' _ => ?_) (h2 f true)
      rw [setsN_eq]
      intro w' _ hJ
      obtain ⟨b', e3, e4⟩ := hJ.f _ e1
      rw [d1] at e3
      exact absurd ⟨b', Option.some.inj e3, e4⟩ hb
end
end Go.Proofs.YtfpnjbomlmhlpaaGreat

/- The search of Best: what it works with. -/
namespace Go.Proofs.YtfpnjbomlmhlpaaGreat
open Go.RowKit

/-- all but three blocks is as it was -/
structure Fr3 (x y z : Nat) (w w' : World) : Prop where
  os : w'.os = w.os
  tape : w'.tape = w.tape
  output : w'.output = w.output
  size : w.heap.size ≤ w'.heap.size
  block : ∀ k, k < w.heap.size → k ≠ x → k ≠ y → k ≠ z → w'.heap[k]? = w.heap[k]?
section
variable {x y z : Nat} {w w' w'' : World}
theorem Fr3.refl : Fr3 x y z w w := ⟨rfl, rfl, rfl, Nat.le_refl _, fun _ _ _ _ _ => rfl⟩
theorem Fr3.of (h : Below w.heap.size w w') : Fr3 x y z w w' := ⟨h.os, h.tape, h.output, h.size, fun k hk _ _ _ => h.block k hk⟩
theorem Fr3.trans (h : Fr3 x y z w w') (g : Fr3 x y z w' w'') : Fr3 x y z w w'' :=
  ⟨g.os.trans h.os, g.tape.trans h.tape, g.output.trans h.output, Nat.le_trans h.size g.size, fun k hk a b c => (g.block k (Nat.lt_of_lt_of_le hk h.size) a b c).trans (h.block k hk a b c)⟩
theorem Fr3.thenB (h : Fr3 x y z w w') (g : Below w'.heap.size w' w'') : Fr3 x y z w w'' := h.trans (Fr3.of g)
theorem Fr3.set {b : Nat} (hb : b = x ∨ b = y ∨ b = z) (k : Nat) (v : Value) : Fr3 x y z w (w.setCell ⟨b, k, none⟩ v) :=
  ⟨rfl, rfl, rfl, by simp [World.setCell], fun j _ h1 h2 h3 => Below.heap_setCell _ _ _ _ (fun e => by
    have e : j = b := e
    rcases hb with rfl | rfl | rfl
    · exact h1 e
    · exact h2 e
    · exact h3 e)⟩
theorem Fr3.below {n : Nat} (h : Fr3 x y z w w') (hn : n ≤ w.heap.size) (hx : n ≤ x) (hy : n ≤ y) (hz : n ≤ z) : Below n w w' :=
  ⟨h.os, h.tape, h.output, h.size, fun k hk => h.block k (by omega) (by omega) (by omega) (by omega)⟩
theorem Fr3.obj {b : Nat} {xs : Array Value} {e : TypeId} (h : Fr3 x y z w w') (o : ObjAt w b xs e) (hx : b ≠ x) (hy : b ≠ y) (hz : b ≠ z) : ObjAt w' b xs e := (h.block b o.lt hx hy hz).trans o
theorem Fr3.cell {b o : Nat} {v : Value} (h : Fr3 x y z w w') (hc : w.cell? ⟨b, o, none⟩ = some v) (hx : b ≠ x) (hy : b ≠ y) (hz : b ≠ z) : w'.cell? ⟨b, o, none⟩ = some v := by
  rw [← hc]; unfold World.cell?; dsimp only; rw [h.block b (World.block_lt_of_cell? w _ hc) hx hy hz]
end
/-- no string in a variable of another type -/
theorem ne_var {w : World} {b a o : Nat} {c : Value} {ty : TypeId} {s : ByteArray} (ho : ObjAt w b #[c] ty) (hc : w.cell? ⟨a, o, none⟩ = some (.string s)) (h : ∀ s, c ≠ .string s) : a ≠ b := by
  intro e; subst e
  rw [ho.cell] at hc
  match o, hc with
  | 0, hc => cases hc; exact h s rfl
  | o + 1, hc => simp at hc
theorem SEn.fr3 {x y z : Nat} {w w' : World} {lv : Value} {q : List Ern} {cx cy cz : Value} {tx ty tz : TypeId} (h : SEn w lv q) (f : Fr3 x y z w w') (ox : ObjAt w x #[cx] tx) (oy : ObjAt w y #[cy] ty) (oz : ObjAt w z #[cz] tz) (hx : ∀ s, cx ≠ .string s) (hy : ∀ s, cy ≠ .string s) (hz : ∀ s, cz ≠ .string s) : SEn w' lv q := by
  obtain ⟨a, cap, rfl, h1, h2, h3⟩ := h
  refine ⟨a, cap, rfl, h1, h2, fun i hi => ?_⟩
  obtain ⟨b, off, e, c⟩ := h3 i hi
  have n1 := ne_var ox c.c0 hx
  have n2 := ne_var oy c.c0 hy
  have n3 := ne_var oz c.c0 hz
  exact ⟨b, off, e, f.cell c.c0 n1 n2 n3, f.cell c.c1 n1 n2 n3, f.cell c.c2 n1 n2 n3, f.cell c.c3 n1 n2 n3⟩
/-- the blocks of the search's variables: the hall's, the best one's, what is left, whether there is one, the search itself, the jobs' -/
structure BsN where
  hb : Nat
  b10 : Nat
  b11 : Nat
  b12 : Nat
  b13 : Nat
  b14 : Nat
  b5 : Nat
def BsN.caps (n : BsN) : Array Value := #[.pointer (some ⟨n.b13, 0, none⟩), .pointer (some ⟨n.b11, 0, none⟩), .pointer (some ⟨n.b5, 0, none⟩), .pointer (some ⟨n.b12, 0, none⟩), .pointer (some ⟨n.b10, 0, none⟩), .pointer (some ⟨n.b14, 0, none⟩)]
structure BsE (W1 : World) (n : BsN) (l : List MH) (bl : List (List UInt8)) (E : Edg) (fr : Int) (u : World) (fv : Bool) (left : Int) (bv : Value) (bq : List Ern) : Prop where
  bw : Below W1.heap.size W1 u
  o10 : ObjAt u n.b10 #[.pointer (some ⟨n.hb, 0, none⟩)] 61
  o11 : ObjAt u n.b11 #[bv] 40
  o12 : ObjAt u n.b12 #[.int .i64 left] 3
  o13 : ObjAt u n.b13 #[.bool fv] 4
  o14 : ObjAt u n.b14 #[.func (.func 41) #[] n.caps] 87
  sb : SEn u bv bq
  ok : fv = true → Reach (hl l) (BefJ l bl E) fr bq ∧ bq.length = l.length
theorem BsE.keep {W1 : World} {n : BsN} {l : List MH} {bl : List (List UInt8)} {E : Edg} {fr : Int} {u u' : World} {fv : Bool} {left : Int} {bv : Value} {bq : List Ern} (h : BsE W1 n l bl E fr u fv left bv bq) (hb : Below u.heap.size u u') : BsE W1 n l bl E fr u' fv left bv bq :=
  ⟨ext_trans h.bw hb, h.o10.keep hb, h.o11.keep hb, h.o12.keep hb, h.o13.keep hb, h.o14.keep hb, h.sb.keep hb, h.ok⟩
/-- the three that are written lie behind what was there -/
structure BsL (W1 : World) (n : BsN) : Prop where
  a : W1.heap.size ≤ n.b11
  b : W1.heap.size ≤ n.b12
  c : W1.heap.size ≤ n.b13
section
variable {W1 : World} {n : BsN} {l : List MH} {bl : List (List UInt8)} {E : Edg} {fr : Int} {u : World} {fv : Bool} {left : Int} {bv : Value} {bq : List Ern}
theorem BsE.sn (h : BsE W1 n l bl E fr u fv left bv bq) {u' : World} (f : Fr3 n.b11 n.b12 n.b13 u u') {lv : Value} {q : List Ern} (hs : SEn u lv q) : SEn u' lv q := by
  obtain ⟨a, c, e, _⟩ := h.sb
  exact hs.fr3 f h.o11 h.o12 h.o13 (fun s e2 => by rw [e] at e2; cases e2) (fun s e2 => by cases e2) (fun s e2 => by cases e2)
/-- one less is left -/
theorem BsE.less (h : BsE W1 n l bl E fr u fv left bv bq) (hL : BsL W1 n) (z : Int) : BsE W1 n l bl E fr (u.setCell ⟨n.b12, 0, none⟩ (.int .i64 z)) fv z bv bq := by
  have f : Fr3 n.b11 n.b12 n.b13 u (u.setCell ⟨n.b12, 0, none⟩ (.int .i64 z)) := Fr3.set (.inr (.inl rfl)) _ _
  exact ⟨below_setCell h.bw hL.b _ _, h.o10.other (obj_ne h.o10 h.o12 (by decide)) _ _, h.o11.other (obj_ne h.o11 h.o12 (by decide)) _ _, h.o12.set 0 _, h.o13.other (obj_ne h.o13 h.o12 (by decide)) _ _, h.o14.other (obj_ne h.o14 h.o12 (by decide)) _ _, h.sn f h.sb, h.ok⟩
/-- a better one -/
theorem BsE.best (h : BsE W1 n l bl E fr u fv left bv bq) (hL : BsL W1 n) {v : Value} {q : List Ern} (hs : SEn u v q) (hr : Reach (Go.Proofs.YtfpnjbomlmhlpaaGreat.hl l) (BefJ l bl E) fr q ∧ q.length = l.length) : BsE W1 n l bl E fr ((u.setCell ⟨n.b11, 0, none⟩ v).setCell ⟨n.b13, 0, none⟩ (.bool true)) true left v q := by
  have f1 : Fr3 n.b11 n.b12 n.b13 u (u.setCell ⟨n.b11, 0, none⟩ v) := Fr3.set (.inl rfl) _ _
  have f2 : Fr3 n.b11 n.b12 n.b13 (u.setCell ⟨n.b11, 0, none⟩ v) ((u.setCell ⟨n.b11, 0, none⟩ v).setCell ⟨n.b13, 0, none⟩ (.bool true)) := Fr3.set (.inr (.inr rfl)) _ _
  have e0 := obj_ne h.o10 h.o11 (by decide)
  have e1 := obj_ne h.o10 h.o13 (by decide)
  have e2 := obj_ne h.o11 h.o13 (by decide)
  have e3 := obj_ne h.o12 h.o11 (by decide)
  have e4 := obj_ne h.o12 h.o13 (by decide)
  have e5 := obj_ne h.o14 h.o11 (by decide)
  have e6 := obj_ne h.o14 h.o13 (by decide)
  exact ⟨below_setCell (below_setCell h.bw hL.a _ _) hL.c _ _, (h.o10.other e0 _ _).other e1 _ _, (h.o11.set 0 v).other e2 _ _, (h.o12.other e3 _ _).other e4 _ _, (h.o13.other (Ne.symm e2) _ _).set 0 _, (h.o14.other e5 _ _).other e6 _ _, h.sn (f1.trans f2) hs, fun _ => hr⟩
theorem BsE.fr3 (_ : BsE W1 n l bl E fr u fv left bv bq) {v : Value} : Fr3 n.b11 n.b12 n.b13 u ((u.setCell ⟨n.b11, 0, none⟩ v).setCell ⟨n.b13, 0, none⟩ (.bool true)) := (Fr3.set (.inl rfl) _ _).trans (Fr3.set (.inr (.inr rfl)) _ _)
end
/-- what the search leaves -/
def BsP (W1 : World) (n : BsN) (l : List MH) (bl : List (List UInt8)) (E : Edg) (fr : Int) (q : List Ern) (fv : Bool) (bq : List Ern) (u u' : World) (b : Bool) : Prop :=
  ∃ fv' left' bv' bq', BsE W1 n l bl E fr u' fv' left' bv' bq' ∧ Fr3 n.b11 n.b12 n.b13 u u' ∧ ImpS fv bq fv' bq' ∧ (b = true → 0 ≤ left' ∧ left' ≤ 100000 ∧ DoneS (hl l) (BefJ l bl E) fr q fv' bq')
theorem BsP.keep {W1 : World} {n : BsN} {l : List MH} {bl : List (List UInt8)} {E : Edg} {fr : Int} {q : List Ern} {fv : Bool} {bq : List Ern} {u u' u'' : World} {b : Bool} (h : BsP W1 n l bl E fr q fv bq u u' b) (hb : Below u'.heap.size u' u'') : BsP W1 n l bl E fr q fv bq u u'' b := by
  obtain ⟨f, z, v, r, h1, h2, h3, h4⟩ := h
  exact ⟨f, z, v, r, h1.keep hb, h2.thenB hb, h3, h4⟩
/-- what stays -/
structure BsW (W1 : World) (n : BsN) (ja : Option Addr) (jc : Nat) (l : List MH) (fr : Int) (bv ov : Value) (bl : List (List UInt8)) (E : Edg) : Prop where
  h : HallJ W1 n.hb ja jc l fr bv ov bl E
  j : W1.cell? ⟨n.b5, 0, none⟩ = some (.slice ja l.length jc)
  L : BsL W1 n
  J : JobsR (hl l) bl
  f0 : 0 ≤ fr
  f1 : fr ≤ 1048576
theorem enter_search : ∀ args w, (callFunc 41 args).run Tryz.prog w = .ok (.enter 41 args) w := enters_of Tryz.func41 (by kernel_rfl) rfl
theorem enter_clone : ∀ args w, (callFunc 42 args).run Tryz.prog w = .ok (.enter 42 args) w := enters_of Tryz.func42 (by kernel_rfl) rfl
/-- the loops of the search -/
structure BsR (W1 : World) (n : BsN) (l : List MH) (bl : List (List UInt8)) (E : Edg) (fr : Int) (q : List Ern) (fv : Bool) (bq : List Ern) (u wr : World) (k m : Nat) (fv' : Bool) (left' : Int) (bv' : Value) (bq' : List Ern) : Prop where
  e : BsE W1 n l bl E fr wr fv' left' bv' bq'
  f : Fr3 n.b11 n.b12 n.b13 u wr
  im : ImpS fv bq fv' bq'
  l0 : 0 ≤ left'
  l1 : left' ≤ 100000
  dn : ∀ i, i < k → nextB (hl l) (BefJ l bl E) q i = true → ∀ c ∈ (mhi l i).h.cranes, DoneS (hl l) (BefJ l bl E) fr (q ++ [planned (hl l) (BefJ l bl E) fr q i c]) fv' bq'
  dm : ∀ c ∈ (mhi l k).h.cranes.take m, DoneS (hl l) (BefJ l bl E) fr (q ++ [planned (hl l) (BefJ l bl E) fr q k c]) fv' bq'
section
variable {W1 : World} {n : BsN} {l : List MH} {bl : List (List UInt8)} {E : Edg} {fr : Int} {q : List Ern} {fv : Bool} {bq : List Ern} {u wr wr' : World} {k m : Nat} {fv' : Bool} {left' : Int} {bv' : Value} {bq' : List Ern}
theorem BsR.keep (h : BsR W1 n l bl E fr q fv bq u wr k m fv' left' bv' bq') (hb : Below wr.heap.size wr wr') : BsR W1 n l bl E fr q fv bq u wr' k m fv' left' bv' bq' := ⟨h.e.keep hb, h.f.thenB hb, h.im, h.l0, h.l1, h.dn, h.dm⟩
theorem BsR.skip (h : BsR W1 n l bl E fr q fv bq u wr k 0 fv' left' bv' bq') (hn : nextB (hl l) (BefJ l bl E) q k = false) : BsR W1 n l bl E fr q fv bq u wr (k + 1) 0 fv' left' bv' bq' :=
  ⟨h.e, h.f, h.im, h.l0, h.l1, fun i hi hx c hc => by
    by_cases e : i = k
    · subst e; rw [hn] at hx; cases hx
    · exact h.dn i (by omega) hx c hc, fun c hc => by rw [List.take_zero] at hc; cases hc⟩
theorem BsR.over (h : BsR W1 n l bl E fr q fv bq u wr k (mhi l k).h.cranes.length fv' left' bv' bq') : BsR W1 n l bl E fr q fv bq u wr (k + 1) 0 fv' left' bv' bq' :=
  ⟨h.e, h.f, h.im, h.l0, h.l1, fun i hi hx c hc => by
    by_cases e : i = k
    · subst e; exact h.dm c (by rw [List.take_length]; exact hc)
    · exact h.dn i (by omega) hx c hc, fun c hc => by rw [List.take_zero] at hc; cases hc⟩
/-- behind a call that went well -/
theorem BsR.step (h : BsR W1 n l bl E fr q fv bq u wr k m fv' left' bv' bq') (hm : m < (mhi l k).h.cranes.length) (hp : BsP W1 n l bl E fr (q ++ [planned (hl l) (BefJ l bl E) fr q k (mhi l k).h.cranes[m]]) fv' bq' wr wr' true) :
    ∃ fv'' left'' bv'' bq'', BsR W1 n l bl E fr q fv bq u wr' k (m + 1) fv'' left'' bv'' bq'' := by
  obtain ⟨fv'', left'', bv'', bq'', h1, h2, h3, h4⟩ := hp
  obtain ⟨a1, a2, a3⟩ := h4 rfl
  refine ⟨fv'', left'', bv'', bq'', h1, h.f.trans h2, h.im.trans h3, a1, a2, fun i hi hx c hc => (h.dn i hi hx c hc).imp h3, fun c hc => ?_⟩
  rw [List.take_succ_eq_append_getElem hm] at hc
  rcases List.mem_append.1 hc with hc | hc
  · exact (h.dm c hc).imp h3
  · rw [List.mem_singleton.1 hc]; exact a3
/-- behind one that stopped -/
theorem BsR.stop (h : BsR W1 n l bl E fr q fv bq u wr k m fv' left' bv' bq') {q' : List Ern} (hp : BsP W1 n l bl E fr q' fv' bq' wr wr' false) : BsP W1 n l bl E fr q fv bq u wr' false := by
  obtain ⟨fv'', left'', bv'', bq'', h1, h2, h3, _⟩ := hp
  exact ⟨fv'', left'', bv'', bq'', h1, h.f.trans h2, h.im.trans h3, fun h => by cases h⟩
end
theorem BsP.pre {W1 : World} {n : BsN} {l : List MH} {bl : List (List UInt8)} {E : Edg} {fr : Int} {q : List Ern} {fv : Bool} {bq : List Ern} {u0 u u' : World} {b : Bool} (h : BsP W1 n l bl E fr q fv bq u u' b) (hb : Below u0.heap.size u0 u) : BsP W1 n l bl E fr q fv bq u0 u' b := by
  obtain ⟨f, z, v, r, h1, h2, h3, h4⟩ := h
  exact ⟨f, z, v, r, h1, (Fr3.of hb).trans h2, h3, h4⟩
/-- the search answers, behind a plan -/
def SearchAt (W1 : World) (n : BsN) (l : List MH) (bl : List (List UInt8)) (E : Edg) (fr : Int) (q : List Ern) : Prop := ∀ (lv : Value) (u : World) (fv : Bool) (left : Int) (bv : Value) (bq : List Ern), BsE W1 n l bl E fr u fv left bv bq → SEn u lv q → 0 ≤ left → left ≤ 100000 →
    Calls Tryz.prog 41 (#[lv] ++ n.caps) u fun e u' => ∃ b, e = .returned (.bool b) ∧ BsP W1 n l bl E fr q fv bq u u' b
set_option maxRecDepth 100000 in
set_option maxHeartbeats 2000000 in
theorem search_step (W1 : World) (n : BsN) (ja : Option Addr) (jc : Nat) (l : List MH) (fr : Int) (rv ov : Value) (bl : List (List UInt8)) (E : Edg) (hW : BsW W1 n ja jc l fr rv ov bl E) (q : List Ern) (hR : Reach (hl l) (BefJ l bl E) fr q) (ih : ∀ q', Reach (hl l) (BefJ l bl E) fr q' → q'.length = q.length + 1 → SearchAt W1 n l bl E fr q') : SearchAt W1 n l bl E fr q := by
  intro lv u fv left bv bq hE hq l0 l1
  have HE := Lib.hid hE
  have HQ := Lib.hid hq
  have HW := Lib.hid hW
  have HIH := Lib.hid ih
  have hlen := hR.len hW.J.ok
  rw [hl_len] at hlen
  have hfew := hW.J.few
  rw [hl_len] at hfew
  obtain ⟨qa, qc, rfl, _⟩ := id hq
  obtain ⟨va, vc, rfl, _⟩ := id hE.sb
  have HJC : Hid (∀ u', Below W1.heap.size W1 u' → u'.cell? ⟨n.b5, 0, none⟩ = some (.slice ja l.length jc)) := fun u' h => cell_keep h hW.j
  clear hE hq hW ih
  show Calls Tryz.prog 41 #[.slice qa q.length qc, .pointer (some ⟨n.b13, 0, none⟩), .pointer (some ⟨n.b11, 0, none⟩), .pointer (some ⟨n.b5, 0, none⟩), .pointer (some ⟨n.b12, 0, none⟩), .pointer (some ⟨n.b10, 0, none⟩), .pointer (some ⟨n.b14, 0, none⟩)] u _
  go_enter Tryz.func41, Tryz.ntmps41
  go_upto_region 1 with fail
  refine wp_region_ev sqT sqT_ok [⟨n.b13, 0, [.bool fv]⟩, ⟨n.b11, 0, [.slice va bq.length vc]⟩] (Below u.heap.size u) [(1, 0), (2, 1)] [(15, .ret (.int .i64 (endF q))), (17, .ret (.int .i64 (endF bq)))] [(19, .bool (fv && decide (endF bq ≤ endF q)))] (by kernel_rfl) mixed (by kernel_rfl) ((Below.refl _ _).drew)
    (obsC (fun v hv => rangeKeep (range_new HE.out.o13) hv) (obsC (fun v hv => rangeKeep (range_new HE.out.o11) hv) obsN)) ⟨rfl, rfl, trivial⟩ ?_
  conv => whnf
  refine And.intro (under_of fun v hv => ret_in (End_any _ _ v (HQ.out.keep hv)) hv) ?_
  conv => whnf
  refine And.intro (under_of fun v hv => ret_in (End_any _ _ v (HE.out.sb.keep hv)) hv) ?_
  conv => whnf
  intro f1
  conv => whnf
  refine And.intro rfl ?_
  conv => whnf
  intro w1 h1
  have HB1 := Lib.hid h1
  have HE1 := Lib.hid (HE.out.keep h1)
  have HQ1 := Lib.hid (HQ.out.keep h1)
  clear h1
  obtain ⟨z, hz⟩ : ∃ z, (fv && decide (endF bq ≤ endF q)) = z := ⟨_, rfl⟩
  have HZ := Lib.hid hz
  rw [hz]
  clear hz
  cases z
  rotate_left
  · have HP : Hid (BsP W1 n l bl E fr q fv bq u w1 true) := by
      have h := HZ.out
      rw [Bool.and_eq_true, decide_eq_true_eq] at h
      refine ⟨fv, left, _, bq, HE1.out, Fr3.of HB1.out, ImpS.refl _ _, fun _ => ⟨l0, l1, ?_⟩⟩
      rw [h.1]
      exact done_pruned HW.out.J.ok HW.out.f0 h.2
    go_wp2_with fail
    go_ret
    exact ⟨_, rfl, HP.out⟩
  · have c3 := HJC.out w1 HE1.out.bw
    by_cases hfull : q.length = l.length
    · have i1 : ((q.length : Int) == l.length) = true := by rw [beq_iff_eq]; omega
      have HFL := Lib.hid hfull
      clear hfull
      go_wp2_with fail
      refine (cloneE_any _ q w1 HQ1.out (by omega)).mono ?_
      rintro e w2 ⟨v2, rfl, ho2, h2⟩
      have HE2 := Lib.hid (HE1.out.keep h2)
      have HS2 := Lib.hid (OwnEn.s ho2)
      have HB2 := Lib.hid (ext_trans HB1.out h2)
      obtain ⟨xa, xc, rfl, _⟩ := id HS2.out
      have d1 : w2.cell? ⟨n.b11, 0, none⟩ = some (.slice va bq.length vc) := HE2.out.o11.cell 0
      have d2 := HE2.out.o11.frozen 0
      have d3 : w2.cell? ⟨n.b13, 0, none⟩ = some (.bool fv) := HE2.out.o13.cell 0
      have d4 := HE2.out.o13.frozen 0
      have hne : n.b13 ≠ n.b11 := obj_ne HE2.out.o13 HE2.out.o11 (by decide)
      have HP : Hid (BsP W1 n l bl E fr q fv bq u ((w2.setCell ⟨n.b11, 0, none⟩ (.slice xa q.length xc)).setCell ⟨n.b13, 0, none⟩ (.bool true)) true) := by
        refine ⟨true, left, _, q, HE2.out.best HW.out.L HS2.out ⟨hR, HFL.out⟩, (Fr3.of HB2.out).trans HE2.out.fr3, fun hf => ⟨rfl, ?_⟩, fun _ => ⟨l0, l1, done_leaf (by rw [hl_len]; exact HFL.out)⟩⟩
        have h := HZ.out
        rw [hf, Bool.true_and, decide_eq_false_iff_not] at h
        omega
      clear ho2 h2 c3
      go_wp2_with fail
      go_ret
      exact ⟨_, rfl, HP.out⟩
    · have i1 : ((q.length : Int) == l.length) = false := by rw [beq_eq_false_iff_ne]; omega
      have HFL : Hid (q.length < l.length) := by show _ < _; omega
      clear hfull
      have d1 : w1.cell? ⟨n.b12, 0, none⟩ = some (.int .i64 left) := HE1.out.o12.cell 0
      have d2 := HE1.out.o12.frozen 0
      have w4 : IntKind.i64.wrap (left - 1) = left - 1 := IntWalk.i64_in _ (by omega)
      obtain ⟨W2, hW2⟩ : ∃ W2, w1.setCell ⟨n.b12, 0, none⟩ (.int .i64 (left - 1)) = W2 := ⟨_, rfl⟩
      have HE2 : Hid (BsE W1 n l bl E fr W2 fv (left - 1) (.slice va bq.length vc) bq) := by show BsE ..; rw [← hW2]; exact HE1.out.less HW.out.L _
      have HF2 : Hid (Fr3 n.b11 n.b12 n.b13 u W2) := by show Fr3 ..; rw [← hW2]; exact (Fr3.of HB1.out).trans (Fr3.set (.inr (.inl rfl)) _ _)
      have HW2 := Lib.hid hW2
      clear hW2
      by_cases hneg : left - 1 < 0
      · have HP : Hid (BsP W1 n l bl E fr q fv bq u W2 false) := ⟨fv, left - 1, _, bq, HE2.out, HF2.out, ImpS.refl _ _, fun h => by cases h⟩
        go_upto_region 7 with fail
        rw [HW2.out]
        have e1 : W2.cell? ⟨n.b12, 0, none⟩ = some (.int .i64 (left - 1)) := HE2.out.o12.cell 0
        clear d1 d2 c3
        go_wp2_with fail
        go_ret
        exact ⟨_, rfl, HP.out⟩
      · go_upto_region 7 with fail
        rw [HW2.out]
        have e1 : W2.cell? ⟨n.b12, 0, none⟩ = some (.int .i64 (left - 1)) := HE2.out.o12.cell 0
        have c5 := HJC.out W2 HE2.out.bw
        clear d1 d2 c3 w4
        have HR2 : Hid (∃ fv' left' bv' bq', BsR W1 n l bl E fr q fv bq u W2 0 0 fv' left' bv' bq') := ⟨fv, left - 1, _, bq, HE2.out, HF2.out, ImpS.refl _ _, by omega, by omega, fun i hi => by omega, fun c hc => by rw [List.take_zero] at hc; cases hc⟩
        go_wp2_with fail
        clear e1 c5
        go_loopw [33] (fun i wr => ∃ k : Nat, k ≤ l.length ∧ i = .int .i64 k ∧ Hid (∃ fv' left' bv' bq', BsR W1 n l bl E fr q fv bq u wr k 0 fv' left' bv' bq')) (fun i _ => l.length - (intOf i).toNat)
        case atStart => exact ⟨0, Nat.zero_le _, rfl, HR2⟩
        case round =>
          obtain ⟨k, hk, rfl, hRR⟩ := hrel
          obtain ⟨fx, lx, bx, qx, hRR⟩ := hRR.out
          have HRR := Lib.hid hRR
          clear hRR
          by_cases hlt : k < l.length
          · have c10 : wr.cell? ⟨n.b10, 0, none⟩ = some (.pointer (some ⟨n.hb, 0, none⟩)) := HRR.out.e.o10.cell 0
            have HHJ := Lib.hid (HW.out.h.keep HRR.out.e.bw)
            have HQR := Lib.hid (HE.out.sn HRR.out.f HQ.out)
            go_wp2_with fail
            refine (next_any n.hb ja jc l fr rv ov bl E _ q k wr HHJ.out HQR.out hlt hfew).mono ?_
            rintro e w3 ⟨rfl, h3⟩
            have HR3 := Lib.hid (HRR.out.keep h3)
            clear h3 c10 HHJ HQR HRR
            obtain ⟨z, hz⟩ : ∃ z, nextB (hl l) (BefJ l bl E) q k = z := ⟨_, rfl⟩
            have HNX := Lib.hid hz
            rw [hz]
            clear hz
            cases z
            · have HRX : Hid (∃ fv' left' bv' bq', BsR W1 n l bl E fr q fv bq u w3 (k + 1) 0 fv' left' bv' bq') := ⟨_, _, _, _, HR3.out.skip HNX.out⟩
              go_wp2_with fail
              go_roundw
              case rel => exact ⟨k + 1, by omega, by go_num, HRX⟩
              case measure => simp [intOf]; omega
            · have c5 := HJC.out w3 HR3.out.e.bw
              have HH3 := Lib.hid (HW.out.h.keep HR3.out.e.bw)
              obtain ⟨ja', jc', e, _, _, j3⟩ := HH3.out.j
              cases e
              obtain ⟨jb, jo, rfl, hcj⟩ := j3 k hlt
              obtain ⟨ca, cc, hav, hsz⟩ := HW.out.h.c.form hlt
              obtain ⟨c0, c1, c2⟩ := hcj
              rw [hav] at c2
              obtain ⟨ca', cc', e, s1, s2, s3⟩ := hsz
              rw [List.length_map] at e s1 s3
              cases e
              have S3 : Hid (∀ m (hm : m < (mhi l k).h.cranes.length), ∃ b off, ca = some ⟨b, off, none⟩ ∧ W1.cell? ⟨b, off + m, none⟩ = some (.string (bs ((mhi l k).h.cranes[m]'hm)))) := fun m hm => by
                obtain ⟨b, off, e, c⟩ := s3 m hm
                exact ⟨b, off, e, c.trans (congrArg some (congrArg Value.string (zi_bs hm)))⟩
              have i2 : (k : Int) < l.length := by omega
              have hcl : (mhi l k).h.cranes.length ≤ 8 := (HW.out.J.cn _ (by unfold hl; exact List.mem_map_of_mem (mhi_mem hlt))).2
              have HR0 : Hid (∃ fv' left' bv' bq', BsR W1 n l bl E fr q fv bq u w3 k 0 fv' left' bv' bq') := ⟨_, _, _, _, HR3.out⟩
              have HB3 : Hid (Below W1.heap.size W1 w3) := HR3.out.e.bw
              clear hav s1 s2 s3 j3
              go_wp2_with fail
              clear c5 c0 c1 c2
              go_loopw [47] (fun i wr => ∃ m : Nat, m ≤ (mhi l k).h.cranes.length ∧ i = .int .i64 m ∧ Hid (∃ fv' left' bv' bq', BsR W1 n l bl E fr q fv bq u wr k m fv' left' bv' bq')) (fun i _ => (mhi l k).h.cranes.length - (intOf i).toNat)
              case atStart => exact ⟨0, Nat.zero_le _, rfl, HR0⟩
              case round =>
                obtain ⟨m, hm, rfl, hRR⟩ := hrel
                obtain ⟨fy, ly, by', qy, hRR⟩ := hRR.out
                have HRR := Lib.hid hRR
                clear hRR
                by_cases hlt2 : m < (mhi l k).h.cranes.length
                · obtain ⟨cb, co, rfl, hc⟩ := S3.out m hlt2
                  have hc' := cell_keep HRR.out.e.bw hc
                  have i3 : (m : Int) < (mhi l k).h.cranes.length := by omega
                  have HQR := Lib.hid (HE.out.sn HRR.out.f HQ.out)
                  have HHR := Lib.hid (HW.out.h.keep HRR.out.e.bw)
                  have HST := Lib.hid (reach_st HW.out.J HW.out.f0 HW.out.f1 hR hlt (mhi l k).h.cranes[m])
                  have HRN : Hid (Reach (hl l) (BefJ l bl E) fr (q ++ [planned (hl l) (BefJ l bl E) fr q k (mhi l k).h.cranes[m]])) := .snoc hR (by rw [hl_len]; exact hlt) HNX.out (by rw [hsi_ml hlt]; exact List.getElem_mem hlt2)
                  clear hc
                  go_upto_region 16 with fail
                  clear hc'
                  refine wp_region_bs sqT sqT_ok [⟨n.b14, 0, [.func (.func 41) #[] n.caps]⟩, ⟨n.b10, 0, [.pointer (some ⟨n.hb, 0, none⟩)]⟩] [(6, 0), (5, 1)] [(58, .ret (.agg (enA (planned (hl l) (BefJ l bl E) fr q k (mhi l k).h.cranes[m]))))] [] 2 8 9 10 11 53 59 60 61 62 58 52 51 42 41 n.caps (.slice qa q.length qc) (planned (hl l) (BefJ l bl E) fr q k (mhi l k).h.cranes[m]) q (fun w' b => BsP W1 n l bl E fr (q ++ [planned (hl l) (BefJ l bl E) fr q k (mhi l k).h.cranes[m]]) fy qy wr w' b)
                    (by kernel_rfl) mixed (by kernel_rfl) (by kernel_rfl) (by kernel_rfl) (by decide) ⟨_, _, rfl, rfl, rfl, rfl, rfl⟩ ⟨_, rfl, rfl, rfl⟩ ⟨_, rfl, rfl, rfl, ⟨⟨2, .data⟩, by simp, rfl, rfl⟩, ⟨8, .data⟩, by simp, rfl, rfl⟩ ⟨_, _, rfl, rfl, rfl, rfl, rfl, ⟨9, .data⟩, by simp, rfl, rfl⟩ ⟨_, _, rfl, rfl, rfl, ⟨10, .data⟩, by simp, rfl, rfl⟩
                    enter_clone enter_search (fun v hv => cloneE_any _ q v (HQR.out.keep hv) (by omega))
                    (fun v y hv ho => (HIH.out _ HRN.out (by rw [List.length_append]; rfl) y v fy ly by' qy (HRR.out.e.keep hv) (OwnEn.s ho) HRR.out.l0 HRR.out.l1).mono fun e u' ⟨b, h1, h2⟩ => ⟨b, h1, h2.pre hv⟩)
                    (fun _ _ _ h hb => h.keep hb) (by omega)
                    (obsC (fun v hv => rangeKeep (range_new HRR.out.e.o14) hv) (obsC (fun v hv => rangeKeep (range_new HRR.out.e.o10) hv) obsN)) ⟨rfl, rfl, trivial⟩ ?_
                  conv => whnf
                  refine And.intro (under_of fun v hv => planned_any n.hb _ jc l fr rv ov bl E _ q k _ v (HHR.out.keep hv) (HQR.out.keep hv) (reach_in HW.out.J.ok hR) hlt HST.out) ?_
                  conv => whnf
                  refine And.intro rfl ?_
                  refine And.intro ⟨⟨rfl, trivial⟩, rfl⟩ ?_
                  intro f2 b
                  conv => whnf
                  intro e1 e2
                  conv => whnf
                  intro w5 hp5
                  rw [e2]
                  cases b
                  · have HPX := Lib.hid (HRR.out.stop hp5)
                    clear hp5 HRR HQR HHR e1 e2
                    go_wp2_with fail
                    go_ret
                    exact ⟨_, rfl, HPX.out⟩
                  · have HRX := Lib.hid (HRR.out.step hlt2 hp5)
                    clear hp5 HRR HQR HHR e1 e2
                    go_wp2_with fail
                    go_roundw
                    case rel => exact ⟨m + 1, by omega, by go_num, HRX⟩
                    case measure => simp [intOf]; omega
                · obtain rfl : m = (mhi l k).h.cranes.length := by omega
                  have HRX : Hid (∃ fv' left' bv' bq', BsR W1 n l bl E fr q fv bq u wr (k + 1) 0 fv' left' bv' bq') := ⟨_, _, _, _, HRR.out.over⟩
                  go_wp2_with fail
                  go_roundw
                  case rel => exact ⟨k + 1, by omega, by go_num, HRX⟩
                  case measure => simp [intOf]; omega
          · obtain rfl : k = l.length := by omega
            have HPX : Hid (BsP W1 n l bl E fr q fv bq u wr true) := ⟨fx, lx, bx, qx, HRR.out.e, HRR.out.f, HRR.out.im, fun _ => ⟨HRR.out.l0, HRR.out.l1, done_all (by rw [hl_len]; exact HFL.out) fun i hi hx c hc => by
              rw [hl_len] at hi
              rw [hsi_ml hi] at hc
              exact HRR.out.dn i hi hx c hc⟩⟩
            go_wp2_with fail
            go_ret
            exact ⟨_, rfl, HPX.out⟩
theorem search_any (W1 : World) (n : BsN) (ja : Option Addr) (jc : Nat) (l : List MH) (fr : Int) (rv ov : Value) (bl : List (List UInt8)) (E : Edg) (hW : BsW W1 n ja jc l fr rv ov bl E) : ∀ (d : Nat) (q : List Ern), l.length - q.length ≤ d → Reach (hl l) (BefJ l bl E) fr q → SearchAt W1 n l bl E fr q
  | 0, q, hd, hR => search_step W1 n ja jc l fr rv ov bl E hW q hR fun q' h1 h2 => by
    have := h1.len hW.J.ok
    rw [hl_len] at this
    omega
  | d + 1, q, hd, hR => search_step W1 n ja jc l fr rv ov bl E hW q hR fun q' h1 h2 => search_any W1 n ja jc l fr rv ov bl E hW d q' (by omega) h1
end Go.Proofs.YtfpnjbomlmhlpaaGreat

/- Contract: Best of schedules. -/
namespace Go.Proofs.YtfpnjbomlmhlpaaGreat
open Go.RowKit

theorem obj_four (W : World) (a b c d : Array Value) (ta tb tc td : TypeId) : ∃ U, (((W.alloc (.cells a ta)).alloc (.cells b tb)).alloc (.cells c tc)).alloc (.cells d td) = U ∧ ObjAt U W.heap.size a ta ∧ ObjAt U (W.heap.size + 1) b tb ∧ ObjAt U (W.heap.size + 1 + 1) c tc ∧ ObjAt U (W.heap.size + 1 + 1 + 1) d td ∧ Below W.heap.size W U := by
  refine ⟨_, rfl, (((ObjAt.new W a ta).alloc _).alloc _).alloc _, ?_, ?_, ?_, ?_⟩
  · have := ((ObjAt.new (W.alloc (.cells a ta)) b tb).alloc (.cells c tc)).alloc (.cells d td)
    simpa using this
  · have := (ObjAt.new ((W.alloc (.cells a ta)).alloc (.cells b tb)) c tc).alloc (.cells d td)
    simpa using this
  · have := ObjAt.new (((W.alloc (.cells a ta)).alloc (.cells b tb)).alloc (.cells c tc)) d td
    simpa using this
  · exact ((((Below.refl _ _).alloc (Nat.le_refl _) _).alloc (by simp) _).alloc (by simp; omega) _).alloc (by simp; omega) _
set_option maxRecDepth 100000 in
set_option maxHeartbeats 2000000 in
theorem best_any (D : Des) (ns : List Nod) (es : List Nd) (ja : Option Addr) (jc : Nat) (l : List MH) (fr : Int) (bl : List (List UInt8)) (E : Edg) (w : World) (h : SchIn w D ns es (.slice ja l.length jc) l fr bl E) (h6 : l.length ≤ 6) :
    Calls Tryz.prog 12 #[.agg (desA D), .slice ja l.length jc, .int .i64 fr, .int .i64 100000] w fun e w' => (e = .returned (.tuple #[.slice none 0 0, .int .i64 29]) ∨ ∃ v q fv, e = .returned (.tuple #[v, .int .i64 0]) ∧ SEn w' v q ∧ DoneS (hl l) (BefJ l bl E) fr [] fv q ∧ (fv = true → Reach (hl l) (BefJ l bl E) fr q ∧ q.length = l.length)) ∧ Below w.heap.size w w' := by
  have HIN := Lib.hid h
  have HNH := Lib.hid (fun w' (hb : Below w.heap.size w w') => newHall_any D ns es ja jc l fr bl E w' (h.keep hb))
  clear h
  obtain ⟨W0, HO0, HB0, HW0, HZ0⟩ := boxD w D
  obtain ⟨W1, hW1⟩ : ∃ W1, W0.alloc (.cells #[.slice ja l.length jc] 33) = W1 := ⟨_, rfl⟩
  have hsz : W0.heap.size = w.heap.size + 1 := by rw [← HW0.out]; simp
  have HO1 : Hid (ObjAt W1 w.heap.size (desA D) 28) := by show ObjAt ..; rw [← hW1]; exact HO0.out.alloc _
  have HB1 : Hid (Below w.heap.size w W1) := by show Below ..; rw [← hW1]; exact HB0.out.alloc (Nat.le_of_lt HZ0.out) _
  have HJ1 : Hid (ObjAt W1 (w.heap.size + 1) #[.slice ja l.length jc] 33) := by show ObjAt ..; rw [← hsz, ← hW1]; exact ObjAt.new _ _ _
  have HW1 := Lib.hid hW1
  have d1 : ¬ ((6 : Int) < l.length) := by omega
  clear hW1 HO0 HB0 hsz
  unfold desA at HNH ⊢
  go_enter Tryz.func12, Tryz.ntmps12
  go_upto_region 1 with fail
  rw [HW0.out, HW1.out]
  clear HW0 HW1 HZ0
  obtain ⟨c0, c1, c2, c3, c4, c5⟩ := desC HO1.out
  have c6 : W1.cell? ⟨w.heap.size + 1, 0, none⟩ = some (.slice ja l.length jc) := HJ1.out.cell 0
  go_wp2_with fail
  refine (HNH.out W1 HB1.out).mono ?_
  rintro e w2 ⟨hb, bv, ov, rfl, hw, h1⟩
  have HB2 := Lib.hid (ext_trans HB1.out h1)
  have HJ2 := Lib.hid (HJ1.out.keep h1)
  have HH : Hid (HallJ w2 hb ja jc l fr bv ov bl E) := ⟨hw, HIN.out.hj.keep HB2.out, HIN.out.hc.keep HB2.out⟩
  clear c0 c1 c2 c3 c4 c5 c6 h1 hw HNH HO1 HB1 HJ1
  obtain ⟨W3, hW3⟩ : ∃ W3, w2.alloc (.cells #[.pointer (some ⟨hb, 0, none⟩)] 61) = W3 := ⟨_, rfl⟩
  have HO10 : Hid (ObjAt W3 w2.heap.size #[.pointer (some ⟨hb, 0, none⟩)] 61) := by show ObjAt ..; rw [← hW3]; exact ObjAt.new _ _ _
  have H23 : Hid (Below w2.heap.size w2 W3) := by show Below ..; rw [← hW3]; exact (Below.refl _ _).alloc (Nat.le_refl _) _
  have HS3 : Hid (W3.heap.size = w2.heap.size + 1) := by show _ = _; rw [← hW3]; simp
  have HW3 := Lib.hid hW3
  clear hW3
  have c6 : W3.cell? ⟨w.heap.size + 1, 0, none⟩ = some (.slice ja l.length jc) := (HJ2.out.keep H23.out).cell 0
  go_upto_region 4 with fail
  rw [HW3.out]
  clear HW3
  go_upto_region 10 with fail
  have hmx : (max (100000 : Int) 0) = 100000 := by decide
  rw [hmx]
  obtain ⟨U, hU, u1, u2, u3, u4, u5⟩ := obj_four W3 #[.slice none 0 0] #[.int .i64 100000] #[.bool false] #[.func (.func 41) #[] #[.pointer (some ⟨W3.heap.size + 1 + 1, 0, none⟩), .pointer (some ⟨W3.heap.size, 0, none⟩), .pointer (some ⟨w.heap.size + 1, 0, none⟩), .pointer (some ⟨W3.heap.size + 1, 0, none⟩), .pointer (some ⟨w2.heap.size, 0, none⟩), .pointer (some ⟨W3.heap.size + 1 + 1 + 1, 0, none⟩)]] 40 3 4 87
  rw [hU]
  have hB2U : Below w2.heap.size w2 U := ext_trans H23.out u5
  have HE : Hid (BsE w2 ⟨hb, w2.heap.size, W3.heap.size, W3.heap.size + 1, W3.heap.size + 1 + 1, W3.heap.size + 1 + 1 + 1, w.heap.size + 1⟩ l bl E fr U false 100000 (.slice none 0 0) []) :=
    ⟨hB2U, HO10.out.keep u5, u1, u2, u3, u4, SEn_nil _, fun h => by cases h⟩
  have HBW : Hid (BsW w2 ⟨hb, w2.heap.size, W3.heap.size, W3.heap.size + 1, W3.heap.size + 1 + 1, W3.heap.size + 1 + 1 + 1, w.heap.size + 1⟩ ja jc l fr bv ov bl E) :=
    ⟨HH.out, HJ2.out.cell 0, ⟨by have := HS3.out; show w2.heap.size ≤ W3.heap.size; omega, by have := HS3.out; show w2.heap.size ≤ W3.heap.size + 1; omega, by have := HS3.out; show w2.heap.size ≤ W3.heap.size + 1 + 1; omega⟩, HIN.out.hJ, HIN.out.f0, HIN.out.f1⟩
  have e14 : U.cell? ⟨W3.heap.size + 1 + 1 + 1, 0, none⟩ = some (.func (.func 41) #[] #[.pointer (some ⟨W3.heap.size + 1 + 1, 0, none⟩), .pointer (some ⟨W3.heap.size, 0, none⟩), .pointer (some ⟨w.heap.size + 1, 0, none⟩), .pointer (some ⟨W3.heap.size + 1, 0, none⟩), .pointer (some ⟨w2.heap.size, 0, none⟩), .pointer (some ⟨W3.heap.size + 1 + 1 + 1, 0, none⟩)]) := u4.cell 0
  clear hU u1 u2 u3 u4 u5 hB2U c6
  go_wp2_with fail
  refine (search_any w2 _ ja jc l fr bv ov bl E HBW.out l.length [] (by simp) .nil (.slice none 0 0) U false 100000 _ [] HE.out (SEn_nil _) (by decide) (by decide)).mono ?_
  rintro e w5 ⟨b, rfl, fv, left, bv', bq, k1, k2, k3, k4⟩
  have HB5 : Hid (Below w.heap.size w w5) := HB2.out.trans (k1.bw.mono HB2.out.size)
  have K := Lib.hid k1
  obtain ⟨xa, xc, rfl, _⟩ := id k1.sb
  have e11 : w5.cell? ⟨W3.heap.size, 0, none⟩ = some (.slice xa bq.length xc) := k1.o11.cell 0
  cases b
  · clear k1 k2 k3 k4 e14 e11
    go_wp2_with fail
    go_ret2
    exact ⟨.inl rfl, HB5.out⟩
  · have HK := Lib.hid (k4 rfl).2.2
    clear k1 k2 k3 k4 e14
    go_wp2_with fail
    go_ret2
    exact ⟨.inr ⟨_, bq, fv, rfl, K.out.sb, HK.out, K.out.ok⟩, HB5.out⟩
end Go.Proofs.YtfpnjbomlmhlpaaGreat
