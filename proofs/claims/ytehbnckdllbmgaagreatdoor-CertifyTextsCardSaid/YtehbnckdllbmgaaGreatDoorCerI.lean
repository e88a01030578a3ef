/- What the walk of Make's search wants: laws of operations on the maker; how the state of the search is kept. -/
import Derived.Test.YtehbnckdllbmgaaGreatDoorCerG
import Derived.Test.YtehbnckdllbmgaaGreatDoorRgt
set_option linter.unusedSimpArgs false
set_option linter.unusedVariables false

/- Contract: the station of Make's search; what the search changes. -/
namespace Go.Proofs.YtehbnckdllbmgaaGreatDoor
open Go.RowKit

/-- the maker in memory -/
def MkAt (w : World) (b : Nat) (pv : Value) (span left : Int) (vl : Value) : Prop := w.heap[b]? = some (.cells #[pv, .int .i64 span, .int .i64 left, vl] 72 (0, 0))
theorem MkAt.lt {w : World} {b : Nat} {pv : Value} {span left : Int} {vl : Value} (h : MkAt w b pv span left vl) : b < w.heap.size := (Array.getElem?_eq_some_iff.1 h).1
theorem MkAt.cell {w : World} {b : Nat} {pv : Value} {span left : Int} {vl : Value} (h : MkAt w b pv span left vl) (k : Nat) : w.cell? ⟨b, k, none⟩ = #[pv, .int .i64 span, .int .i64 left, vl][k]? := by
  rw [cell_of_row w b k #[pv, .int .i64 span, .int .i64 left, vl] 72 (0, 0) h]
theorem MkAt.frozen {w : World} {b : Nat} {pv : Value} {span left : Int} {vl : Value} (h : MkAt w b pv span left vl) (k : Nat) : w.frozen? ⟨b, k, none⟩ = false := by
  simp [World.frozen?, show w.heap[b]? = _ from h]
theorem MkAt.below {w w' : World} {n b : Nat} {pv : Value} {span left : Int} {vl : Value} (h : MkAt w b pv span left vl) (hb : Below n w w') (hn : b < n) : MkAt w' b pv span left vl := (hb.block b hn).trans h
theorem MkAt.ne {w : World} {b B : Nat} {pv : Value} {span left : Int} {vl v : Value} {e : TypeId} {s n : Nat} {xs : List Value} (h : MkAt w b pv span left vl) (ho : w.ownsRow B e s v n xs) (he : e ≠ 72) : v.ownBlock ≠ some b := by
  intro hv
  rcases ho.2 with ⟨rfl, _⟩ | ⟨g, cap, cur, rfl, _, hg, _⟩
  · cases hv
  · cases hv
    rw [show w.heap[g]? = _ from h] at hg
    simp at hg
    exact he hg.2.symm
theorem MkAt.spend {w : World} {b : Nat} {pv : Value} {span left : Int} {vl : Value} (h : MkAt w b pv span left vl) (x : Int) : MkAt (w.setCell ⟨b, 2, none⟩ (.int .i64 x)) b pv span x vl := by
  obtain ⟨hlt, hk⟩ := Array.getElem?_eq_some_iff.1 h
  show (w.heap.modify b _)[b]? = _
  rw [Array.getElem?_eq_getElem (by rw [Array.size_modify]; exact hlt), Array.getElem_modify_self, hk]
  rfl
theorem MkAt.put {w : World} {b : Nat} {pv : Value} {span left : Int} {vl : Value} (h : MkAt w b pv span left vl) (x : Value) : MkAt (w.setCell ⟨b, 3, none⟩ x) b pv span left x := by
  obtain ⟨hlt, hk⟩ := Array.getElem?_eq_some_iff.1 h
  show (w.heap.modify b _)[b]? = _
  rw [Array.getElem?_eq_getElem (by rw [Array.size_modify]; exact hlt), Array.getElem_modify_self, hk]
  rfl
/-- but for the maker and its cuts, all that was there is as it was -/
structure OutB (b : Nat) (vl : Value) (w w' : World) : Prop where
  os : w'.os = w.os
  tape : w'.tape = w.tape
  output : w'.output = w.output
  size : w.heap.size ≤ w'.heap.size
  block : ∀ k, k < w.heap.size → k ≠ b → vl.ownBlock ≠ some k → w'.heap[k]? = w.heap[k]?
/-- the cuts lie where they lay, or in a new block -/
def LinkB (vl vl' : Value) (n : Nat) : Prop := vl'.ownBlock = vl.ownBlock ∨ ∃ k, vl'.ownBlock = some k ∧ n ≤ k
theorem OutB.refl (b : Nat) (vl : Value) (w : World) : OutB b vl w w := ⟨rfl, rfl, rfl, Nat.le_refl _, fun _ _ _ _ => rfl⟩
theorem OutB.of_below {b : Nat} {vl : Value} {w w' : World} (h : Below w.heap.size w w') : OutB b vl w w' := ⟨h.os, h.tape, h.output, h.size, fun k hk _ _ => h.block k hk⟩
theorem OutB.trans {b : Nat} {vl vl' : Value} {x y z : World} (h : OutB b vl x y) (l : LinkB vl vl' x.heap.size) (g : OutB b vl' y z) : OutB b vl x z :=
  ⟨g.os.trans h.os, g.tape.trans h.tape, g.output.trans h.output, Nat.le_trans h.size g.size, fun k hk h1 h2 => (g.block k (Nat.lt_of_lt_of_le hk h.size) h1 (fun e => by
    rcases l with l | ⟨j, l, lj⟩
    · rw [l] at e; exact h2 e
    · rw [l] at e; cases e; omega)).trans (h.block k hk h1 h2)⟩
theorem LinkB.refl (vl : Value) (n : Nat) : LinkB vl vl n := .inl rfl
theorem LinkB.trans {u v z : Value} {m n : Nat} (h : LinkB u v m) (g : LinkB v z n) (hm : m ≤ n) : LinkB u z m := by
  rcases g with g | ⟨k, g, gk⟩
  · rcases h with h | ⟨k, h, hk⟩
    · exact .inl (g.trans h)
    · exact .inr ⟨k, g.trans h, hk⟩
  · exact .inr ⟨k, g, by omega⟩
theorem OutB.below {b B : Nat} {vl : Value} {w w' : World} (h : OutB b vl w w') (hb : B ≤ b) (hv : ∀ k, vl.ownBlock = some k → B ≤ k) (hw : B ≤ w.heap.size) : Below B w w' :=
  ⟨h.os, h.tape, h.output, h.size, fun k hk => h.block k (by omega) (by omega) (fun e => by have := hv k e; omega)⟩
theorem OutB.keepS {b : Nat} {vl : Value} {w w' : World} (h : OutB b vl w w') {S : Nat → Prop} (hS : ∀ k, S k → k < w.heap.size ∧ k ≠ b ∧ vl.ownBlock ≠ some k) : KeepS S w w' := fun k hk => h.block k (hS k hk).1 (hS k hk).2.1 (hS k hk).2.2
theorem OutB.setB {b : Nat} {vl : Value} {w : World} (k : Nat) (v : Value) : OutB b vl w (w.setCell ⟨b, k, none⟩ v) :=
  ⟨rfl, rfl, rfl, by simp [World.setCell], fun j _ hj _ => Below.heap_setCell _ _ _ _ (by dsimp only; omega)⟩
theorem OutB.keepsOthers {b : Nat} {vl pv : Value} {span left : Int} {l : List Cut} {B : Nat} {w w' : World} (h : OutB b vl w w') (hm : MkAt w b pv span left vl) (ho : OwnC w B vl l) : KeepsOthers w w' :=
  ⟨h.size, fun k o hk hc => by
    have hlt := (Array.getElem?_eq_some_iff.1 hk).1
    refine (h.block k hlt (fun e => ?_) (fun e => ?_)).trans hk
    · subst e; rw [show w.heap[k]? = _ from hm] at hk; cases hk; cases hc
    · obtain ⟨ps, _, h2, _⟩ := ho
      rcases h2.2 with ⟨rfl, _⟩ | ⟨g, cap, cur, rfl, _, hg, _⟩
      · cases e
      · cases e; rw [hg] at hk; cases hk; cases hc⟩
theorem OwnC.ne {w : World} {b B : Nat} {pv : Value} {span left : Int} {vl v : Value} {l : List Cut} (h : MkAt w b pv span left vl) (ho : OwnC w B v l) : v.ownBlock ≠ some b := by
  obtain ⟨ps, _, h2, _⟩ := ho; exact h.ne h2 (by decide)

/-- what the search may rely on -/
structure MkOk (w0 : World) (p : List (List Int)) (pv : Value) (b B : Nat) : Prop where
  ss : SS w0 pv p
  ok : checkE p = 0
  wB : w0.heap.size ≤ B
  Bb : B ≤ b

set_option maxHeartbeats 1000000 in
theorem station_any {w0 : World} {p : List (List Int)} {pv : Value} {b B : Nat} (H : MkOk w0 p pv b B) (span left : Int) (vl u : Value) (pre : List Int) (w : World) (hw : Below w0.heap.size w0 w) (hm : MkAt w b pv span left vl) (hu : SI w u pre) (hr : rightB p.length pre = true) (hl : pre.length < p.length) :
    Calls Tryz.prog 81 #[.pointer (some ⟨b, 0, none⟩), u] w fun e w' => e = .returned (.tuple #[.int .i64 ((stB p span pre).getD 0 : Nat), .bool (stB p span pre).isSome]) ∧ Below w.heap.size w w' := by
  have HP := Lib.hid (H.ss.keep hw)
  have HU := Lib.hid hu
  obtain ⟨ua, uc, rfl, _, _⟩ := hu.sl
  obtain ⟨pa, pc, rfl, _, _⟩ : ∃ a c, pv = .slice a p.length c ∧ p.length ≤ c ∧ c ≤ maxLen := by obtain ⟨vs, ⟨a, c, h1, h2, h3, _⟩, _⟩ := H.ss; exact ⟨a, c, h1, h2, h3⟩
  have HSM := Lib.hid (stP_le H.ss)
  have hst : stP p = (ri p 0).length := by unfold stP; rw [if_neg (by omega)]
  have c0 := hm.cell 0
  have c1 := hm.cell 1
  have HM := Lib.hid hm
  have hb := hm.lt
  have hBE : ∀ s : Nat, s < stP p → boundR p pre s = boundV p pre s := fun s hs => by
    rw [boundR_ok (boundE_ok H.ok (by rw [hr]; rintro (h | h | h | h) <;> first | cases h | omega)), Int.toNat_natCast]
  have HBE := Lib.hid hBE; have HST := Lib.hid hst
  have hs63 : stP p ≤ 9223372036854775807 := by have := HSM.out; unfold maxLen at this; omega
  simp at c0 c1
  clear hu hBE hst hm
  go_enter Tryz.func81, Tryz.ntmps81
  go_wp2_with fail
  refine (stations_any _ p w HP.out).mono ?_
  rintro e w1 ⟨rfl, m1, rfl⟩
  go_wp2_with fail
  go_loopw [14] (fun i wr => ∃ k : Nat, k ≤ stP p ∧ i = .int .i64 k ∧ Hid (Below w.heap.size w wr) ∧ Hid (∀ j, j < k → decide (span ≤ boundV p pre j) = false)) (fun i _ => stP p - (intOf i).toNat)
  case atStart => exact ⟨0, Nat.zero_le _, rfl, below_drewN' (Below.refl _ _) _, fun j hj => by omega⟩
  case round =>
    obtain ⟨k, hk, rfl, hbw, hall⟩ := hrel
    by_cases hlt : k < stP p
    · have d0 := cell_keep hbw.out c0
      go_wp2_with fail
      refine (Bound_any _ _ p pre k wr (HP.out.keep hbw.out) (HU.out.keep hbw.out)).mono ?_
      rintro e w2 ⟨rfl, hb2⟩
      have HB2 := Lib.hid (ext_trans hbw.out hb2); clear hb2
      have d1 := cell_keep HB2.out c1
      rw [HBE.out k hlt]
      by_cases hc : span ≤ boundV p pre k
      · have HV := Lib.hid (stB_hit (by rw [← HST.out]; exact hlt) hall.out hc)
        go_wp2_with fail
        go_ret2
        exact ⟨by rw [HV.out]; rfl, HB2.out⟩
      · have HN := Lib.hid (show decide (span ≤ boundV p pre k) = false by rw [decide_eq_false hc])
        go_wp2_with fail
        go_roundw
        case rel => exact ⟨k + 1, by omega, by go_num, HB2, upto hall.out HN.out⟩
        case measure => simp [intOf]; omega
    · obtain rfl : k = stP p := by omega
      have HV := Lib.hid (stB_miss (p := p) (span := span) (pre := pre) (fun j hj => hall.out j (by rw [HST.out]; exact hj)))
      go_wp2_with fail
      go_ret2
      exact ⟨by rw [HV.out]; rfl, hbw.out⟩
end Go.Proofs.YtehbnckdllbmgaaGreatDoor

/- What the walk of Make's search wants: laws of operations on the maker; how the state of the search is kept. -/
namespace Go.Proofs.YtehbnckdllbmgaaGreatDoor
open Go.RowKit Go.Shelf

section
variable {o : Oper} {a : Act} {w : World} {K : Act → World → Prop} {Q : Exit → Act → World → Prop}
theorem agg_pmaker (w : World) : (isAgg 70).run Tryz.prog w = .ok false w := by
  unfold isAgg; rw [Sem.run_bind, run_underlying Tryz.underlying70 w]; rfl
theorem agg_cuts (w : World) : (isAgg 26).run Tryz.prog w = .ok false w := by
  unfold isAgg; rw [Sem.run_bind, run_underlying Tryz.underlying26 w]; rfl
theorem size_cuts (w : World) : (sizeOf 26).run Tryz.prog w = .ok 1 w := by kernel_rfl
theorem vl_nil (x : Operand) (ho : o.op = .nilCheck x) (p : Addr) (hx : a.eval x = .pointer (some p)) (h : K (a.put o.dst (.pointer (some p))) w) : o.wp Tryz.prog a w K Q := by
  unfold Oper.wp execOp
  simp only [ho]
  generalize a.eval = ev at *
  go_simp
  exact h
theorem fa_maker (x : Operand) (k : Nat) (hk : k < 4) (ho : o.op = .fieldAddr 72 x k) (b off : Nat) (hx : a.eval x = .pointer (some ⟨b, off, none⟩)) (h : K (a.put o.dst (.pointer (some ⟨b, off + k, none⟩))) w) : o.wp Tryz.prog a w K Q := by
  have hc : k = 0 ∨ k = 1 ∨ k = 2 ∨ k = 3 := by omega
  unfold Oper.wp execOp
  rcases hc with rfl | rfl | rfl | rfl
  all_goals
    simp only [ho]
    generalize a.eval = ev at *
    go_simp
    exact h
theorem bd_cut (x y : Operand) (ho : o.op = .build 54 #[(0, x), (1, y)]) (u : Value) (s : Int) (hu : ∃ p n c, u = .slice p n c) (hx : a.eval x = u) (hy : a.eval y = .int .i64 s) (h : K (a.put o.dst (.agg #[u, .int .i64 s])) w) : o.wp Tryz.prog a w K Q := by
  obtain ⟨p, n, c, rfl⟩ := hu
  unfold Oper.wp execOp
  simp only [ho]
  generalize a.eval = ev at *
  go_simp
  exact h
theorem bs_cut (x : Operand) (ho : o.op = .buildSlice 26 1 #[(0, x)]) (u : Value) (s : Int) (hu : ∃ p n c, u = .slice p n c) (hx : a.eval x = .agg #[u, .int .i64 s])
    (h : K (a.put o.dst (.slice (some ⟨w.heap.size, 0, none⟩) 1 1)) (w.alloc (.cells #[u, .int .i64 s] 54))) : o.wp Tryz.prog a w K Q := by
  obtain ⟨p, n, c, rfl⟩ := hu
  unfold Oper.wp execOp
  simp only [ho]
  generalize a.eval = ev at *
  go_simp
  exact h
end
theorem OwnI.sl {w : World} {B : Nat} {v : Value} {r : List Int} (h : OwnI w B v r) : ∃ p n c, v = .slice p n c := by
  obtain ⟨p, c, e, _⟩ := h.si.sl; exact ⟨_, _, _, e⟩

theorem own_turn {W W' : World} {row : Option Nat} {B : Nat} {e : TypeId} {s n : Nat} {v : Value} {xs : List Value} (h : W.ownsRow B e s v n xs) (hg : W.grownBy W' row) (hr : ∀ r, row = some r → ∃ o : Obj, W.heap[r]? = some o ∧ o.isCells = false) : W'.ownsRow B e s v n xs :=
  World.ownsRow.kept h hg (by
    rcases h.2 with ⟨rfl, _⟩ | ⟨g, cap, cur, rfl, _, hgb, _⟩
    · exact .inl rfl
    · refine .inr fun e => ?_
      obtain ⟨o, ho, hc⟩ := hr g e.symm
      rw [hgb] at ho; cases ho; cases hc)
theorem OwnC.turn {W W' : World} {row : Option Nat} {B : Nat} {v : Value} {l : List Cut} (h : OwnC W B v l) (hg : W.grownBy W' row) (hr : ∀ r, row = some r → ∃ o : Obj, W.heap[r]? = some o ∧ o.isCells = false) : OwnC W' B v l := by
  obtain ⟨ps, h1, h2, h3⟩ := h
  exact ⟨ps, h1, own_turn h2 hg hr, fun p hp => own_turn (h3 p hp) hg hr⟩
theorem MkAt.turn {W W' : World} {row : Option Nat} {b : Nat} {pv : Value} {span left : Int} {vl : Value} (h : MkAt W b pv span left vl) (hg : W.grownBy W' row) (hr : ∀ r, row = some r → ∃ o : Obj, W.heap[r]? = some o ∧ o.isCells = false) : MkAt W' b pv span left vl :=
  (hg.block b h.lt (fun e => by obtain ⟨o, ho, hc⟩ := hr b e.symm; rw [show W.heap[b]? = _ from h] at ho; cases ho; cases hc)).trans h
theorem OutB.grown {b n : Nat} {vl : Value} {w W W' : World} (h : OutB b vl w W) (g : Below n W W') (hn : w.heap.size ≤ n) : OutB b vl w W' :=
  ⟨g.os.trans h.os, g.tape.trans h.tape, g.output.trans h.output, Nat.le_trans h.size g.size, fun k hk h1 h2 => (g.block k (by omega)).trans (h.block k hk h1 h2)⟩
theorem OutB.turn {b : Nat} {vl : Value} {w W W' : World} {row : Option Nat} (h : OutB b vl w W) (hg : W.grownBy W' row) (hr : ∀ r, row = some r → w.heap.size ≤ r) : OutB b vl w W' :=
  ⟨hg.os.trans h.os, hg.tape.trans h.tape, hg.output.trans h.output, Nat.le_trans h.size hg.size, fun k hk h1 h2 => (hg.block k (Nat.lt_of_lt_of_le hk h.size) (fun e => by have := hr k e.symm; omega)).trans (h.block k hk h1 h2)⟩
/-- cuts behind a store into a variable of a truth value -/
theorem OwnC.kept_box {W : World} {B C : Nat} {v x : Value} {l : List Cut} (h : OwnC W B v l) (bx : Boxed W C 4 x) (y : Value) : OwnC (W.setCell ⟨C, 0, none⟩ y) B v l := by
  obtain ⟨ps, h1, h2, h3⟩ := h
  exact ⟨ps, h1, World.ownsRow.kept h2 (grownBy_setCell' W C y) (.inr fun e => bx.not_row (by decide) h2 e.symm), fun p hp => World.ownsRow.kept (h3 p hp) (grownBy_setCell' W C y) (.inr fun e => bx.not_row (by decide) (h3 p hp) e.symm)⟩
theorem grownBy_setAny (W : World) (a : Addr) (v : Value) : W.grownBy (W.setCell a v) (some a.block) :=
  ⟨rfl, rfl, rfl, by simp [World.setCell], fun k _ hk => Below.heap_setCell _ _ _ _ (fun e => hk (by rw [e]))⟩
/-- cuts behind a store into the maker -/
theorem OwnC.kept_mk {W : World} {B b k : Nat} {v pv vl : Value} {span left : Int} {l : List Cut} (h : OwnC W B v l) (hm : MkAt W b pv span left vl) (y : Value) : OwnC (W.setCell ⟨b, k, none⟩ y) B v l := by
  obtain ⟨ps, h1, h2, h3⟩ := h
  exact ⟨ps, h1, World.ownsRow.kept h2 (grownBy_setAny W ⟨b, k, none⟩ y) (.inr fun e => hm.ne h2 (by decide) e), fun p hp => World.ownsRow.kept (h3 p hp) (grownBy_setAny W ⟨b, k, none⟩ y) (.inr fun e => hm.ne (h3 p hp) (by decide) e)⟩
theorem MkAt.other {W : World} {b C : Nat} {pv vl : Value} {span left : Int} (h : MkAt W b pv span left vl) (hne : b ≠ C) (y : Value) : MkAt (W.setCell ⟨C, 0, none⟩ y) b pv span left vl := (Below.heap_setCell _ _ _ _ (by dsimp only; omega)).trans h

/-- how under ends -/
def UndP (b B : Nat) (pv : Value) (span : Int) (vl : Value) (n : Nat) : Option MS → Ending → World → Prop
  | some st', e, w' => e = .returned (.bool true) ∧ ∃ vl', MkAt w' b pv span st'.left vl' ∧ OwnC w' B vl' st'.cuts ∧ LinkB vl vl' n
  | none, e, _ => e = .returned (.bool false)
/-- what under leaves -/
def ZU (b B : Nat) (pv : Value) (span : Int) (vl : Value) (n : Nat) : Option MS → World → Prop
  | some st', w' => ∃ vl', MkAt w' b pv span st'.left vl' ∧ OwnC w' B vl' st'.cuts ∧ LinkB vl vl' n
  | none, _ => True
theorem UndP.z {b B n : Nat} {pv : Value} {span : Int} {vl : Value} {r : Option MS} {e : Ending} {w : World} (h : UndP b B pv span vl n r e w) : e = .returned (.bool r.isSome) ∧ ZU b B pv span vl n r w := by
  cases r with
  | none => exact ⟨h, trivial⟩
  | some st => exact ⟨h.1, h.2⟩
theorem LinkB.mono {u v : Value} {m n : Nat} (h : LinkB u v n) (hm : m ≤ n) : LinkB u v m := h.elim .inl fun ⟨k, h1, h2⟩ => .inr ⟨k, h1, by omega⟩
theorem ZU.mono {b B m n : Nat} {pv : Value} {span : Int} {vl : Value} {r : Option MS} {w : World} (h : ZU b B pv span vl n r w) (hm : m ≤ n) : ZU b B pv span vl m r w := by
  cases r with
  | none => trivial
  | some st => obtain ⟨v, h1, h2, h3⟩ := h; exact ⟨v, h1, h2, h3.mono hm⟩
/-- the contract of under, f jobs being left -/
def UndC (w0 : World) (p : List (List Int)) (pv : Value) (span : Int) (b B f : Nat) : Prop := ∀ (st : MS) (pre : List Int) (u vl : Value) (w : World), pre.length + f = p.length → rightB p.length pre = true → st.cuts.length ≤ 20000 → st.left ≤ 100000 → Below w0.heap.size w0 w →
  MkAt w b pv span st.left vl → OwnC w B vl st.cuts → SI w u pre → (u = .slice none 0 0 ∨ ∃ a n c, u = .slice (some a) n c) → InS (fun k => k < w.heap.size ∧ k ≠ b ∧ vl.ownBlock ≠ some k) u →
  Calls Tryz.prog 51 #[.pointer (some ⟨b, 0, none⟩), u] w fun e w' => OutB b vl w w' ∧ UndP b B pv span vl w.heap.size (und p span f st pre) e w'
/-- between two rounds of the search -/
def UnI (p : List (List Int)) (pv : Value) (span : Int) (b B f : Nat) (st : MS) (pre : List Int) (u vl : Value) (h n : Nat) (W6 : World) (done : List (JobOf p.length pre)) (W : World) : Prop :=
  ∃ vl' st', Boxed W h 70 (.pointer (some ⟨b, 0, none⟩)) ∧ Boxed W (h + 1) 24 u ∧ Boxed W (h + 1 + 1) 4 (.bool false) ∧ OutB b vl W6 W ∧ LinkB vl vl' W6.heap.size ∧
    (∀ j, j ≤ p.length → uptoJ p.length pre j = done → triesM (undJob p span f pre) j st = some st') ∧ MkAt W b pv span st'.left vl' ∧ OwnC W B vl' st'.cuts ∧ st'.cuts.length ≤ 20000 ∧ st'.left ≤ 100000
theorem unI_own {p : List (List Int)} {pv : Value} {span : Int} {b B f : Nat} {st : MS} {pre : List Int} {u vl : Value} {h n : Nat} {W6 : World} : OwnFrom W6.heap.size (UnI p pv span b B f st pre u vl h n W6) := by
  rintro s A A' row ⟨vl', st', h1, h2, h3, h4, h5, h6, h7, h8, h9⟩ hg hr
  have hr' := fun r e => (hr r e).2
  exact ⟨vl', st', bx_own h1 hg hr', bx_own h2 hg hr', bx_own h3 hg hr', h4.turn hg (fun r e => (hr r e).1), h5, h6, h7.turn hg hr', h8.turn hg hr', h9⟩
theorem tries_skip {p : List (List Int)} {span : Int} {f : Nat} {pre : List Int} {st : MS} {x : Option MS} {i : Nat} : ∀ d, triesM (undJob p span f pre) i st = x → (∀ k, i ≤ k → k < i + d → pre.any (fun y => (k : Int) == y) = true) → triesM (undJob p span f pre) (i + d) st = x
  | 0, h, _ => h
  | d + 1, h, ha => by
    have h1 := tries_skip d h fun k h1 h2 => ha k h1 (by omega)
    have h2 := ha (i + d) (by omega) (by omega)
    cases x with
    | none => exact triesM_none h1 _ (by omega)
    | some st' => show triesM _ (i + d + 1) st = _; rw [triesM_succ h1, undJob_has h2]
theorem und_cuts (p : List (List Int)) (span : Int) : ∀ (f : Nat) (st : MS) (pre : List Int) (st' : MS), und p span f st pre = some st' → st.cuts.length ≤ 20000 → st'.cuts.length ≤ 20000
  | 0, st, pre, st', h, _ => (pushM_some h).2.2
  | f + 1, st, pre, st', h, hc => by
    cases hs : stB p span pre with
    | some s => rw [und_shown hs] at h; exact (pushM_some h).2.2
    | none =>
      by_cases h0 : st.left = 0
      · rw [und_none hs h0] at h; cases h
      · rw [und_tries hs h0] at h
        have key : ∀ k s1, triesM (undJob p span f pre) k (spendM st) = some s1 → s1.cuts.length ≤ 20000 := by
          intro k
          induction k with
          | zero => intro s1 e; cases e; exact hc
          | succ k ih =>
            intro s1 e
            cases e1 : triesM (undJob p span f pre) k (spendM st) with
            | none => simp [triesM, e1] at e
            | some s2 =>
              rw [triesM_succ e1] at e
              cases hh : pre.any fun y => (k : Int) == y
              · rw [undJob_new hh] at e; exact und_cuts p span f _ _ _ e (ih _ e1)
              · rw [undJob_has hh] at e; cases e; exact ih _ e1
        exact key _ _ h
end Go.Proofs.YtehbnckdllbmgaaGreatDoor
