/- What Plan of transport rests on: its moves, sorted; slices that writes elsewhere leave alone. -/
import Derived.Test.YtpbmmdoodmbneaaGreatDoorTrnA
import Derived.Test.YtpbmmdoodmbneaaGreatDoorTrnSpec
import Derived.Test.YtpbmmdoodmbneaaGreatDoorTrnApp
import Derived.Test.YtpbmmdoodmbneaaGreatDoorOps
import Derived.Test.YtpbmmdoodmbneaaGreatDoorGrown

/- Laws of single operations on moves, transporters and trips. -/
namespace Go.Proofs.YtpbmmdoodmbneaaGreatDoor
open Go.RowKit Go.Sort

section
variable {o : Oper} {a : Act} {w : World} {K : Act → World → Prop} {Q : Exit → Act → World → Prop}
theorem fa_truck (x : Operand) (k : Nat) (hk : k < 3) (ho : o.op = .fieldAddr 36 x k) (b off : Nat) (hx : a.eval x = .pointer (some ⟨b, off, none⟩)) (h : K (a.put o.dst (.pointer (some ⟨b, off + k, none⟩))) w) : o.wp Tryz.prog a w K Q := by
  have hc : k = 0 ∨ k = 1 ∨ k = 2 := by omega
  unfold Oper.wp execOp
  rcases hc with rfl | rfl | rfl
  all_goals
    simp only [ho, hx]
    go_simp
    exact h
theorem fa_trip (x : Operand) (k : Nat) (hk : k < 4) (ho : o.op = .fieldAddr 43 x k) (b off : Nat) (hx : a.eval x = .pointer (some ⟨b, off, none⟩)) (h : K (a.put o.dst (.pointer (some ⟨b, off + k, none⟩))) w) : o.wp Tryz.prog a w K Q := by
  have hc : k = 0 ∨ k = 1 ∨ k = 2 ∨ k = 3 := by omega
  unfold Oper.wp execOp
  rcases hc with rfl | rfl | rfl | rfl
  all_goals
    simp only [ho, hx]
    go_simp
    exact h
theorem ld_truck (x : Operand) (t : Trk) (b off : Nat) (ho : o.op = .load 36 x) (hx : a.eval x = .pointer (some ⟨b, off, none⟩)) (hb : KAt w b off t)
    (h : K (a.put o.dst (.agg #[.string (bs t.name), .int .i64 t.load, .int .i64 t.hours])) w) : o.wp Tryz.prog a w K Q := by
  obtain ⟨c0, c1, c2⟩ := hb
  unfold Oper.wp execOp
  simp only [ho]
  generalize a.eval = ev at *
  go_simp
  exact h
theorem bd_trip (x y z u : Operand) (p : Trp) (ho : o.op = .build 43 #[(0, x), (1, y), (2, z), (3, u)]) (hx : a.eval x = .string (bs p.item)) (hy : a.eval y = .string (bs p.truck)) (hz : a.eval z = .int .i64 p.start) (hu : a.eval u = .int .i64 p.fin)
    (h : K (a.put o.dst (.agg #[.string (bs p.item), .string (bs p.truck), .int .i64 p.start, .int .i64 p.fin])) w) : o.wp Tryz.prog a w K Q := by
  unfold Oper.wp execOp
  simp only [ho]
  generalize a.eval = ev at *
  go_simp
  exact h
theorem al_trip (ho : o.op = .alloc 43) (h : K (a.put o.dst (.pointer (some ⟨w.heap.size, 0, none⟩))) (w.alloc (.cells #[.string ⟨#[]⟩, .string ⟨#[]⟩, .int .i64 0, .int .i64 0] 43))) : o.wp Tryz.prog a w K Q := by
  unfold Oper.wp execOp
  simp only [ho]
  generalize a.eval = ev at *
  go_simp
  exact h
/-- four cells of a block that may be written -/
structure X4 (w : World) (b : Nat) : Prop where
  e0 : (w.cell? ⟨b, 0, none⟩).isSome = true
  e1 : (w.cell? ⟨b, 1, none⟩).isSome = true
  e2 : (w.cell? ⟨b, 2, none⟩).isSome = true
  e3 : (w.cell? ⟨b, 3, none⟩).isSome = true
  fz : ∀ j, w.frozen? ⟨b, j, none⟩ = false
/-- a trip is written into such a block -/
def setX (w : World) (b : Nat) (p : Trp) : World := (((w.setCell ⟨b, 0, none⟩ (.string (bs p.item))).setCell ⟨b, 1, none⟩ (.string (bs p.truck))).setCell ⟨b, 2, none⟩ (.int .i64 p.start)).setCell ⟨b, 3, none⟩ (.int .i64 p.fin)
theorem st_trip (x y : Operand) (p : Trp) (b : Nat) (ho : o.op = .store 43 x y) (hd : o.dst = none) (hx : a.eval x = .pointer (some ⟨b, 0, none⟩)) (hy : a.eval y = .agg #[.string (bs p.item), .string (bs p.truck), .int .i64 p.start, .int .i64 p.fin])
    (h4 : X4 w b) (h : K a (setX w b p)) : o.wp Tryz.prog a w K Q := by
  obtain ⟨e0, e1, e2, e3, fz⟩ := h4
  obtain ⟨v0, e0⟩ := Option.isSome_iff_exists.1 e0
  obtain ⟨v1, e1⟩ := Option.isSome_iff_exists.1 e1
  obtain ⟨v2, e2⟩ := Option.isSome_iff_exists.1 e2
  obtain ⟨v3, e3⟩ := Option.isSome_iff_exists.1 e3
  unfold setX at h
  unfold Oper.wp execOp
  simp only [ho]
  generalize a.eval = ev at *
  go_simp
  exact h
theorem ix_ints (x y : Operand) (b off n c : Nat) (i : Nat) (ho : o.op = .indexAddr 37 x y) (hx : a.eval x = .slice (some ⟨b, off, none⟩) n c) (hy : a.eval y = .int .i64 i) (hi : i < n) (hc : n ≤ c)
    (h : K (a.put o.dst (.pointer (some ⟨b, off + i, none⟩))) w) : o.wp Tryz.prog a w K Q := by
  have i1 : (i : Int) < n := by omega
  have i2 : (i : Int) < c := by omega
  unfold Oper.wp execOp
  simp only [ho]
  generalize a.eval = ev at *
  go_simp
  exact h
theorem ix_trips (x y : Operand) (b off n c : Nat) (i : Nat) (ho : o.op = .indexAddr 27 x y) (hx : a.eval x = .slice (some ⟨b, off, none⟩) n c) (hy : a.eval y = .int .i64 i) (hi : i < n) (hc : n ≤ c)
    (h : K (a.put o.dst (.pointer (some ⟨b, off + i * 4, none⟩))) w) : o.wp Tryz.prog a w K Q := by
  have i1 : (i : Int) < n := by omega
  have i2 : (i : Int) < c := by omega
  unfold Oper.wp execOp
  simp only [ho]
  generalize a.eval = ev at *
  go_simp
  exact h
theorem ix_moves (x y : Operand) (b off n c : Nat) (i : Nat) (ho : o.op = .indexAddr 24 x y) (hx : a.eval x = .slice (some ⟨b, off, none⟩) n c) (hy : a.eval y = .int .i64 i) (hi : i < n) (hc : n ≤ c)
    (h : K (a.put o.dst (.pointer (some ⟨b, off + i * 5, none⟩))) w) : o.wp Tryz.prog a w K Q := by
  have i1 : (i : Int) < n := by omega
  have i2 : (i : Int) < c := by omega
  unfold Oper.wp execOp
  simp only [ho]
  generalize a.eval = ev at *
  go_simp
  exact h
theorem mx_two (x y : Operand) (ho : o.op = .call { callee := .builtin .max, args := #[x, y], argTypes := #[3, 3] }) (p q : Int) (hx : a.eval x = .int .i64 p) (hy : a.eval y = .int .i64 q)
    (h : K (a.put o.dst (.int .i64 (max p q))) w) : o.wp Tryz.prog a w K Q := by
  unfold Oper.wp execOp
  simp only [ho]
  generalize a.eval = ev at *
  go_simp
  exact h
theorem vl_call4 (f : FuncId) (t1 t2 t3 t4 : TypeId) (x1 x2 x3 x4 : Operand) (ho : o.op = .call { callee := .value (.func f), args := #[x1, x2, x3, x4], argTypes := #[t1, t2, t3, t4] })
    (en : ∀ args w, (callFunc f args).run Tryz.prog w = .ok (.enter f args) w) (u1 u2 u3 u4 : Value) (h1 : a.eval x1 = u1) (h2 : a.eval x2 = u2) (h3 : a.eval x3 = u3) (h4 : a.eval x4 = u4) (h : Calls Tryz.prog f #[u1, u2, u3, u4] w fun e w' => ∃ v, e = .returned v ∧ K (a.put o.dst v) w') : o.wp Tryz.prog a w K Q := by
  have hf : a.eval (.func f) = .func (.func f) #[] #[] := rfl
  unfold Oper.wp execOp
  simp only [ho]
  generalize a.eval = ev at *
  go_simp
  refine h.mono ?_
  rintro e w' ⟨v, rfl, hk⟩
  exact hk
end
theorem enter_empty : ∀ args w, (callFunc 22 args).run Tryz.prog w = .ok (.enter 22 args) w := enters_of Tryz.func22 (by kernel_rfl) rfl
theorem enter_Hours : ∀ args w, (callFunc 14 args).run Tryz.prog w = .ok (.enter 14 args) w := enters_of Tryz.func14 (by kernel_rfl) rfl
end Go.Proofs.YtpbmmdoodmbneaaGreatDoor

/- What Plan of transport rests on: its moves, sorted; slices that writes elsewhere leave alone. -/
namespace Go.Proofs.YtpbmmdoodmbneaaGreatDoor
open Go.RowKit Go.Sort

theorem MAt.grown {w w' : World} {row : Option Nat} {g off : Nat} {x : Mov} (h : MAt w g off x) (hg : w.grownBy w' row) (hne : some g ≠ row) : MAt w' g off x := ⟨hg.cell h.c0 hne, hg.cell h.c1 hne, hg.cell h.c2 hne, hg.cell h.c3 hne, hg.cell h.c4 hne⟩
theorem KAt.grown {w w' : World} {row : Option Nat} {g off : Nat} {x : Trk} (h : KAt w g off x) (hg : w.grownBy w' row) (hne : some g ≠ row) : KAt w' g off x := ⟨hg.cell h.c0 hne, hg.cell h.c1 hne, hg.cell h.c2 hne⟩
theorem XAt.grown {w w' : World} {row : Option Nat} {g off : Nat} {x : Trp} (h : XAt w g off x) (hg : w.grownBy w' row) (hne : some g ≠ row) : XAt w' g off x := ⟨hg.cell h.c0 hne, hg.cell h.c1 hne, hg.cell h.c2 hne, hg.cell h.c3 hne⟩
/-- the block of a slice -/
def blkOf : Value → Option Nat
  | .slice (some ⟨b, _, _⟩) _ _ => some b
  | _ => none
theorem SM.grown {w w' : World} {row : Option Nat} {v : Value} {l : List Mov} (h : SM w v l) (hg : w.grownBy w' row) (hne : blkOf v = none ∨ blkOf v ≠ row) : SM w' v l := by
  obtain ⟨a, cap, rfl, h1, h2, h3⟩ := h
  refine ⟨a, cap, rfl, h1, h2, fun i hi => ?_⟩
  obtain ⟨b, off, rfl, hc⟩ := h3 i hi
  refine ⟨b, off, rfl, hc.grown hg ?_⟩
  rcases hne with e | e
  · cases e
  · exact e
theorem SM.blk_lt {w : World} {v : Value} {l : List Mov} (h : SM w v l) (hl : 1 ≤ l.length) {b : Nat} (hb : blkOf v = some b) : b < w.heap.size := by
  obtain ⟨b', off, cap, rfl, _, _, h4, _⟩ := h.form hl
  unfold blkOf at hb
  simp at hb
  omega
theorem OwnM.shape {w : World} {B : Nat} {v : Value} {l : List Mov} (h : OwnM w B v l) : (v = .slice none 0 0 ∧ l = []) ∨ ∃ g cap, v = .slice (some ⟨g, 0, none⟩) l.length cap ∧ B ≤ g ∧ g < w.heap.size := by
  rcases own_flat_form h with h | ⟨g, cap, e, h1, h2, _⟩
  · exact .inl h
  · exact .inr ⟨g, cap, e, h1, h2⟩
/-- the moves in the order of the plan -/
theorem sortC_any (v : Value) (ms : List Mov) (w : World) (B : Nat) (h : OwnM w B v ms) (hl : ms.length ≤ 100000) (hn : (ms.map Mov.item).Nodup) :
    Calls Tryz.prog 33 #[v, .func (.func 34) #[] #[]] w fun e w' => e = .returned (.tuple #[]) ∧ w.grownBy w' v.ownBlock ∧ SM w' v (srtM ms) := by
  rcases h.shape with ⟨rfl, rfl⟩ | ⟨g, cap, rfl, h1, h2⟩
  · refine (sortM_nil _ w).mono ?_
    rintro e w' ⟨rfl, rfl⟩
    exact ⟨rfl, World.grownBy.refl _ _, SM_nil _⟩
  · refine (sortM_any w B g _ cap ms h hl).mono ?_
    rintro e w' ⟨rfl, hg, ms', hp, hs, hm⟩
    refine ⟨rfl, hg, ?_⟩
    rw [← srtM_uniq hp hs hn]
    exact hm
theorem srtM_length (ms : List Mov) : (srtM ms).length = ms.length := (srtM_perm ms).length_eq
theorem below_own {w0 w w' : World} {row : Option Nat} (h : Below w0.heap.size w0 w) (hg : w.grownBy w' row) (hX : ∀ k, row = some k → w0.heap.size ≤ k) : Below w0.heap.size w0 w' :=
  h.grown hg h.size hX
theorem OwnX.kept {w w' : World} {B : Nat} {v : Value} {l : List Trp} {row : Option Nat} (h : OwnX w B v l) (hg : w.grownBy w' row) (hne : v.ownBlock = none ∨ v.ownBlock ≠ row) : OwnX w' B v l := World.ownsRow.kept h hg hne
theorem OwnX.shape {w : World} {B : Nat} {v : Value} {l : List Trp} (h : OwnX w B v l) : (v = .slice none 0 0 ∧ l = []) ∨ ∃ g cap, v = .slice (some ⟨g, 0, none⟩) l.length cap ∧ B ≤ g ∧ g < w.heap.size ∧ l.length ≤ cap := by
  rcases own_flat_form h with h | ⟨g, cap, e, h1, h2, h3, _⟩
  · exact .inl h
  · exact .inr ⟨g, cap, e, h1, h2, h3⟩
theorem OwnI.lenH {w : World} {B g n cap : Nat} {xs : List Int} (h : OwnI w B (.slice (some ⟨g, 0, none⟩) n cap) xs) : n = xs.length ∧ xs.length ≤ cap := by
  obtain ⟨a, c, he, h1, _⟩ := h.si
  simp at he
  exact ⟨he.2.1, by omega⟩
theorem OwnI.cellH {w : World} {B g n cap : Nat} {xs : List Int} (h : OwnI w B (.slice (some ⟨g, 0, none⟩) n cap) xs) {k : Nat} (hk : k < xs.length) : w.cell? ⟨g, k, none⟩ = some (.int .i64 (gi xs k)) := by
  obtain ⟨rfl, _⟩ := h.lenH
  have h' : w.ownsRow B 3 1 (.slice (some ⟨g, 0, none⟩) xs.length cap) xs.length (xs.map (Value.int .i64)) := h
  rw [h'.cellAt k (by omega), gi_lt hk]; simp [hk]
theorem OwnI.fzH {w : World} {B g n cap : Nat} {xs : List Int} (h : OwnI w B (.slice (some ⟨g, 0, none⟩) n cap) xs) (k : Nat) : w.frozen? ⟨g, k, none⟩ = false := by
  obtain ⟨rfl, _⟩ := h.lenH
  have h' : w.ownsRow B 3 1 (.slice (some ⟨g, 0, none⟩) xs.length cap) xs.length (xs.map (Value.int .i64)) := h
  exact h'.frozenAt k
theorem OwnI.setH {w : World} {B g n cap : Nat} {xs : List Int} (h : OwnI w B (.slice (some ⟨g, 0, none⟩) n cap) xs) (k : Nat) (x : Int) : OwnI (w.setCell ⟨g, k, none⟩ (.int .i64 x)) B (.slice (some ⟨g, 0, none⟩) n cap) (xs.set k x) := by
  obtain ⟨rfl, _⟩ := h.lenH
  have h' : w.ownsRow B 3 1 (.slice (some ⟨g, 0, none⟩) xs.length cap) xs.length (xs.map (Value.int .i64)) := h
  have := (h'.stored k (.int .i64 x)).1
  unfold OwnI
  rw [List.length_set, List.map_set]
  exact this
theorem OwnI.keptH {w w' : World} {B : Nat} {v : Value} {l : List Int} {row : Option Nat} (h : OwnI w B v l) (hg : w.grownBy w' row) (hne : v.ownBlock = none ∨ v.ownBlock ≠ row) : OwnI w' B v l := World.ownsRow.kept h hg hne
theorem grownBy_far {a b c : World} {row row' : Option Nat} (h : a.grownBy b row) (k : b.grownBy c row') (hr : ∀ n, row' = some n → a.heap.size ≤ n ∨ row = some n) : a.grownBy c row :=
  ⟨k.os.trans h.os, k.tape.trans h.tape, k.output.trans h.output, Nat.le_trans h.size k.size, fun i hi hn => (k.block i (Nat.lt_of_lt_of_le hi h.size) (fun e => by
    rcases hr i e.symm with q | q
    · omega
    · exact hn q.symm)).trans (h.block i hi hn)⟩
theorem OwnX.form {w : World} {B : Nat} {v : Value} {l : List Trp} (h : OwnX w B v l) : ∃ a c, v = .slice a l.length c ∧ l.length ≤ c := by
  rcases h.shape with ⟨rfl, rfl⟩ | ⟨g, cap, rfl, _, _, h⟩
  · exact ⟨_, _, rfl, Nat.le_refl _⟩
  · exact ⟨_, _, rfl, h⟩
theorem OwnX.blk_lt {w : World} {B : Nat} {v : Value} {l : List Trp} (h : OwnX w B v l) {M : Nat} (hM : w.heap.size ≤ M) : v.ownBlock = none ∨ v.ownBlock ≠ some M := by
  refine .inr fun e => ?_
  have := (h.lt M e).2; omega
/-- a block of four cells, when others are written -/
theorem X4.grown {w w' : World} {b : Nat} (h : X4 w b) (hg : w.grownBy w' none) (hb : b < w.heap.size) : X4 w' b := by
  have e := hg.block b hb (by simp)
  have hc : ∀ j, w'.cell? ⟨b, j, none⟩ = w.cell? ⟨b, j, none⟩ := fun j => World.cell?_of_block (a := ⟨b, j, none⟩) e
  have hf : ∀ j, w'.frozen? ⟨b, j, none⟩ = w.frozen? ⟨b, j, none⟩ := fun j => World.frozen?_of_block (a := ⟨b, j, none⟩) e
  exact ⟨by rw [hc]; exact h.e0, by rw [hc]; exact h.e1, by rw [hc]; exact h.e2, by rw [hc]; exact h.e3, fun j => by rw [hf]; exact h.fz j⟩
theorem X4.below {w w' : World} {b : Nat} (h : X4 w b) (hg : Below w.heap.size w w') (hb : b < w.heap.size) : X4 w' b := h.grown ⟨hg.os, hg.tape, hg.output, hg.size, fun k hk _ => hg.block k hk⟩ hb
theorem X4_new (w : World) : X4 (w.alloc (.cells #[.string ⟨#[]⟩, .string ⟨#[]⟩, .int .i64 0, .int .i64 0] 43)) w.heap.size := ⟨by simp, by simp, by simp, by simp, fun j => by simp⟩
theorem setX_at {w : World} {b : Nat} (h : X4 w b) (p : Trp) : XAt (setX w b p) b 0 p ∧ X4 (setX w b p) b := by
  obtain ⟨e0, e1, e2, e3, fz⟩ := h
  obtain ⟨v0, e0⟩ := Option.isSome_iff_exists.1 e0
  obtain ⟨v1, e1⟩ := Option.isSome_iff_exists.1 e1
  obtain ⟨v2, e2⟩ := Option.isSome_iff_exists.1 e2
  obtain ⟨v3, e3⟩ := Option.isSome_iff_exists.1 e3
  have a : XAt (setX w b p) b 0 p := by
    unfold setX
    refine ⟨?_, ?_, ?_, ?_⟩ <;> go_simp
  exact ⟨a, ⟨by rw [a.c0]; rfl, by rw [show (1 : Nat) = 0 + 1 from rfl, a.c1]; rfl, by rw [show (2 : Nat) = 0 + 2 from rfl, a.c2]; rfl, by rw [show (3 : Nat) = 0 + 3 from rfl, a.c3]; rfl, fun j => by unfold setX; simp only [World.frozen?_setCell]; exact fz j⟩⟩
theorem setX_grown (w : World) (b : Nat) (p : Trp) : w.grownBy (setX w b p) (some b) :=
  grownBy_trans (grownBy_trans (grownBy_trans (grownBy_set _ _ _ _) (grownBy_set _ _ _ _)) (grownBy_set _ _ _ _)) (grownBy_set _ _ _ _)
end Go.Proofs.YtpbmmdoodmbneaaGreatDoor
