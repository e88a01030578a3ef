/- The reference's Add: the region that makes the new list. -/
import Derived.Test.YtjbegegjpepkjaaDoorTraK
namespace Go.Proofs.YtjbegegjpepkjaaDoor
open Go.RowKit Go.Maps

def aS : List Nat := [88, 89, 90, 91, 92, 93, 94, 95, 10, 11, 12]
def ad (j : Nat) : Nat := match j with
  | 8 => 10
  | 9 => 11
  | 10 => 12
  | j => j + 88
def aV (v : Value) (x : Lnk) (xb : Nat) (j : Nat) : Value := match j with
  | 1 => v
  | 3 => .agg #[.string (bs x.item), .string (bs x.frm), .string (bs x.heat), .int .i64 x.tm, .int .u64 x.hash]
  | 6 => .pointer (some ⟨xb, 4, none⟩)
  | 10 => .int .i64 0
  | _ => .int .u64 x.hash
def aP (j : Nat) : Prop := j = 1 ∨ j = 3 ∨ j = 6 ∨ j = 7 ∨ j = 9 ∨ j = 10
structure IA (v : Value) (l : List Lnk) (x : Lnk) (xb : Nat) (W : World) (a0 : Act) (L : Nat → Bool) (a : Act) (w : World) : Prop where
  sm : Sm aS a0 a
  bw : Below W.heap.size W w
  val : ∀ j, aP j → L j = true → a.eval (.tmp (ad j)) = aV v x xb j
  e0 : L 0 = true → L 2 = false → OwnK w W.heap.size (a.eval (.tmp 88)) []
  e2 : L 2 = true → L 5 = false → OwnK w W.heap.size (a.eval (.tmp 90)) l
  e4 : L 4 = true → L 5 = false → ∃ g, a.eval (.tmp 92) = .slice (some ⟨g, 0, none⟩) 1 1 ∧ LkAt w g 0 x ∧ g < w.heap.size ∧ (L 0 = true → L 2 = false → (a.eval (.tmp 88)).ownBlock ≠ some g) ∧ (L 2 = true → (a.eval (.tmp 90)).ownBlock ≠ some g)
  e5 : L 5 = true → OwnK w W.heap.size (a.eval (.tmp 93)) (l ++ [x])
  e8 : L 8 = true → OwnK w W.heap.size (a.eval (.tmp 10)) (l ++ [x])
section
variable {v : Value} {l : List Lnk} {x : Lnk} {xb : Nat} {W : World} {a0 : Act} {L : Nat → Bool} {a : Act} {w : World}
theorem IA.start : IA v l x xb W a0 (fun _ => false) a0 W.drew :=
  ⟨Sm.refl _ _, (Below.refl _ _).drew, fun _ _ h => (by cases h), fun h => (by cases h), fun h => (by cases h), fun h => (by cases h), fun h => (by cases h), fun h => (by cases h)⟩
theorem ad_mem {j : Nat} (h : j < 11) : ad j ∈ aS := by
  have hc : j = 0 ∨ j = 1 ∨ j = 2 ∨ j = 3 ∨ j = 4 ∨ j = 5 ∨ j = 6 ∨ j = 7 ∨ j = 8 ∨ j = 9 ∨ j = 10 := by omega
  rcases hc with rfl | rfl | rfl | rfl | rfl | rfl | rfl | rfl | rfl | rfl | rfl <;> simp [ad, aS]
theorem ad_lt {j : Nat} (h : j < 11) : ad j < 96 := by
  have hc : j = 0 ∨ j = 1 ∨ j = 2 ∨ j = 3 ∨ j = 4 ∨ j = 5 ∨ j = 6 ∨ j = 7 ∨ j = 8 ∨ j = 9 ∨ j = 10 := by omega
  rcases hc with rfl | rfl | rfl | rfl | rfl | rfl | rfl | rfl | rfl | rfl | rfl <;> simp [ad]
theorem ad_inj {i j : Nat} (hi : i < 11) (hj : j < 11) (h : ad j = ad i) : j = i := by
  have hc : j = 0 ∨ j = 1 ∨ j = 2 ∨ j = 3 ∨ j = 4 ∨ j = 5 ∨ j = 6 ∨ j = 7 ∨ j = 8 ∨ j = 9 ∨ j = 10 := by omega
  have hd : i = 0 ∨ i = 1 ∨ i = 2 ∨ i = 3 ∨ i = 4 ∨ i = 5 ∨ i = 6 ∨ i = 7 ∨ i = 8 ∨ i = 9 ∨ i = 10 := by omega
  rcases hc with rfl | rfl | rfl | rfl | rfl | rfl | rfl | rfl | rfl | rfl | rfl <;> rcases hd with rfl | rfl | rfl | rfl | rfl | rfl | rfl | rfl | rfl | rfl | rfl <;> first | rfl | (simp [ad] at h)
theorem aP_lt {j : Nat} (h : aP j) : j < 11 := by unfold aP at h; omega
/-- the slots of the other operations -/
theorem ad_other {i j : Nat} (hi : i < 11) (hj : j < 11) (hne : j ≠ i) (u : Value) : (a.put (some (ad i)) u).eval (.tmp (ad j)) = a.eval (.tmp (ad j)) := eval_put_other (fun e => hne (ad_inj hi hj e)) u
theorem ad_same {i : Nat} (hi : i < 11) (hz : a.tmps.size = 96) (u : Value) : (a.put (some (ad i)) u).eval (.tmp (ad i)) = u := eval_put_same (by rw [hz]; exact ad_lt hi) u
theorem IA.size (I : IA v l x xb W a0 L a w) (z : a0.tmps.size = 96) : a.tmps.size = 96 := by rw [I.sm.1, z]
theorem IA.vals (I : IA v l x xb W a0 L a w) (z : a0.tmps.size = 96) {i : Nat} (hi : i < 11) (u : Value) (hu : aP i → u = aV v x xb i) : ∀ j, aP j → updL L i j = true → (a.put (some (ad i)) u).eval (.tmp (ad j)) = aV v x xb j := by
  intro j hj hl
  by_cases e : j = i
  · subst e; rw [ad_same hi (I.size z)]; exact hu hj
  · rw [ad_other hi (aP_lt hj) e]
    rw [updL_other e] at hl
    exact I.val j hj hl
/-- an operation that computes a value -/
theorem IA.pure (I : IA v l x xb W a0 L a w) (z : a0.tmps.size = 96) {i : Nat} (hi : aP i) : IA v l x xb W a0 (updL L i) (a.put (some (ad i)) (aV v x xb i)) w := by
  have hi2 := aP_lt hi
  have ne : ∀ j, j = 0 ∨ j = 2 ∨ j = 4 ∨ j = 5 ∨ j = 8 → j ≠ i := by unfold aP at hi; omega
  have u0 : updL L i 0 = L 0 := updL_other (ne 0 (by omega))
  have u2 : updL L i 2 = L 2 := updL_other (ne 2 (by omega))
  have u4 : updL L i 4 = L 4 := updL_other (ne 4 (by omega))
  have u5 : updL L i 5 = L 5 := updL_other (ne 5 (by omega))
  have u8 : updL L i 8 = L 8 := updL_other (ne 8 (by omega))
  have v0 : (a.put (some (ad i)) (aV v x xb i)).eval (.tmp 88) = a.eval (.tmp 88) := ad_other (a := a) hi2 (j := 0) (by omega) (ne 0 (by omega)) (aV v x xb i)
  have v2 : (a.put (some (ad i)) (aV v x xb i)).eval (.tmp 90) = a.eval (.tmp 90) := ad_other (a := a) hi2 (j := 2) (by omega) (ne 2 (by omega)) (aV v x xb i)
  have v4 : (a.put (some (ad i)) (aV v x xb i)).eval (.tmp 92) = a.eval (.tmp 92) := ad_other (a := a) hi2 (j := 4) (by omega) (ne 4 (by omega)) (aV v x xb i)
  have v5 : (a.put (some (ad i)) (aV v x xb i)).eval (.tmp 93) = a.eval (.tmp 93) := ad_other (a := a) hi2 (j := 5) (by omega) (ne 5 (by omega)) (aV v x xb i)
  have v8 : (a.put (some (ad i)) (aV v x xb i)).eval (.tmp 10) = a.eval (.tmp 10) := ad_other (a := a) hi2 (j := 8) (by omega) (ne 8 (by omega)) (aV v x xb i)
  refine ⟨I.sm.put (ad_mem hi2) _, I.bw, I.vals z hi2 _ (fun _ => rfl), ?_, ?_, ?_, ?_, ?_⟩
  · rw [u0, u2, v0]; exact I.e0
  · rw [u2, u5, v2]; exact I.e2
  · rw [u4, u5, u0, u2, v4, v0, v2]; exact I.e4
  · rw [u5, v5]; exact I.e5
  · rw [u8, v8]; exact I.e8
/-- the empty list -/
theorem IA.op0 (I : IA v l x xb W a0 L a w) (z : a0.tmps.size = 96) (h2 : L 2 = false) (h5 : L 5 = false) (h8 : L 8 = false) : IA v l x xb W a0 (updL L 0) (a.put (some 88) (.slice (some ⟨w.heap.size, 0, none⟩) 0 0)) (w.alloc (.cells #[] 29)) := by
  have hb : Below w.heap.size w (w.alloc (.cells #[] 29)) := (Below.refl _ _).alloc (Nat.le_refl _) _
  have v2 := ad_other (a := a) (i := 0) (by omega) (j := 2) (by omega) (by omega) (.slice (some ⟨w.heap.size, 0, none⟩) 0 0)
  have v4 := ad_other (a := a) (i := 0) (by omega) (j := 4) (by omega) (by omega) (.slice (some ⟨w.heap.size, 0, none⟩) 0 0)
  have v0 := ad_same (a := a) (i := 0) (by omega) (I.size z) (.slice (some ⟨w.heap.size, 0, none⟩) 0 0)
  have hv := I.vals z (i := 0) (by omega) (.slice (some ⟨w.heap.size, 0, none⟩) 0 0) (fun h => by unfold aP at h; omega)
  simp only [ad] at v0 v2 v4 hv
  refine ⟨I.sm.put (by simp [aS]) _, ext_trans I.bw hb, hv, fun _ _ => ?_, fun h => ?_, fun h h' => ?_, fun h => ?_, fun h => ?_⟩
  · rw [v0]; exact OwnK_empty w _ I.bw.size
  · rw [updL_other (by omega), h2] at h; cases h
  · rw [updL_other (by omega)] at h h'
    obtain ⟨g, e1, e2, e3, e4, e5⟩ := I.e4 h h'
    refine ⟨g, by rw [v4]; exact e1, e2.keep hb, Nat.lt_of_lt_of_le e3 hb.size, fun _ _ => ?_, fun h => ?_⟩
    · rw [v0]; simp [Value.ownBlock]; omega
    · rw [updL_other (by omega), h2] at h; cases h
  · rw [updL_other (by omega), h5] at h; cases h
  · rw [updL_other (by omega), h8] at h; cases h
/-- the one link as a list -/
theorem IA.op4 (I : IA v l x xb W a0 L a w) (z : a0.tmps.size = 96) (h5 : L 5 = false) (h8 : L 8 = false) : IA v l x xb W a0 (updL L 4) (a.put (some 92) (.slice (some ⟨w.heap.size, 0, none⟩) 1 1)) (w.alloc (.cells #[.string (bs x.item), .string (bs x.frm), .string (bs x.heat), .int .i64 x.tm, .int .u64 x.hash] 29)) := by
  have hb : Below w.heap.size w (w.alloc (.cells #[.string (bs x.item), .string (bs x.frm), .string (bs x.heat), .int .i64 x.tm, .int .u64 x.hash] 29)) := (Below.refl _ _).alloc (Nat.le_refl _) _
  have v0 := ad_other (a := a) (i := 4) (by omega) (j := 0) (by omega) (by omega) (.slice (some ⟨w.heap.size, 0, none⟩) 1 1)
  have v2 := ad_other (a := a) (i := 4) (by omega) (j := 2) (by omega) (by omega) (.slice (some ⟨w.heap.size, 0, none⟩) 1 1)
  have v4 := ad_same (a := a) (i := 4) (by omega) (I.size z) (.slice (some ⟨w.heap.size, 0, none⟩) 1 1)
  have hv := I.vals z (i := 4) (by omega) (.slice (some ⟨w.heap.size, 0, none⟩) 1 1) (fun h => by unfold aP at h; omega)
  simp only [ad] at v0 v2 v4 hv
  refine ⟨I.sm.put (by simp [aS]) _, ext_trans I.bw hb, hv, fun h h' => ?_, fun h h' => ?_, fun _ _ => ?_, fun h => ?_, fun h => ?_⟩
  · rw [updL_other (by omega)] at h h'; rw [v0]; exact (I.e0 h h').below hb
  · rw [updL_other (by omega)] at h h'; rw [v2]; exact (I.e2 h h').below hb
  · refine ⟨w.heap.size, v4, lit_link w x, by simp, fun h h' => ?_, fun h => ?_⟩
    · rw [updL_other (by omega)] at h h'
      rw [v0]; intro e; have := (I.e0 h h').lt _ e; omega
    · rw [updL_other (by omega)] at h
      rw [v2]; intro e; have := (I.e2 h h5).lt _ e; omega
  · rw [updL_other (by omega), h5] at h; cases h
  · rw [updL_other (by omega), h8] at h; cases h
theorem lk_grown {w w' : World} {row : Option Nat} {g off : Nat} {x : Lnk} (h : LkAt w g off x) (hg : w.grownBy w' row) (hne : some g ≠ row) : LkAt w' g off x := ⟨hg.cell h.c0 hne, hg.cell h.c1 hne, hg.cell h.c2 hne, hg.cell h.c3 hne, hg.cell h.c4 hne⟩
/-- the links are appended -/
theorem IA.op2 {w' : World} {t : Value} (I : IA v l x xb W a0 L a w) (z : a0.tmps.size = 96) (h0 : L 0 = true) (h2 : L 2 = false) (h5 : L 5 = false) (h8 : L 8 = false) (ho : OwnK w' W.heap.size t l) (hg : w.grownBy w' (a.eval (.tmp 88)).ownBlock)
    (hat : t.ownBlock = (a.eval (.tmp 88)).ownBlock ∨ t.ownBlock = some w.heap.size) : IA v l x xb W a0 (updL L 2) (a.put (some 90) t) w' := by
  have v0 := ad_other (a := a) (i := 2) (by omega) (j := 0) (by omega) (by omega) t
  have v4 := ad_other (a := a) (i := 2) (by omega) (j := 4) (by omega) (by omega) t
  have v2 := ad_same (a := a) (i := 2) (by omega) (I.size z) t
  have hv := I.vals z (i := 2) (by omega) t (fun h => by unfold aP at h; omega)
  simp only [ad] at v0 v2 v4 hv
  refine ⟨I.sm.put (by simp [aS]) _, I.bw.grown hg I.bw.size (fun k e => ((I.e0 h0 h2).lt k e).1), hv, fun _ h' => ?_, fun _ _ => ?_, fun h h' => ?_, fun h => ?_, fun h => ?_⟩
  · rw [updL_same] at h'; cases h'
  · rw [v2]; exact ho
  · rw [updL_other (by omega)] at h h'
    obtain ⟨g, e1, e2, e3, e4, _⟩ := I.e4 h h'
    have hn := e4 h0 h2
    refine ⟨g, by rw [v4]; exact e1, lk_grown e2 hg (fun e => hn e.symm), Nat.lt_of_lt_of_le e3 hg.size, fun _ h' => (by rw [updL_same] at h'; cases h'), fun _ => ?_⟩
    rw [v2]
    rcases hat with e | e
    · rw [e]; exact hn
    · rw [e]; intro e; have := Option.some.inj e; omega
  · rw [updL_other (by omega), h5] at h; cases h
  · rw [updL_other (by omega), h8] at h; cases h
/-- the new link is appended -/
theorem IA.op5 {w' : World} {t : Value} (I : IA v l x xb W a0 L a w) (z : a0.tmps.size = 96) (h2 : L 2 = true) (h5 : L 5 = false) (h8 : L 8 = false) (ho : OwnK w' W.heap.size t (l ++ [x])) (hg : w.grownBy w' (a.eval (.tmp 90)).ownBlock) : IA v l x xb W a0 (updL L 5) (a.put (some 93) t) w' := by
  have v5 := ad_same (a := a) (i := 5) (by omega) (I.size z) t
  have hv := I.vals z (i := 5) (by omega) t (fun h => by unfold aP at h; omega)
  simp only [ad] at v5 hv
  refine ⟨I.sm.put (by simp [aS]) _, I.bw.grown hg I.bw.size (fun k e => ((I.e2 h2 h5).lt k e).1), hv, fun _ h' => ?_, fun _ h' => ?_, fun _ h' => ?_, fun _ => ?_, fun h => ?_⟩
  · rw [updL_other (by omega), h2] at h'; cases h'
  · rw [updL_same] at h'; cases h'
  · rw [updL_same] at h'; cases h'
  · rw [v5]; exact ho
  · rw [updL_other (by omega), h8] at h; cases h
/-- it is what is returned -/
theorem IA.op8 (I : IA v l x xb W a0 L a w) (z : a0.tmps.size = 96) (h2 : L 2 = true) (h5 : L 5 = true) : IA v l x xb W a0 (updL L 8) (a.put (some 10) (a.eval (.tmp 93))) w := by
  have v5 := ad_other (a := a) (i := 8) (by omega) (j := 5) (by omega) (by omega) (a.eval (.tmp 93))
  have v8 := ad_same (a := a) (i := 8) (by omega) (I.size z) (a.eval (.tmp 93))
  have hv := I.vals z (i := 8) (by omega) (a.eval (.tmp 93)) (fun h => by unfold aP at h; omega)
  simp only [ad] at v5 v8 hv
  refine ⟨I.sm.put (by simp [aS]) _, I.bw, hv, fun _ h' => ?_, fun _ h' => ?_, fun _ h' => ?_, fun _ => ?_, fun _ => ?_⟩
  · rw [updL_other (by omega), h2] at h'; cases h'
  · rw [updL_other (by omega), h5] at h'; cases h'
  · rw [updL_other (by omega), h5] at h'; cases h'
  · rw [v5]; exact I.e5 h5
  · rw [v8]; exact I.e5 h5
end
/-! the operations -/
theorem vl_empty {o : Oper} {a : Act} {w : World} {K : Act → World → Prop} {Q : Exit → Act → World → Prop} (ho : o.op = .buildSlice 22 0 #[]) (h : K (a.put o.dst (.slice (some ⟨w.heap.size, 0, none⟩) 0 0)) (w.alloc (.cells #[] 29))) : o.wp Tryd.prog a w K Q := by
  unfold Oper.wp execOp
  simp only [ho]
  go_simp
  exact h
theorem vl_one {o : Oper} {a : Act} {w : World} {K : Act → World → Prop} {Q : Exit → Act → World → Prop} (x : Operand) (y : Lnk) (ho : o.op = .buildSlice 22 1 #[(0, x)]) (hx : a.eval x = .agg #[.string (bs y.item), .string (bs y.frm), .string (bs y.heat), .int .i64 y.tm, .int .u64 y.hash])
    (h : K (a.put o.dst (.slice (some ⟨w.heap.size, 0, none⟩) 1 1)) (w.alloc (.cells #[.string (bs y.item), .string (bs y.frm), .string (bs y.heat), .int .i64 y.tm, .int .u64 y.hash] 29))) : o.wp Tryd.prog a w K Q := by
  unfold Oper.wp execOp
  simp only [ho]
  generalize a.eval = ev at *
  go_simp
  exact h
theorem vl_link {o : Oper} {a : Act} {w : World} {K : Act → World → Prop} {Q : Exit → Act → World → Prop} (x : Operand) (y : Lnk) (b : Nat) (ho : o.op = .load 29 x) (hx : a.eval x = .pointer (some ⟨b, 0, none⟩)) (hb : LkB w b y)
    (h : K (a.put o.dst (.agg #[.string (bs y.item), .string (bs y.frm), .string (bs y.heat), .int .i64 y.tm, .int .u64 y.hash])) w) : o.wp Tryd.prog a w K Q := by
  obtain ⟨c0, c1, c2, c3, c4⟩ := hb.at
  unfold Oper.wp execOp
  simp only [ho]
  generalize a.eval = ev at *
  go_simp
  exact h
theorem agg_u64 (w : World) : (isAgg 27).run Tryd.prog w = .ok false w := by
  unfold isAgg; rw [Sem.run_bind, run_underlying Tryd.underlying27 w]; rfl
theorem vl_app {o : Oper} {a : Act} {K : Act → World → Prop} {Q : Exit → Act → World → Prop} {w : World} (s x : Operand)
    (ho : o.op = .call { callee := .builtin .append, args := #[s, x], argTypes := #[22, 22] }) (B : Nat) (v : Value) (l m : List Lnk) (hs : a.eval s = v) (hown : OwnK w B v l)
    (ad : Addr) (n c : Nat) (hx : a.eval x = .slice (some ad) n c) (hy : SK w (.slice (some ad) n c) m) (hlen : l.length + m.length ≤ 1000000) (hb : B ≤ w.heap.size)
    (h : ∀ v' w', OwnK w' B v' (l ++ m) → w.grownBy w' v.ownBlock → (v'.ownBlock = v.ownBlock ∨ v'.ownBlock = some w.heap.size) → K (a.put o.dst v') w') : o.wp Tryd.prog a w K Q := by
  obtain ⟨i, hi, hz0, hz1, hz2⟩ := info_parts Tryd_infoLink
  obtain ⟨rfl, hf⟩ := hy.flat
  refine wp_app_gen s x 22 29 ho i (.agg #[.string ⟨#[]⟩, .string ⟨#[]⟩, .string ⟨#[]⟩, .int .i64 0, .int .u64 0]) 5 64 Tryd.underlying22 hi hz0 hz1 hz2 rfl (by decide) B v l.length (l.flatMap lkCells) hs hown ad m.length c hx (m.flatMap lkCells) (flat_len lkCells lkCells_len m) hf (fun u hu => ?_) (by unfold maxLen; omega) (by omega) hb fun v' w' h1 h2 h3 => h v' w' ?_ h2 h3
  · obtain ⟨z, _, hz⟩ := List.mem_flatMap.1 hu
    simp only [lkCells, List.mem_cons, List.not_mem_nil, or_false] at hz
    rcases hz with rfl | rfl | rfl | rfl | rfl <;> rfl
  · unfold OwnK
    rw [List.length_append, List.flatMap_append]
    exact h1
/-- nil is appended -/
theorem vl_app_nil {o : Oper} {a : Act} {K : Act → World → Prop} {Q : Exit → Act → World → Prop} {w : World} (s x : Operand) (b : Option Addr) (n c : Nat)
    (ho : o.op = .call { callee := .builtin .append, args := #[s, x], argTypes := #[22, 22] }) (hs : a.eval s = .slice b n c) (hx : a.eval x = .slice none 0 0) (hn : n ≤ c) (h : K (a.put o.dst (.slice b n c)) w) : o.wp Tryd.prog a w K Q := by
  unfold Oper.wp execOp
  simp only [ho]
  generalize a.eval = ev at *
  go_simp
  cases b
  all_goals
    go_simp
    exact h
theorem OwnK.shape {w : World} {B : Nat} {v : Value} {l : List Lnk} (h : OwnK w B v l) : ∃ b n c, v = .slice b n c ∧ n ≤ c := by
  rcases h.2 with ⟨e, _⟩ | ⟨g, cap, cur, e, _, _, h, _⟩
  · exact ⟨_, _, _, e, Nat.le_refl _⟩
  · exact ⟨_, _, _, e, h⟩
theorem sk_one {w : World} {g : Nat} {x : Lnk} (h : LkAt w g 0 x) : SK w (.slice (some ⟨g, 0, none⟩) 1 1) [x] := by
  refine ⟨_, _, rfl, Nat.le_refl _, by unfold maxLen; omega, fun i hi => ⟨g, 0, rfl, ?_⟩⟩
  obtain rfl : i = 0 := by simp at hi; omega
  exact h

section
variable {l : List Lnk} {item frm heat : List UInt8} {tm : Int}
def rAddR (v : Value) (l : List Lnk) (item frm heat : List UInt8) (tm : Int) (w : World) (e : Ending) (w' : World) : Prop :=
  ∃ v', e = .returned (.tuple #[v', .int .u64 (addH l item frm heat tm), .int .i64 (addE l item frm heat tm)]) ∧ SK w' v' (addL l item frm heat tm) ∧ (v' = v ∨ OwnK w' w.heap.size v' (addL l item frm heat tm)) ∧ Below w.heap.size w w'
theorem rAddR_no {v : Value} {w w' : World} {e : Ending} {c : Int} (hc : addE l item frm heat tm = c) (h0 : c ≠ 0) (he : e = .returned (.tuple #[v, .int .u64 0, .int .i64 c])) (hs : SK w v l) (hb : Below w.heap.size w w') : rAddR v l item frm heat tm w e w' := by
  refine ⟨v, ?_, ?_, .inl rfl, hb⟩
  · unfold addH; rw [hc, if_neg h0]; exact he
  · unfold addL; rw [hc, if_neg h0]; exact hs.keep hb
end
end Go.Proofs.YtjbegegjpepkjaaDoor
