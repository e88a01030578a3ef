/- Contracts: IsName of ident. -/
import Derived.Test.YtfpnjbomlmhlpaaGreatPk02
import Derived.Test.YtfpnjbomlmhlpaaGreatPk01
import Derived.Laws.Rows
import Derived.Laws.Tables
import Derived.OneCell
import Derived.WalkSmall
import Derived.IntWalk
import Derived.Lib.Split
import Derived.Laws.RangeString
import Derived.Lib.MapLaws
import Derived.Lib.RuneCount
import Derived.Outline
set_option linter.unusedSimpArgs false
set_option linter.unusedVariables false

/- Topological orders and paths; the order of jobs: plain. -/
namespace Go.Proofs.YtfpnjbomlmhlpaaGreat

abbrev Edg := List (Nat × Nat)
def openV (E : Edg) (T : List Nat) (v : Nat) : Bool := !T.contains v && E.all fun e => !(e.2 == v) || T.contains e.1
def stepT (n : Nat) (E : Edg) (T : List Nat) : Option Nat := (List.range n).find? (openV E T)
def topo (n : Nat) (E : Edg) : Nat → List Nat
  | 0 => []
  | k + 1 => match stepT n E (topo n E k) with
    | some v => topo n E k ++ [v]
    | none => topo n E k
theorem stepT_some {n : Nat} {E : Edg} {T : List Nat} {v : Nat} (h : stepT n E T = some v) : v < n ∧ openV E T v = true ∧ ∀ u, u < v → openV E T u = false := by
  unfold stepT at h
  rw [List.find?_eq_some_iff_getElem] at h
  obtain ⟨h1, i, hi, h2, h3⟩ := h
  rw [List.getElem_range] at h2
  subst h2
  rw [List.length_range] at hi
  refine ⟨hi, h1, fun u hu => ?_⟩
  have := h3 u hu
  rw [List.getElem_range] at this
  simpa using this
theorem stepT_hit {n : Nat} {E : Edg} {T : List Nat} {v : Nat} (hv : v < n) (h1 : openV E T v = true) (h2 : ∀ u, u < v → openV E T u = false) : stepT n E T = some v := by
  unfold stepT
  rw [List.find?_eq_some_iff_getElem]
  refine ⟨h1, v, by rw [List.length_range]; exact hv, by rw [List.getElem_range], fun u hu => ?_⟩
  rw [List.getElem_range, h2 u hu]; rfl
theorem stepT_none {n : Nat} {E : Edg} {T : List Nat} : stepT n E T = none ↔ ∀ u, u < n → openV E T u = false := by
  unfold stepT
  rw [List.find?_eq_none]
  exact ⟨fun h u hu => by simpa using h u (List.mem_range.2 hu), fun h u hu => by simpa using h u (List.mem_range.1 hu)⟩
theorem topo_len (n : Nat) (E : Edg) : ∀ k, (topo n E k).length ≤ k
  | 0 => Nat.le_refl _
  | k + 1 => by
    have := topo_len n E k
    show (match stepT n E (topo n E k) with | some v => topo n E k ++ [v] | none => topo n E k).length ≤ _
    split
    · simp; omega
    · omega
theorem topo_stuck {n : Nat} {E : Edg} {k : Nat} (h : stepT n E (topo n E k) = none) : ∀ j, topo n E (k + j) = topo n E k
  | 0 => rfl
  | j + 1 => by
    have ih := topo_stuck h j
    show (match stepT n E (topo n E (k + j)) with | some v => topo n E (k + j) ++ [v] | none => topo n E (k + j)) = _
    rw [ih, h]
/-- that order stops: there is a cycle -/
theorem topo_short {n : Nat} {E : Edg} {k : Nat} (hk : k < n) (h : stepT n E (topo n E k) = none) : (topo n E n).length ≠ n := by
  have : topo n E n = topo n E k := by
    have := topo_stuck h (n - k)
    rwa [show k + (n - k) = n by omega] at this
  rw [this]
  have := topo_len n E k
  omega
theorem topo_full {n : Nat} {E : Edg} {m : Nat} (h : (topo n E m).length = m) : ∀ k, k ≤ m → (topo n E k).length = k ∧ topo n E k <+: topo n E m := by
  have gen : ∀ m, (topo n E m).length = m → ∀ k, k ≤ m → (topo n E k).length = k ∧ topo n E k <+: topo n E m := by
    intro m
    induction m with
    | zero => intro _ k hk; obtain rfl : k = 0 := by omega
              exact ⟨rfl, List.prefix_refl _⟩
    | succ m ih =>
      intro h k hk
      have e : topo n E (m + 1) = match stepT n E (topo n E m) with | some v => topo n E m ++ [v] | none => topo n E m := rfl
      cases hs : stepT n E (topo n E m) with
      | none =>
        rw [hs] at e
        have e' : topo n E (m + 1) = topo n E m := e
        rw [e'] at h
        have := topo_len n E m
        omega
      | some v =>
        rw [hs] at e
        have e' : topo n E (m + 1) = topo n E m ++ [v] := e
        rw [e', List.length_append, List.length_singleton] at h
        by_cases hkm : k = m + 1
        · subst hkm; exact ⟨by rw [e', List.length_append, List.length_singleton, h], List.prefix_refl _⟩
        · obtain ⟨a, b⟩ := ih (by omega) k (by omega)
          exact ⟨a, b.trans (by rw [e']; exact List.prefix_append _ _)⟩
  exact gen m h
structure TopoW (n : Nat) (E : Edg) (T : List Nat) : Prop where
  lt : ∀ v ∈ T, v < n
  nd : T.Nodup
  bef : ∀ k (hk : k < T.length), ∀ u, (u, T[k]) ∈ E → u ∈ T.take k
theorem openV_iff {E : Edg} {T : List Nat} {v : Nat} : openV E T v = true ↔ v ∉ T ∧ ∀ u, (u, v) ∈ E → u ∈ T := by
  unfold openV
  rw [Bool.and_eq_true, Bool.not_eq_true', List.all_eq_true, ← Bool.not_eq_true, List.contains_iff_mem]
  refine and_congr Iff.rfl ⟨fun h u hu => ?_, fun h e he => ?_⟩
  · have := h _ hu
    simpa using this
  · by_cases hv : e.2 = v
    · subst hv
      have := h e.1 he
      simp [this]
    · simp [hv]
theorem topo_w (n : Nat) (E : Edg) : ∀ k, TopoW n E (topo n E k)
  | 0 => ⟨fun v hv => (by cases hv), List.nodup_nil, fun k hk => (by simp [topo] at hk)⟩
  | k + 1 => by
    have ih := topo_w n E k
    show TopoW n E (match stepT n E (topo n E k) with | some v => topo n E k ++ [v] | none => topo n E k)
    split
    · rename_i v hs
      obtain ⟨h1, h2, _⟩ := stepT_some hs
      obtain ⟨h3, h4⟩ := openV_iff.1 h2
      generalize topo n E k = T at *
      refine ⟨fun u hu => ?_, List.nodup_append.2 ⟨ih.nd, by simp, fun x hx y hy => by simp at hy; subst hy; intro e; subst e; exact h3 hx⟩, fun j hj u hu => ?_⟩
      · rcases List.mem_append.1 hu with hu | hu
        · exact ih.lt u hu
        · rw [List.mem_singleton.1 hu]; exact h1
      · by_cases hlt : j < T.length
        · rw [List.getElem_append_left hlt] at hu
          rw [List.take_append_of_le_length (by omega)]
          exact ih.bef j hlt u hu
        · obtain rfl : j = T.length := by simp at hj; omega
          rw [List.take_append_of_le_length (Nat.le_refl _), List.take_length]
          rw [List.getElem_append_right (Nat.le_refl _)] at hu
          simp at hu
          exact h4 u hu
    · exact ih
theorem mem_full : ∀ (n : Nat) (xs : List Nat), xs.Nodup → (∀ x ∈ xs, x < n) → xs.length = n → ∀ v, v < n → v ∈ xs := by
  have gen : ∀ (xs ys : List Nat), xs.Nodup → (∀ x ∈ xs, x ∈ ys) → ys.length ≤ xs.length → ∀ y ∈ ys, y ∈ xs := by
    intro xs
    induction xs with
    | nil => intro ys _ _ hl y hy; have := List.length_pos_of_mem hy; simp at hl; rw [hl] at hy; cases hy
    | cons x xs ih =>
      intro ys hn hs hl y hy
      rw [List.nodup_cons] at hn
      have hx := hs x (List.mem_cons_self ..)
      by_cases e : y = x
      · rw [e]; exact List.mem_cons_self ..
      refine List.mem_cons_of_mem _ (ih (ys.erase x) hn.2 (fun z hz => (List.mem_erase_of_ne (fun e => hn.1 (by rw [← e]; exact hz))).2 (hs z (List.mem_cons_of_mem _ hz))) ?_ y ((List.mem_erase_of_ne e).2 hy))
      rw [List.length_erase_of_mem hx]
      simp only [List.length_cons] at hl; omega
  exact fun n xs h1 h2 h3 v hv => gen xs (List.range n) h1 (fun x hx => List.mem_range.2 (h2 x hx)) (by rw [List.length_range]; omega) v (List.mem_range.2 hv)
/-! paths -/
inductive PathE (E : Edg) : Nat → Nat → Prop
  | one {u v} : (u, v) ∈ E → PathE E u v
  | cons {u v w} : (u, v) ∈ E → PathE E v w → PathE E u w
theorem path_bef {n : Nat} {E : Edg} {T : List Nat} (hw : TopoW n E T) {u v : Nat} (h : PathE E u v) : ∀ k (hk : k < T.length), T[k] = v → u ∈ T.take k := by
  induction h with
  | one he => intro k hk e; subst e; exact hw.bef k hk _ he
  | @cons u v w he hp ih =>
    intro k hk e
    have h1 := ih k hk e
    obtain ⟨j, hj, hjv⟩ := List.mem_take_iff_getElem.1 h1
    have h2 := hw.bef j (by omega) u (by rw [hjv]; exact he)
    obtain ⟨i, hi, hiu⟩ := List.mem_take_iff_getElem.1 h2
    exact List.mem_take_iff_getElem.2 ⟨i, by omega, hiu⟩
theorem path_irr {n : Nat} {E : Edg} {T : List Nat} (hw : TopoW n E T) {u : Nat} (hu : u ∈ T) : ¬ PathE E u u := by
  intro h
  obtain ⟨k, hk, e⟩ := List.mem_iff_getElem.1 hu
  have := path_bef hw h k hk e
  obtain ⟨j, hj, e2⟩ := List.mem_take_iff_getElem.1 this
  have := hw.nd
  rw [List.nodup_iff_pairwise_ne] at this
  exact List.pairwise_iff_getElem.1 this j k (by omega) hk (by omega) (by rw [e2, e])
/-! the jobs -/
def atB (b : List (List UInt8)) (s : List UInt8) : Nat := b.findIdx (· == s)
/-- job i comes before job k -/
noncomputable def befB (J : List Hst) (b : List (List UInt8)) (E : Edg) : Bef := fun i k => @decide ((hsi J i).block ≠ (hsi J k).block ∧ PathE E (atB b (hsi J i).block) (atB b (hsi J k).block)) (Classical.propDecidable _)
theorem befB_iff {J : List Hst} {b : List (List UInt8)} {E : Edg} {i k : Nat} : befB J b E i k = true ↔ (hsi J i).block ≠ (hsi J k).block ∧ PathE E (atB b (hsi J i).block) (atB b (hsi J k).block) := by
  unfold befB; exact @decide_eq_true_iff _ (Classical.propDecidable _)
theorem befB_irr (J : List Hst) (b : List (List UInt8)) (E : Edg) (i : Nat) : befB J b E i i = false := by
  rw [Bool.eq_false_iff]; intro h; exact (befB_iff.1 h).1 rfl
structure OrdOK (J : List Hst) (B : Bef) (o : List Nat) : Prop where
  lt : ∀ i ∈ o, i < J.length
  nd : o.Nodup
  bef : ∀ k (hk : k < o.length), ∀ m, m < J.length → B m o[k] = true → m ∈ o.take k
  len : o.length = J.length
def bkI (b : List (List UInt8)) (v : Nat) : List UInt8 := b.getD v []
def ordJ (J : List Hst) (b : List (List UInt8)) (T : List Nat) : List Nat := (T.map fun v => jobI J (bkI b v)).filter fun i => decide (i < J.length)
theorem atB_at {b : List (List UInt8)} (h : b.Nodup) {v : Nat} (hv : v < b.length) : atB b (bkI b v) = v := by
  unfold atB bkI
  rw [List.getD_eq_getElem?_getD, List.getElem?_eq_getElem hv, Option.getD_some, List.findIdx_eq hv]
  refine ⟨by simp, fun j hj => ?_⟩
  rw [beq_eq_false_iff_ne]
  rw [List.nodup_iff_pairwise_ne] at h
  exact List.pairwise_iff_getElem.1 h j v (by omega) hv hj
theorem atB_lt {b : List (List UInt8)} {s : List UInt8} (h : s ∈ b) : atB b s < b.length ∧ bkI b (atB b s) = s := by
  have h1 : atB b s < b.length := by
    unfold atB
    rw [List.findIdx_lt_length]
    exact ⟨s, h, by simp⟩
  refine ⟨h1, ?_⟩
  unfold bkI
  rw [List.getD_eq_getElem?_getD, List.getElem?_eq_getElem h1, Option.getD_some]
  have := List.findIdx_getElem (w := h1)
  exact eq_of_beq this
theorem jobI_inj {J : List Hst} {s t : List UInt8} (h : jobI J s = jobI J t) (hs : jobI J s < J.length) : s = t := by
  have a : ∀ s, jobI J s < J.length → (hsi J (jobI J s)).block = s := fun s hs => by
    rw [hsi_lt hs]
    have := List.findIdx_getElem (w := hs)
    exact eq_of_beq this
  rw [← a s hs, h, a t (by rw [← h]; exact hs)]
theorem ordJ_ok {J : List Hst} {b : List (List UInt8)} {E : Edg} {T : List Nat} (hJ : JobsOK J) (hb : b.Nodup) (hin : ∀ j ∈ J, j.block ∈ b) (hw : TopoW b.length E T) (hT : T.length = b.length) : OrdOK J (befB J b E) (ordJ J b T) := by
  have hmem : ∀ i, i < J.length → i ∈ ordJ J b T := fun i hi => by
    obtain ⟨h1, h2⟩ := atB_lt (hin _ (hsi_mem hi))
    unfold ordJ
    rw [List.mem_filter, List.mem_map]
    refine ⟨⟨atB b (hsi J i).block, mem_full _ _ hw.nd hw.lt hT _ h1, by rw [h2, jobI_at hJ.nd hi]⟩, by simpa using hi⟩
  have hlt : ∀ i ∈ ordJ J b T, i < J.length := fun i hi => by simpa using (List.mem_filter.1 hi).2
  have hnd : (ordJ J b T).Nodup := by
    unfold ordJ
    rw [List.nodup_iff_pairwise_ne, List.pairwise_filter, List.pairwise_map]
    have h0 := hw.nd
    rw [List.nodup_iff_pairwise_ne] at h0
    refine List.Pairwise.imp_of_mem (fun {u v} hu hv hne => ?_) h0
    intro hul hvl e
    apply hne
    have h1 := jobI_inj e (by simpa using hul)
    rw [← atB_at hb (hw.lt u hu), ← atB_at hb (hw.lt v hv), h1]
  have hlen : (ordJ J b T).length = J.length := by
    have h1 : (ordJ J b T).Perm (List.range J.length) := (List.perm_ext_iff_of_nodup hnd List.nodup_range).2 fun i => ⟨fun h => List.mem_range.2 (hlt i h), fun h => hmem i (List.mem_range.1 h)⟩
    rw [h1.length_eq, List.length_range]
  refine ⟨hlt, hnd, fun k hk m hm hB => ?_, hlen⟩
  -- the nodes ahead of that of o[k]
  have hok := hlt _ (List.getElem_mem hk)
  obtain ⟨hne, hp⟩ := befB_iff.1 hB
  have key : ∀ (T1 T2 : List Nat), T = T1 ++ T2 → (∀ v ∈ T1, v < b.length) → ∀ k (hk : k < (ordJ J b T).length), k < (ordJ J b T1).length → m ∈ ordJ J b T1 → True := fun _ _ _ _ _ _ _ _ => trivial
  clear key
  have hmo := hmem m hm
  obtain ⟨j, hj, e⟩ := List.mem_iff_getElem.1 hmo
  rcases Nat.lt_or_ge j k with hjk | hjk
  · rw [← e]; exact List.mem_take_iff_getElem.2 ⟨j, by omega, rfl⟩
  exfalso
  -- split T at the node of m
  obtain ⟨am, ab⟩ := atB_lt (hin _ (hsi_mem hm))
  obtain ⟨km, kb⟩ := atB_lt (hin _ (hsi_mem hok))
  obtain ⟨x, hx, ex⟩ := List.mem_iff_getElem.1 (mem_full _ _ hw.nd hw.lt hT _ km)
  have h2 := path_bef hw hp x hx ex
  obtain ⟨y, hy, ey⟩ := List.mem_take_iff_getElem.1 h2
  have hyx : y < x := by omega
  -- positions in T go with positions in the order
  have hpw : (ordJ J b T).Pairwise fun i i' => T.idxOf (atB b (hsi J i).block) < T.idxOf (atB b (hsi J i').block) := by
    unfold ordJ
    rw [List.pairwise_filter, List.pairwise_map, List.pairwise_iff_getElem]
    intro p q hp' hq' hpq h1 h2
    have g : ∀ p (hp : p < T.length), jobI J (bkI b T[p]) < J.length → T.idxOf (atB b (hsi J (jobI J (bkI b T[p]))).block) = p := by
      intro p hp hl
      have e1 : (hsi J (jobI J (bkI b T[p]))).block = bkI b T[p] := by
        rw [hsi_lt hl]
        have := List.findIdx_getElem (w := hl)
        exact eq_of_beq this
      rw [e1, atB_at hb (hw.lt _ (List.getElem_mem hp))]
      exact List.Nodup.idxOf_getElem hw.nd p hp
    rw [g p hp' (by simpa using h1), g q hq' (by simpa using h2)]
    exact hpq
  have hyi : T.idxOf (atB b (hsi J m).block) = y := by rw [← ey]; exact List.Nodup.idxOf_getElem hw.nd y (by omega)
  have hxi : T.idxOf (atB b (hsi J (ordJ J b T)[k]).block) = x := by rw [← ex]; exact List.Nodup.idxOf_getElem hw.nd x hx
  rcases Nat.lt_or_ge k j with hkj | hkj
  · have := List.pairwise_iff_getElem.1 hpw k j hk hj hkj
    rw [e, hyi, hxi] at this
    omega
  · obtain rfl : j = k := by omega
    rw [e] at hxi
    omega
/-- the greedy list may go on -/
theorem order_next {J : List Hst} {B : Bef} {o : List Nat} (h : OrdOK J B o) (hJ : JobsOK J) {l : List Ern} {k : Nat} (hk : k < o.length) (hl : l.map (·.block) = (o.take k).map fun i => (hsi J i).block) : nextB J B l o[k] = true := by
  unfold nextB
  rw [Bool.and_eq_true, Bool.not_eq_true', List.all_eq_true]
  have hm : ∀ i, i < J.length → (hasB l (hsi J i).block = true ↔ i ∈ o.take k) := fun i hi => by
    rw [hasB_iff, hl, List.mem_map]
    refine ⟨fun ⟨j, hj, e⟩ => ?_, fun h => ⟨i, h, rfl⟩⟩
    have hj2 := h.lt j (List.mem_of_mem_take hj)
    have := jobI_at hJ.nd hj2
    rw [e, jobI_at hJ.nd hi] at this
    rw [this]; exact hj
  refine ⟨?_, fun m hm2 => ?_⟩
  · rw [← Bool.not_eq_true, hm _ (h.lt _ (List.getElem_mem hk))]
    intro hin
    obtain ⟨j, hj, e⟩ := List.mem_take_iff_getElem.1 hin
    have := h.nd
    rw [List.nodup_iff_pairwise_ne] at this
    exact List.pairwise_iff_getElem.1 this j k (by omega) hk (by omega) e
  · have hm3 := List.mem_range.1 hm2
    cases hB : B m o[k]
    · rfl
    · rw [(hm m hm3).2 (h.bef k hk m hm3 hB)]; rfl
end Go.Proofs.YtfpnjbomlmhlpaaGreat

/- The edges between blocks: plain. -/
namespace Go.Proofs.YtfpnjbomlmhlpaaGreat

structure Nd where
  kind : Int
  block : List UInt8
  on : List UInt8
instance : Inhabited Nd := ⟨⟨0, [], []⟩⟩
def ndi (N : List Nd) (k : Nat) : Nd := N.getD k default
theorem ndi_lt {N : List Nd} {k : Nat} (h : k < N.length) : ndi N k = N[k] := by simp [ndi, h]
theorem ndi_mem {N : List Nd} {k : Nat} (h : k < N.length) : ndi N k ∈ N := by rw [ndi_lt h]; exact List.getElem_mem h
/-- x asks for a ahead of b -/
def asksN (x : Nd) (a b : List UInt8) : Bool := (x.kind == 1 && x.block == b && x.on == a) || (x.kind == 2 && x.block == a && x.on == b)
def comesF (N : List Nd) (a b : List UInt8) : Bool := N.any fun x => asksN x a b
def rowE (N : List Nd) (b : List (List UInt8)) (i m : Nat) : Edg := ((List.range m).filter fun k => decide (i ≠ k) && comesF N (bkI b i) (bkI b k)).map fun k => (i, k)
def edgF (N : List Nd) (b : List (List UInt8)) (n : Nat) : Edg := (List.range n).flatMap fun i => rowE N b i b.length
theorem rowE_succ (N : List Nd) (b : List (List UInt8)) (i m : Nat) : rowE N b i (m + 1) = rowE N b i m ++ if (decide (i ≠ m) && comesF N (bkI b i) (bkI b m)) = true then [(i, m)] else [] := by
  unfold rowE
  rw [List.range_succ, List.filter_append, List.map_append]
  congr 1
  rw [List.filter_cons, List.filter_nil]
  split <;> rfl
theorem edgF_succ (N : List Nd) (b : List (List UInt8)) (n : Nat) : edgF N b (n + 1) = edgF N b n ++ rowE N b n b.length := by
  unfold edgF
  rw [List.range_succ, List.flatMap_append, List.flatMap_singleton]
def ltE (x y : Nat × Nat) : Prop := x.1 < y.1 ∨ x.1 = y.1 ∧ x.2 < y.2
theorem mem_rowE {N : List Nd} {b : List (List UInt8)} {i m : Nat} {e : Nat × Nat} : e ∈ rowE N b i m ↔ e.1 = i ∧ e.2 < m ∧ e.1 ≠ e.2 ∧ comesF N (bkI b e.1) (bkI b e.2) = true := by
  unfold rowE
  rw [List.mem_map]
  constructor
  · rintro ⟨k, hk, rfl⟩
    rw [List.mem_filter, Bool.and_eq_true, decide_eq_true_eq, List.mem_range] at hk
    exact ⟨rfl, hk.1, hk.2.1, hk.2.2⟩
  · rintro ⟨rfl, h2, h3, h4⟩
    refine ⟨e.2, ?_, rfl⟩
    rw [List.mem_filter, Bool.and_eq_true, decide_eq_true_eq, List.mem_range]
    exact ⟨h2, h3, h4⟩
theorem mem_edgF {N : List Nd} {b : List (List UInt8)} {n : Nat} {e : Nat × Nat} : e ∈ edgF N b n ↔ e.1 < n ∧ e.2 < b.length ∧ e.1 ≠ e.2 ∧ comesF N (bkI b e.1) (bkI b e.2) = true := by
  unfold edgF
  rw [List.mem_flatMap]
  constructor
  · rintro ⟨i, hi, he⟩
    obtain ⟨h1, h2, h3, h4⟩ := mem_rowE.1 he
    exact ⟨by rw [h1]; exact List.mem_range.1 hi, h2, h3, h4⟩
  · rintro ⟨h1, h2, h3, h4⟩
    exact ⟨e.1, List.mem_range.2 h1, mem_rowE.2 ⟨rfl, h2, h3, h4⟩⟩
theorem rowE_pw (N : List Nd) (b : List (List UInt8)) (i m : Nat) : (rowE N b i m).Pairwise ltE := by
  unfold rowE
  rw [List.pairwise_map]
  refine List.Pairwise.filter _ ?_
  exact List.Pairwise.imp (fun h => .inr ⟨rfl, h⟩) (List.pairwise_lt_range (n := m))
theorem edgF_pw (N : List Nd) (b : List (List UInt8)) : ∀ n, (edgF N b n).Pairwise ltE
  | 0 => by simp [edgF]
  | n + 1 => by
    rw [edgF_succ, List.pairwise_append]
    refine ⟨edgF_pw N b n, rowE_pw N b n _, fun x hx y hy => ?_⟩
    have h1 := (mem_edgF.1 hx).1
    have h2 := (mem_rowE.1 hy).1
    exact .inl (by omega)
theorem ltE_irr (x : Nat × Nat) : ¬ ltE x x := by unfold ltE; omega
theorem ltE_asym {x y : Nat × Nat} (h : ltE x y) : ¬ ltE y x := by unfold ltE at *; omega
/-- two ascending lists with the same members are one -/
theorem asc_one {α : Type} {R : α → α → Prop} (hirr : ∀ x, ¬ R x x) (has : ∀ x y, R x y → ¬ R y x) : ∀ {l m : List α}, l.Pairwise R → m.Pairwise R → (∀ x, x ∈ l ↔ x ∈ m) → l = m
  | [], [], _, _, _ => rfl
  | [], y :: m, _, _, h => absurd ((h y).2 (List.mem_cons_self ..)) (by simp)
  | x :: l, [], _, _, h => absurd ((h x).1 (List.mem_cons_self ..)) (by simp)
  | x :: l, y :: m, hl, hm, h => by
    rw [List.pairwise_cons] at hl hm
    have e : x = y := by
      rcases List.mem_cons.1 ((h x).1 (List.mem_cons_self ..)) with e | hx
      · exact e
      rcases List.mem_cons.1 ((h y).2 (List.mem_cons_self ..)) with e | hy
      · exact e.symm
      · exact absurd (hl.1 y hy) (has _ _ (hm.1 x hx))
    subst e
    rw [asc_one hirr has hl.2 hm.2 fun z => ?_]
    constructor
    · intro hz
      rcases List.mem_cons.1 ((h z).1 (List.mem_cons_of_mem _ hz)) with e | hz2
      · subst e; exact absurd (hl.1 z hz) (hirr z)
      · exact hz2
    · intro hz
      rcases List.mem_cons.1 ((h z).2 (List.mem_cons_of_mem _ hz)) with e | hz2
      · subst e; exact absurd (hm.1 z hz) (hirr z)
      · exact hz2
/-- the program's pairs: those for the first m needs -/
def askE (x : Nd) (b : List (List UInt8)) (e : Nat × Nat) : Prop := e.1 < b.length ∧ e.2 < b.length ∧ e.1 ≠ e.2 ∧ asksN x (bkI b e.1) (bkI b e.2) = true
theorem edgF_of {N : List Nd} {b : List (List UInt8)} {E : Edg} (hp : E.Pairwise ltE) (hm : ∀ e, e ∈ E ↔ ∃ x ∈ N, askE x b e) : E = edgF N b b.length := by
  refine asc_one ltE_irr (fun _ _ => ltE_asym) hp (edgF_pw N b _) fun e => ?_
  rw [hm, mem_edgF]
  unfold comesF askE
  rw [List.any_eq_true]
  exact ⟨fun ⟨x, h1, h2, h3, h4, h5⟩ => ⟨h2, h3, h4, x, h1, h5⟩, fun ⟨h2, h3, h4, x, h1, h5⟩ => ⟨x, h1, h2, h3, h4, h5⟩⟩
/-! the search -/
/-- s is complete for what begins with l -/
def DoneS (J : List Hst) (B : Bef) (fr : Int) (l : List Ern) (found : Bool) (best : List Ern) : Prop := ∀ a, Reach J B fr a → a.length = J.length → l <+: a → found = true ∧ endF best ≤ endF a
/-- s' is as good as s -/
def ImpS (found : Bool) (best : List Ern) (found' : Bool) (best' : List Ern) : Prop := found = true → found' = true ∧ endF best' ≤ endF best
theorem ImpS.refl (f : Bool) (b : List Ern) : ImpS f b f b := fun h => ⟨h, Int.le_refl _⟩
theorem ImpS.trans {f f' f'' : Bool} {b b' b'' : List Ern} (h : ImpS f b f' b') (k : ImpS f' b' f'' b'') : ImpS f b f'' b'' := fun hf => by
  obtain ⟨h1, h2⟩ := h hf
  obtain ⟨k1, k2⟩ := k h1
  exact ⟨k1, by omega⟩
theorem DoneS.imp {J : List Hst} {B : Bef} {fr : Int} {l : List Ern} {f f' : Bool} {b b' : List Ern} (h : DoneS J B fr l f b) (k : ImpS f b f' b') : DoneS J B fr l f' b' := fun a h1 h2 h3 => by
  obtain ⟨x, y⟩ := h a h1 h2 h3
  obtain ⟨z, w⟩ := k x
  exact ⟨z, by omega⟩
theorem done_pruned {J : List Hst} {B : Bef} {fr : Int} (hJ : JobsOK J) (hf : 0 ≤ fr) {l : List Ern} {b : List Ern} (h : endF b ≤ endF l) : DoneS J B fr l true b := fun a h1 _ h3 => ⟨rfl, Int.le_trans h (end_prefix hJ hf h1 h3)⟩
theorem done_leaf {J : List Hst} {B : Bef} {fr : Int} {l : List Ern} (hl : l.length = J.length) : DoneS J B fr l true l := fun a _ h2 h3 => by
  have : l = a := h3.eq_of_length (by omega)
  subst this
  exact ⟨rfl, Int.le_refl _⟩
theorem done_all {J : List Hst} {B : Bef} {fr : Int} {l : List Ern} {f : Bool} {b : List Ern} (hl : l.length < J.length) (h : ∀ i, i < J.length → nextB J B l i = true → ∀ c ∈ (hsi J i).cranes, DoneS J B fr (l ++ [planned J B fr l i c]) f b) : DoneS J B fr l f b := fun a h1 h2 h3 => by
  obtain ⟨i, c, hi, hn, hc, hp⟩ := h1.child h3 (fun e => by subst e; omega)
  exact h i hi hn c hc a h1 h2 hp
end Go.Proofs.YtfpnjbomlmhlpaaGreat

/- Slices of elements of whatever type that a call owns: the builtin append, reading back; strings. -/
namespace Go.Proofs.YtfpnjbomlmhlpaaGreat
open Go.RowKit

/-- the builtin append onto a row that the call owns -/
theorem wp_app_gen {o : Oper} {a : Act} {K : Act → World → Prop} {Q : Exit → Act → World → Prop} {w : World} (s x : Operand) (t e : TypeId)
    (ho : o.op = .call { callee := .builtin .append, args := #[s, x], argTypes := #[t, t] }) (i : TypeInfo) (z : Value) (size bytes : Nat) (ht : Tryz.prog.underlying t = some (.slice e)) (hi : Tryz.prog.info? e = some i) (hz : i.zero = some z)
    (hsize : i.size = size) (hby : i.bytes = bytes) (hzs : z.cells.size = size) (hsz : 0 < size)
    (B : Nat) (v : Value) (n : Nat) (xs : List Value) (hs : a.eval s = v) (hown : w.ownsRow B e size v n xs)
    (ad : Addr) (m c : Nat) (hx : a.eval x = .slice (some ad) m c) (news : List Value) (hl : news.length = m * size) (hnews : ∀ j u, news[j]? = some u → w.cell? (ad.add j) = some u) (h1 : ∀ u ∈ news, u.oneCell' = true)
    (h63 : n + m ≤ maxLen) (hbytes : (n + m) * bytes ≤ 140737488355328) (hb : B ≤ w.heap.size)
    (h : ∀ v' w', w'.ownsRow B e size v' (n + m) (xs ++ news) → w.grownBy w' v.ownBlock → (v'.ownBlock = v.ownBlock ∨ v'.ownBlock = some w.heap.size) → K (a.put o.dst v') w') : o.wp Tryz.prog a w K Q := by
  obtain ⟨v', w', hr, h2, h3, _, h4⟩ := run_append_own_at (P := Tryz.prog) w B t o.type e i z size bytes ht hi hz hsize hby hzs hsz v n xs hown ad m c news hl hnews h1 h63 hbytes hb
  unfold Oper.wp execOp
  simp only [ho, resolve, invoke, builtin, Sem.run_bind, Sem.run_pure, Result.andThen_ok, List.map_toArray, List.map_cons, List.map_nil, hs, hx, hr]
  exact h v' w' h2 h3 h4

/-! rows of elements of some cells each -/
theorem flat_len {T : Type} (f : T → List Value) {n : Nat} (hf : ∀ x, (f x).length = n) (xs : List T) : (xs.flatMap f).length = xs.length * n := by
  induction xs with
  | nil => simp
  | cons x xs ih => rw [List.flatMap_cons, List.length_append, ih, hf, List.length_cons, Nat.add_mul]; omega
theorem flat_get {T : Type} (f : T → List Value) {n : Nat} (hf : ∀ x, (f x).length = n) : ∀ (xs : List T) (i j : Nat) (h : i < xs.length), j < n → (xs.flatMap f)[i * n + j]? = (f xs[i])[j]? := by
  intro xs
  induction xs with
  | nil => intro i j h; simp at h
  | cons x xs ih =>
    intro i j h hj
    rw [List.flatMap_cons]
    cases i with
    | zero => rw [List.getElem?_append_left (by rw [hf]; omega)]; simp
    | succ i =>
      have hi : i < xs.length := by simpa using h
      have he : (i + 1) * n + j = (f x).length + (i * n + j) := by rw [hf, Nat.add_mul]; omega
      rw [he, List.getElem?_append_right (by omega), Nat.add_sub_cancel_left, ih i j hi hj]; simp
theorem own_flat_form {T : Type} {f : T → List Value} {sz : Nat} {w : World} {B : Nat} {e : TypeId} {v : Value} {xs : List T} (h : w.ownsRow B e sz v xs.length (xs.flatMap f)) :
    (v = .slice none 0 0 ∧ xs = []) ∨ ∃ g cap, v = .slice (some ⟨g, 0, none⟩) xs.length cap ∧ B ≤ g ∧ g < w.heap.size ∧ xs.length ≤ cap ∧ cap ≤ maxLen ∧ ∀ j, j < xs.length * sz → w.cell? ⟨g, j, none⟩ = (xs.flatMap f)[j]? := by
  have h0 := h
  rcases h.2 with ⟨rfl, hn⟩ | ⟨g, cap, cur, rfl, hb, hg, hn, hm, hs, ht⟩
  · exact .inl ⟨rfl, List.eq_nil_of_length_eq_zero hn⟩
  · exact .inr ⟨g, cap, rfl, hb, lt_of_block hg, hn, hm, fun j hj => h0.cellAt j hj⟩

/-! strings -/
def zi (ss : List ByteArray) (k : Nat) : ByteArray := ss.getD k .empty
theorem Tryz_infoStr : (Tryz.prog.info? 9).map (fun i => (i.zero, i.size, i.bytes)) = some (some (.string ⟨#[]⟩), 1, 16) := by kernel_rfl
def OwnZ (w : World) (B : Nat) (v : Value) (ss : List ByteArray) : Prop := w.ownsRow B 9 1 v ss.length (ss.map Value.string)
theorem OwnZ_nil (w : World) (B : Nat) : OwnZ w B (.slice none 0 0) [] := World.ownsRow_nil _ _ _ _
theorem OwnZ.below {w w' : World} {B : Nat} {v : Value} {r : List ByteArray} (h : OwnZ w B v r) (hb : Below w.heap.size w w') : OwnZ w' B v r := owns_below h hb
theorem OwnZ.lt {w : World} {B : Nat} {v : Value} {r : List ByteArray} (h : OwnZ w B v r) (k : Nat) (hk : v.ownBlock = some k) : B ≤ k ∧ k < w.heap.size := World.ownsRow.lt h k hk
theorem OwnZ.sl {w : World} {B : Nat} {v : Value} {ss : List ByteArray} (h : OwnZ w B v ss) : Sl w v ss.length fun i => .string (zi ss i) := by
  obtain ⟨a, cap, rfl, h1, h2, h3⟩ := Sl_of_owns h
  refine ⟨a, cap, rfl, h1, h2, fun i hi => ?_⟩
  obtain ⟨b, off, ha, hc⟩ := h3 i hi
  refine ⟨b, off, ha, ?_⟩
  rw [hc]
  simp [zi, hi]
/-- one string more -/
theorem wp_app_str {o : Oper} {a : Act} {K : Act → World → Prop} {Q : Exit → Act → World → Prop} {w : World} (s x : Operand)
    (ho : o.op = .call { callee := .builtin .append, args := #[s, x], argTypes := #[43, 43] }) (B : Nat) (v : Value) (ss : List ByteArray) (hs : a.eval s = v) (hown : OwnZ w B v ss)
    (g c : Nat) (y : ByteArray) (hx : a.eval x = .slice (some ⟨g, 0, none⟩) 1 c) (hy : w.cell? ⟨g, 0, none⟩ = some (.string y)) (hlen : ss.length ≤ 2000000) (hb : B ≤ w.heap.size)
    (h : ∀ v' w', OwnZ w' B v' (ss ++ [y]) → w.grownBy w' v.ownBlock → (v'.ownBlock = v.ownBlock ∨ v'.ownBlock = some w.heap.size) → K (a.put o.dst v') w') : o.wp Tryz.prog a w K Q := by
  obtain ⟨i, hi, hz0, hz1, hz2⟩ := info_parts Tryz_infoStr
  refine wp_app_gen s x 43 9 ho i (.string ⟨#[]⟩) 1 16 Tryz.underlying43 hi hz0 hz1 hz2 rfl (by decide) B v ss.length (ss.map Value.string) hs hown ⟨g, 0, none⟩ 1 c hx [.string y] rfl (fun j u hj => ?_) (fun u hu => ?_) (by unfold maxLen; omega) (by omega) hb fun v' w' h1 h2 h3 => h v' w' ?_ h2 h3
  · match j, hj with
    | 0, hj => simp at hj; subst hj; simpa [Addr.add] using hy
  · simp at hu; subst hu; rfl
  · unfold OwnZ
    rw [List.length_append, List.map_append]
    exact h1
end Go.Proofs.YtfpnjbomlmhlpaaGreat

/- Small laws of memory for seats without slices of integers: rows that a call owns, the builtin append, strings. -/
namespace Go.Proofs.YtfpnjbomlmhlpaaGreat
open Go.RowKit
theorem cell_drew' {w : World} {p : Addr} {v : Value} (h : w.cell? p = some v) : w.drew.cell? p = some v := h
theorem cell_alloc' {w : World} {p : Addr} {v : Value} (h : w.cell? p = some v) (o : Obj) : (w.alloc o).cell? p = some v := cell_keep ((Below.refl _ _).alloc (Nat.le_refl _) _) h
theorem below_alloc {a b : World} (h : Below a.heap.size a b) (o : Obj) : Below a.heap.size a (b.alloc o) := h.alloc h.size o
theorem grownBy_set (w : World) (b o : Nat) (v : Value) : w.grownBy (w.setCell ⟨b, o, none⟩ v) (some b) :=
  ⟨rfl, rfl, rfl, by simp [World.setCell], fun k hk hn => Below.heap_setCell _ _ _ _ (fun e => hn (by simp [e]))⟩
theorem set_far {w : World} {b o k : Nat} {v : Value} (h : k ≠ b) : (w.setCell ⟨b, o, none⟩ v).heap[k]? = w.heap[k]? := Below.heap_setCell _ _ _ _ h
theorem cell_set_far {w : World} {b o : Nat} {x v : Value} {p : Addr} (h : w.cell? p = some v) (hne : p.block ≠ b) : (w.setCell ⟨b, o, none⟩ x).cell? p = some v := (World.cell?_of_block (a := p) (set_far hne)).trans h
end Go.Proofs.YtfpnjbomlmhlpaaGreat

/- Names and identifiers as lists of bytes: what stands between full stops; joining; in plain Lean. -/
namespace Go.Proofs.YtfpnjbomlmhlpaaGreat

def letC (c : UInt8) : Bool := (decide (97 ≤ c.toNat) && decide (c.toNat ≤ 122)) || (decide (65 ≤ c.toNat) && decide (c.toNat ≤ 90))
def digC (c : UInt8) : Bool := decide (48 ≤ c.toNat) && decide (c.toNat ≤ 57)
def okC (c : UInt8) : Bool := letC c || digC c || c == 95 || c == 45
def nameB (l : List UInt8) : Bool := !l.isEmpty && decide (l.length ≤ 16) && letC (l.headD 0) && l.all okC
/-- what stands between the full stops -/
def cutL : List UInt8 → List (List UInt8)
  | [] => [[]]
  | c :: r => if c = 46 then [] :: cutL r else match cutL r with
    | [] => [[c]]
    | x :: xs => (c :: x) :: xs
def joinL : List (List UInt8) → List UInt8
  | [] => []
  | [x] => x
  | x :: y :: xs => x ++ 46 :: joinL (y :: xs)
def idB (l : List UInt8) : Bool := decide (l.length ≤ 64) && decide ((cutL l).length ≤ 8) && (cutL l).all nameB
def namesB (ls : List (List UInt8)) : Bool := decide (1 ≤ ls.length) && decide (ls.length ≤ 8) && ls.all nameB && decide ((joinL ls).length ≤ 64)

theorem cutL_ne (l : List UInt8) : cutL l ≠ [] := by
  cases l with
  | nil => simp [cutL]
  | cons c r =>
    unfold cutL
    split
    · simp
    · split <;> simp
theorem cutL_dot (r : List UInt8) : cutL (46 :: r) = [] :: cutL r := by rw [cutL, if_pos rfl]
theorem cutL_other {c : UInt8} {r : List UInt8} (h : c ≠ 46) : ∃ x xs, cutL r = x :: xs ∧ cutL (c :: r) = (c :: x) :: xs := by
  cases e : cutL r with
  | nil => exact absurd e (cutL_ne r)
  | cons x xs => exact ⟨x, xs, rfl, by rw [cutL, if_neg h, e]⟩
theorem joinL_cons {x : List UInt8} {xs : List (List UInt8)} (h : xs ≠ []) : joinL (x :: xs) = x ++ 46 :: joinL xs := by
  cases xs with
  | nil => exact absurd rfl h
  | cons y xs => rfl
theorem join_cut (l : List UInt8) : joinL (cutL l) = l := by
  induction l with
  | nil => rfl
  | cons c r ih =>
    by_cases h : c = 46
    · subst h
      rw [cutL_dot, joinL_cons (cutL_ne r), ih]; rfl
    · obtain ⟨x, xs, e1, e2⟩ := cutL_other (r := r) h
      rw [e2]
      rw [e1] at ih
      cases xs with
      | nil => simp [joinL] at ih ⊢; exact ih
      | cons y ys => rw [joinL_cons (by simp)] at ih ⊢; rw [← ih]; rfl
theorem cut_plain {x : List UInt8} (h : ∀ c ∈ x, c ≠ 46) : cutL x = [x] := by
  induction x with
  | nil => rfl
  | cons c r ih =>
    obtain ⟨y, ys, e1, e2⟩ := cutL_other (c := c) (r := r) (h c (by simp))
    rw [ih fun d hd => h d (by simp [hd])] at e1
    simp at e1
    rw [e2, ← e1.1, ← e1.2]
theorem cut_append {x r : List UInt8} (h : ∀ c ∈ x, c ≠ 46) : cutL (x ++ 46 :: r) = x :: cutL r := by
  induction x with
  | nil => exact cutL_dot r
  | cons c x ih =>
    obtain ⟨y, ys, e1, e2⟩ := cutL_other (c := c) (r := x ++ 46 :: r) (h c (by simp))
    rw [ih fun d hd => h d (by simp [hd])] at e1
    simp at e1
    rw [List.cons_append, e2, ← e1.1, ← e1.2]
theorem cut_join {ls : List (List UInt8)} (h0 : ls ≠ []) (h : ∀ x ∈ ls, ∀ c ∈ x, c ≠ 46) : cutL (joinL ls) = ls := by
  induction ls with
  | nil => exact absurd rfl h0
  | cons x xs ih =>
    cases xs with
    | nil => exact cut_plain (h x (by simp))
    | cons y ys =>
      rw [joinL_cons (by simp), cut_append (h x (by simp)), ih (by simp) fun z hz => h z (by simp [hz])]
theorem okC_dot {c : UInt8} (h : okC c = true) : c ≠ 46 := by rintro rfl; exact absurd h (by decide)
theorem nameB_dot {l : List UInt8} (h : nameB l = true) : ∀ c ∈ l, c ≠ 46 := by
  unfold nameB at h
  simp only [Bool.and_eq_true, List.all_eq_true] at h
  exact fun c hc => okC_dot (h.2 c hc)
theorem nameB_len {l : List UInt8} (h : nameB l = true) : l.length ≤ 16 := by
  unfold nameB at h
  simp only [Bool.and_eq_true, decide_eq_true_eq] at h
  exact h.1.1.2
theorem idB_names (l : List UInt8) : idB l = namesB (cutL l) := by
  unfold idB namesB
  rw [join_cut]
  have : decide (1 ≤ (cutL l).length) = true := by
    rw [decide_eq_true_eq]
    have := cutL_ne l
    cases h : cutL l with
    | nil => exact absurd h this
    | cons x xs => simp
  rw [this]
  cases decide (l.length ≤ 64) <;> cases decide ((cutL l).length ≤ 8) <;> cases (cutL l).all nameB <;> rfl
theorem namesB_id {ls : List (List UInt8)} (h : namesB ls = true) : idB (joinL ls) = true ∧ cutL (joinL ls) = ls := by
  have h' := h
  unfold namesB at h
  simp only [Bool.and_eq_true, decide_eq_true_eq, List.all_eq_true] at h
  have h0 : ls ≠ [] := by rintro rfl; simp at h
  have hc := cut_join h0 fun x hx => nameB_dot (h.1.2 x hx)
  exact ⟨by rw [idB_names, hc]; exact h', hc⟩
theorem joinL_length {ls : List (List UInt8)} (h : ls ≠ []) : (joinL ls).length + 1 = (ls.map List.length).sum + ls.length := by
  induction ls with
  | nil => exact absurd rfl h
  | cons x xs ih =>
    cases xs with
    | nil => simp [joinL]
    | cons y ys =>
      rw [joinL_cons (by simp), List.length_append, List.length_cons, List.map_cons, List.sum_cons, List.length_cons]
      have := ih (by simp)
      omega

/-! the library's split -/
theorem index_dot {x r : List UInt8} (h : 46 ∉ x) : Go.Lib.index (x ++ 46 :: r) [46] = x.length := by
  induction x with
  | nil => simp [Go.Lib.index, List.isPrefixOf]
  | cons c x ih =>
    simp only [List.mem_cons, not_or] at h
    rw [List.cons_append, Go.Lib.index, ih h.2, if_neg (by simp [List.isPrefixOf]; exact h.1), if_neg (by rw [beq_iff_eq]; omega)]
    simp
theorem index_no {x : List UInt8} (h : 46 ∉ x) : Go.Lib.index x [46] = -1 := by
  induction x with
  | nil => rfl
  | cons c x ih =>
    simp only [List.mem_cons, not_or] at h
    rw [Go.Lib.index, ih h.2, if_neg (by simp [List.isPrefixOf]; exact h.1)]; rfl
theorem splitK_dot : ∀ (k : Nat) (l : List UInt8), l.count 46 ≤ k → Go.Lib.splitK [46] 0 k l = cutL l := by
  intro k
  induction k with
  | zero =>
    intro l h
    have h0 : ∀ c ∈ l, c ≠ 46 := fun c hc e => by subst e; have := List.count_pos_iff.2 hc; omega
    rw [cut_plain h0]; rfl
  | succ k ih =>
    intro l h
    by_cases hm : (46 : UInt8) ∈ l
    · obtain ⟨x, r, rfl, hx⟩ := List.eq_append_cons_of_mem hm
      have hi := index_dot (x := x) (r := r) hx
      rw [Go.Lib.splitK, hi, if_neg (by rw [beq_iff_eq]; omega), cut_append fun c hc e => hx (e ▸ hc)]
      have e1 : ((x.length : Int).toNat + 0) = x.length := by omega
      have e2 : ((x.length : Int).toNat + [(46 : UInt8)].length) = x.length + 1 := by simp
      rw [e1, e2, List.take_left, show (x ++ 46 :: r).drop (x.length + 1) = r by rw [List.drop_append]; simp, ih r (by simp [List.count_append, List.count_cons] at h; omega)]
    · rw [Go.Lib.splitK, index_no hm, cut_plain fun c hc e => hm (e ▸ hc)]; rfl
theorem count_dot : ∀ (n : Nat) (l : List UInt8), l.length = n → Go.Lib.count l [46] = l.count 46 := by
  intro n
  induction n using Nat.strongRecOn with
  | _ n ih =>
    intro l hl
    by_cases hm : (46 : UInt8) ∈ l
    · obtain ⟨x, r, rfl, hx⟩ := List.eq_append_cons_of_mem hm
      have hx0 : x.count 46 = 0 := List.count_eq_zero.2 hx
      rw [Go.Lib.count_hit (by simp) (index_dot hx), show (x ++ 46 :: r).drop (x.length + [(46 : UInt8)].length) = r by rw [List.drop_append]; simp, ih r.length (by simp at hl; omega) r rfl, List.count_append, List.count_cons, hx0]
      simp; omega
    · rw [Go.Lib.count_miss (index_no hm), List.count_eq_zero.2 hm]
theorem split_dot (l : List UInt8) : Go.Lib.split l [46] = cutL l := splitK_dot _ l (by rw [count_dot _ l rfl]; exact Nat.le_refl _)
theorem cutL_length (l : List UInt8) : (cutL l).length = l.count 46 + 1 := by
  induction l with
  | nil => rfl
  | cons c r ih =>
    by_cases h : c = 46
    · subst h; rw [cutL_dot, List.length_cons, ih, List.count_cons]; simp
    · obtain ⟨x, xs, e1, e2⟩ := cutL_other (r := r) h
      rw [e1] at ih
      rw [e2, List.count_cons, List.length_cons, if_neg (by simpa using h)]
      simp at ih; omega
end Go.Proofs.YtfpnjbomlmhlpaaGreat

/- A range over a string: what the next step gives, whatever the bytes. -/
namespace Go.Proofs.YtfpnjbomlmhlpaaGreat

theorem run_next_any {P : Program} (w : World) (s : ByteArray) (pos : Nat) (ty : TypeId) (h : pos < s.size) :
    (Instr.next (.pointer (some ⟨w.heap.size, 0, none⟩)) true ty).run P (w.iter s pos) = .ok (.tuple #[.bool true, .int .i64 pos, .int .i32 (Utf8.decode s pos).1]) (w.iter s (pos + (Utf8.decode s pos).2)) := by
  obtain ⟨r, n, e⟩ : ∃ r n, Utf8.decode s pos = (r, n) := ⟨_, _, rfl⟩
  simp only [Instr.next, getObj, setObj, Sem.run_bind, Sem.run, World.iter_heap, Result.andThen, h, if_true, e, World.iter_set]
  simp [goInt, Sem.run, World.iter_heap, World.iter_set]
/-- a byte beyond ASCII begins no ASCII rune -/
theorem decode_high (s : ByteArray) (pos : Nat) (h : pos < s.size) (ha : 128 ≤ (s[pos]'h).toNat) : 128 ≤ (Utf8.decode s pos).1 ∧ (Utf8.decode s pos).1 ≤ 1114111 := by
  have e : s.get! pos = s[pos]'h := by
    simp [ByteArray.get!, getElem!_pos, h]
    rfl
  rw [Go.Lib.decode_at, e]
  have hb := (s[pos]'h).toNat_lt
  have hs := Go.Lib.decodeN_shape (s.size - pos) (s[pos]'h).toNat (s.get! (pos + 1)).toNat (s.get! (pos + 2)).toNat (s.get! (pos + 3)).toNat
  rcases hs with h1 | h1 | h1 | h1 | h1
  · omega
  · obtain ⟨a, b, c, d, e⟩ := h1; rw [e]; omega
  · obtain ⟨a, b, c, d, f, g, e⟩ := h1; rw [e]; omega
  · obtain ⟨a, b, c, d, f, g, i, e⟩ := h1; rw [e]; omega
  · rw [h1]; omega
end Go.Proofs.YtfpnjbomlmhlpaaGreat

/- Contracts: bytes and names of ident and of its reference. -/
namespace Go.Proofs.YtfpnjbomlmhlpaaGreat
open Go.RowKit

theorem digit_any (c : UInt8) (w : World) : Calls Tryz.prog 88 #[.int .u8 c.toNat] w fun e w' => e = .returned (.bool (digC c)) ∧ ∃ m, w' = w.drewN m := by
  have hc : (c.toNat : Int) < 256 := by have := c.toNat_lt; omega
  by_cases h1 : (48 : Int) ≤ c.toNat
  all_goals by_cases h2 : (c.toNat : Int) ≤ 57
  all_goals
    have HD : Hid (digC c = (decide ((48 : Int) ≤ c.toNat) && decide ((c.toNat : Int) ≤ 57))) := by show _ = _; unfold digC; rw [Bool.eq_iff_iff]; simp; omega
    go_enter Tryz.func88, Tryz.ntmps88
    go_wp2_with fail
    go_ret
    refine ⟨ret_bool ?_, 0, rfl⟩
    rw [HD.out, Bool.eq_iff_iff]; simp <;> omega
theorem letter_any (c : UInt8) (w : World) : Calls Tryz.prog 87 #[.int .u8 c.toNat] w fun e w' => e = .returned (.bool (letC c)) ∧ ∃ m, w' = w.drewN m := by
  have hc : (c.toNat : Int) < 256 := by have := c.toNat_lt; omega
  have HD : Hid (letC c = ((decide ((97 : Int) ≤ c.toNat) && decide ((c.toNat : Int) ≤ 122)) || (decide ((65 : Int) ≤ c.toNat) && decide ((c.toNat : Int) ≤ 90)))) := by show _ = _; unfold letC; rw [Bool.eq_iff_iff]; simp; omega
  by_cases h1 : (97 : Int) ≤ c.toNat
  all_goals by_cases h2 : (c.toNat : Int) ≤ 122
  all_goals by_cases h3 : (65 : Int) ≤ c.toNat
  all_goals by_cases h4 : (c.toNat : Int) ≤ 90
  all_goals first
    | (exfalso; omega)
    | (go_enter Tryz.func87, Tryz.ntmps87
       go_wp2_with fail
       go_ret
       refine ⟨ret_bool ?_, 0, rfl⟩
       rw [HD.out, Bool.eq_iff_iff]; simp <;> omega)
end Go.Proofs.YtfpnjbomlmhlpaaGreat

/- Contracts: IsName of ident. -/
namespace Go.Proofs.YtfpnjbomlmhlpaaGreat
open Go.RowKit

theorem letC_int {c : UInt8} : letC c = true ↔ ((97 : Int) ≤ c.toNat ∧ (c.toNat : Int) ≤ 122) ∨ ((65 : Int) ≤ c.toNat ∧ (c.toNat : Int) ≤ 90) := by unfold letC; simp; omega
theorem okC_int {c : UInt8} : okC c = true ↔ ((97 : Int) ≤ c.toNat ∧ (c.toNat : Int) ≤ 122) ∨ ((65 : Int) ≤ c.toNat ∧ (c.toNat : Int) ≤ 90) ∨ ((48 : Int) ≤ c.toNat ∧ (c.toNat : Int) ≤ 57) ∨ (c.toNat : Int) = 95 ∨ (c.toNat : Int) = 45 := by
  unfold okC letC digC
  simp only [Bool.or_eq_true, Bool.and_eq_true, decide_eq_true_eq, beq_iff_eq]
  have e1 : c = 95 ↔ (c.toNat : Int) = 95 := by rw [← UInt8.toNat_inj]; show c.toNat = 95 ↔ _; omega
  have e2 : c = 45 ↔ (c.toNat : Int) = 45 := by rw [← UInt8.toNat_inj]; show c.toNat = 45 ↔ _; omega
  rw [e1, e2]; omega
/-- the bytes of a name, one by one -/
def okAt (s : ByteArray) (j : Nat) : Bool := if j = 0 then letC (s.data.toList.getD 0 0) else okC (s.data.toList.getD j 0)
theorem getD_byte (s : ByteArray) {j : Nat} (h : j < s.size) : s.data.toList.getD j 0 = s[j] := by
  have h' : j < s.data.toList.length := by simpa using h
  rw [List.getD_eq_getElem?_getD, List.getElem?_eq_getElem h']; rfl
theorem okC_let {c : UInt8} (h : letC c = true) : okC c = true := by unfold okC; rw [h]; rfl
theorem nameB_all {s : ByteArray} (h0 : 0 < s.size) (h16 : s.size ≤ 16) (h : ∀ j, j < s.size → okAt s j = true) : nameB s.data.toList = true := by
  have hl : s.data.toList.length = s.size := by simp
  have h1 := h 0 h0
  unfold okAt at h1
  rw [if_pos rfl] at h1
  unfold nameB
  simp only [Bool.and_eq_true, decide_eq_true_eq, List.all_eq_true]
  refine ⟨⟨⟨?_, by omega⟩, ?_⟩, fun c hc => ?_⟩
  · cases hh : s.data.toList with
    | nil => rw [hh] at hl; simp at hl; omega
    | cons x xs => rfl
  · rw [List.headD_eq_head?_getD, List.head?_eq_getElem?, ← List.getD_eq_getElem?_getD]; exact h1
  · obtain ⟨j, hj, rfl⟩ := List.mem_iff_getElem.1 hc
    have h2 := h j (by omega)
    unfold okAt at h2
    have e : s.data.toList.getD j 0 = s.data.toList[j] := by rw [List.getD_eq_getElem?_getD, List.getElem?_eq_getElem hj]; rfl
    by_cases hz : j = 0
    · subst hz; rw [if_pos rfl, e] at h2; exact okC_let h2
    · rw [if_neg hz, e] at h2; exact h2
theorem nameB_not {s : ByteArray} {j : Nat} (hj : j < s.size) (h : okAt s j = false) : nameB s.data.toList = false := by
  cases hn : nameB s.data.toList
  · rfl
  · exfalso
    unfold nameB at hn
    simp only [Bool.and_eq_true, decide_eq_true_eq, List.all_eq_true] at hn
    have hl : s.data.toList.length = s.size := by simp
    have hj' : j < s.data.toList.length := by omega
    have e : s.data.toList.getD j 0 = s.data.toList[j] := by rw [List.getD_eq_getElem?_getD, List.getElem?_eq_getElem hj']; rfl
    unfold okAt at h
    by_cases hz : j = 0
    · subst hz
      rw [if_pos rfl] at h
      have h1 := hn.1.2
      rw [List.headD_eq_head?_getD, List.head?_eq_getElem?, ← List.getD_eq_getElem?_getD, h] at h1
      cases h1
    · rw [if_neg hz, e, hn.2 _ (List.getElem_mem hj')] at h; cases h
theorem nameB_empty : nameB (⟨#[]⟩ : ByteArray).data.toList = false := rfl
theorem nameB_long {s : ByteArray} (h : 16 < s.size) : nameB s.data.toList = false := by
  cases hn : nameB s.data.toList
  · rfl
  · have := nameB_len hn; simp at this; omega
theorem byte_empty {s : ByteArray} (h : s.size = 0) : s = ⟨#[]⟩ := by
  cases s with
  | mk d => congr; exact Array.eq_empty_of_size_eq_zero h
theorem toList_data (s : ByteArray) : s.toList = s.data.toList := Go.ByteArray.toList_eq s

end Go.Proofs.YtfpnjbomlmhlpaaGreat
