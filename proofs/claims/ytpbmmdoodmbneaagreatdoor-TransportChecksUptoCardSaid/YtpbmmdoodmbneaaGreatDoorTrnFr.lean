/- What the bound on the arguments gives: the items of a yard's moves are short. -/
import Derived.Test.YtpbmmdoodmbneaaGreatDoorTrnX
import Derived.Test.YtpbmmdoodmbneaaGreatDoorRowL
import Derived.Deep.DeepHandedRow

/- The frame of transport's rows: a yard, trips, a small number that came in. -/
namespace Go.Proofs.YtpbmmdoodmbneaaGreatDoor
open Go.ChangeShapes Go.WideShapes Go.ChangeAt Go.RowKit Go.Deep

theorem mlen_of {W : World} (h : W.ShapedOpen Tryz.prog) : MLen W :=
  cell_of_shapedOpen_int (P := Tryz.prog) (g := 0) (t := 3) (zero := #[.int .i64 0]) h (of_decide_eq_true (by kernel_rfl)) (by kernel_rfl) rfl (by kernel_rfl) (by kernel_rfl) Tryz.underlying3
theorem nat_u16 {n : Int} (h : (Lit.int .u16 n).wf = true) : ∃ m : Nat, n = m ∧ m < 65536 := by
  simp [Lit.wf, IntKind.min, IntKind.max, IntKind.signed, IntKind.bits] at h
  exact ⟨n.toNat, by omega, by omega⟩
section
variable {H : Type} {enc : TypeId × Value → H} {W : World}
theorem leaves_yard : leavesOf Tryz.prog 3 26 = some [22, 23, 24] := by kernel_rfl
theorem leaves_truck : leavesOf Tryz.prog 3 36 = some [9, 3, 3] := by kernel_rfl
theorem leaves_move : leavesOf Tryz.prog 3 39 = some [9, 3, 3, 3, 3] := by kernel_rfl
theorem leaves_trip : leavesOf Tryz.prog 3 43 = some [9, 9, 3, 3] := by kernel_rfl
theorem leaves_ints : leavesOf Tryz.prog 3 37 = some [37] := by kernel_rfl
def gInt : Value → Int | .int .i64 k => k | _ => 0
def gStr : Value → List UInt8 | .string s => s.data.toList | _ => []
theorem gInt_of {q : Nat} {v : Value} {y : DataW H × List MemPlace} (h : DataW.trod enc Tryz.prog W 0 (fun _ => true) true q 3 [v] = some y) : v = .int .i64 (gInt v) := by
  obtain ⟨k, e, _⟩ := int_trod Tryz.underlying3 h
  rw [e]; rfl
theorem gStr_of {q : Nat} {v : Value} {y : DataW H × List MemPlace} (h : DataW.trod enc Tryz.prog W 0 (fun _ => true) true q 9 [v] = some y) : v = .string (bs (gStr v)) ∧ (gStr v).length ≤ maxLen := by
  obtain ⟨s, e, hs⟩ := str_trod Tryz.underlying9 h
  rw [e]
  exact ⟨by show _ = Value.string (bs s.data.toList); rw [bs_of], by show s.data.toList.length ≤ _; rw [Array.length_toList]; exact hs⟩
theorem trucks_trod {fuel : Nat} {v : Value} {x : DataW H × List MemPlace} (h : DataW.trod enc Tryz.prog W 0 (fun _ => true) true fuel 22 [v] = some x) : ∃ l : List Trk, SK W v l ∧ ∀ t ∈ l, t.name.length ≤ maxLen := by
  obtain ⟨v', m, C, hcs, ⟨a, cap, rfl, h1, h2, h3⟩, hC⟩ := open_rows Tryz.underlying22 leaves_truck (by kernel_rfl) (by decide) h
  simp at hcs
  subst hcs
  let X : Nat → Trk := fun i => ⟨gStr (C i 0), gInt (C i 1), gInt (C i 2)⟩
  have hl : ((List.range m).map X).length = m := by simp
  have hk : ∀ i, i < m → tki ((List.range m).map X) i = X i := fun i hi => by simp [tki, hi]
  refine ⟨(List.range m).map X, ⟨a, cap, by rw [hl], by rw [hl]; exact h1, h2, fun i hi => ?_⟩, fun t ht => ?_⟩
  · rw [hl] at hi
    obtain ⟨b, off, ha, hc⟩ := h3 i hi
    refine ⟨b, off, ha, ?_⟩
    rw [hk i hi]
    obtain ⟨q0, y0, t0⟩ := hC i hi 0 _ rfl
    obtain ⟨q1, y1, t1⟩ := hC i hi 1 _ rfl
    obtain ⟨q2, y2, t2⟩ := hC i hi 2 _ rfl
    exact ⟨by rw [← (gStr_of t0).1]; exact hc 0 (by decide), by rw [← gInt_of t1]; exact hc 1 (by decide), by rw [← gInt_of t2]; exact hc 2 (by decide)⟩
  · obtain ⟨i, hi, rfl⟩ := List.mem_map.1 ht
    obtain ⟨q0, y0, t0⟩ := hC i (List.mem_range.1 hi) 0 _ rfl
    exact (gStr_of t0).2
theorem moves_trod {fuel : Nat} {v : Value} {x : DataW H × List MemPlace} (h : DataW.trod enc Tryz.prog W 0 (fun _ => true) true fuel 24 [v] = some x) : ∃ l : List Mov, SM W v l ∧ ∀ t ∈ l, t.item.length ≤ maxLen := by
  obtain ⟨v', m, C, hcs, ⟨a, cap, rfl, h1, h2, h3⟩, hC⟩ := open_rows Tryz.underlying24 leaves_move (by kernel_rfl) (by decide) h
  simp at hcs
  subst hcs
  let X : Nat → Mov := fun i => ⟨gStr (C i 0), gInt (C i 1), gInt (C i 2), gInt (C i 3), gInt (C i 4)⟩
  have hl : ((List.range m).map X).length = m := by simp
  have hk : ∀ i, i < m → mvi ((List.range m).map X) i = X i := fun i hi => by simp [mvi, hi]
  refine ⟨(List.range m).map X, ⟨a, cap, by rw [hl], by rw [hl]; exact h1, h2, fun i hi => ?_⟩, fun t ht => ?_⟩
  · rw [hl] at hi
    obtain ⟨b, off, ha, hc⟩ := h3 i hi
    refine ⟨b, off, ha, ?_⟩
    rw [hk i hi]
    obtain ⟨q0, y0, t0⟩ := hC i hi 0 _ rfl
    obtain ⟨q1, y1, t1⟩ := hC i hi 1 _ rfl
    obtain ⟨q2, y2, t2⟩ := hC i hi 2 _ rfl
    obtain ⟨q3, y3, t3⟩ := hC i hi 3 _ rfl
    obtain ⟨q4, y4, t4⟩ := hC i hi 4 _ rfl
    exact ⟨by rw [← (gStr_of t0).1]; exact hc 0 (by decide), by rw [← gInt_of t1]; exact hc 1 (by decide), by rw [← gInt_of t2]; exact hc 2 (by decide), by rw [← gInt_of t3]; exact hc 3 (by decide), by rw [← gInt_of t4]; exact hc 4 (by decide)⟩
  · obtain ⟨i, hi, rfl⟩ := List.mem_map.1 ht
    obtain ⟨q0, y0, t0⟩ := hC i (List.mem_range.1 hi) 0 _ rfl
    exact (gStr_of t0).2
theorem trips_trod {fuel : Nat} {v : Value} {x : DataW H × List MemPlace} (h : DataW.trod enc Tryz.prog W 0 (fun _ => true) true fuel 27 [v] = some x) : ∃ l : List Trp, SX W v l ∧ ∀ t ∈ l, t.item.length ≤ maxLen ∧ t.truck.length ≤ maxLen := by
  obtain ⟨v', m, C, hcs, ⟨a, cap, rfl, h1, h2, h3⟩, hC⟩ := open_rows Tryz.underlying27 leaves_trip (by kernel_rfl) (by decide) h
  simp at hcs
  subst hcs
  let X : Nat → Trp := fun i => ⟨gStr (C i 0), gStr (C i 1), gInt (C i 2), gInt (C i 3)⟩
  have hl : ((List.range m).map X).length = m := by simp
  have hk : ∀ i, i < m → tpi ((List.range m).map X) i = X i := fun i hi => by simp [tpi, hi]
  refine ⟨(List.range m).map X, ⟨a, cap, by rw [hl], by rw [hl]; exact h1, h2, fun i hi => ?_⟩, fun t ht => ?_⟩
  · rw [hl] at hi
    obtain ⟨b, off, ha, hc⟩ := h3 i hi
    refine ⟨b, off, ha, ?_⟩
    rw [hk i hi]
    obtain ⟨q0, y0, t0⟩ := hC i hi 0 _ rfl
    obtain ⟨q1, y1, t1⟩ := hC i hi 1 _ rfl
    obtain ⟨q2, y2, t2⟩ := hC i hi 2 _ rfl
    obtain ⟨q3, y3, t3⟩ := hC i hi 3 _ rfl
    exact ⟨by rw [← (gStr_of t0).1]; exact hc 0 (by decide), by rw [← (gStr_of t1).1]; exact hc 1 (by decide), by rw [← gInt_of t2]; exact hc 2 (by decide), by rw [← gInt_of t3]; exact hc 3 (by decide)⟩
  · obtain ⟨i, hi, rfl⟩ := List.mem_map.1 ht
    obtain ⟨q0, y0, t0⟩ := hC i (List.mem_range.1 hi) 0 _ rfl
    obtain ⟨q1, y1, t1⟩ := hC i (List.mem_range.1 hi) 1 _ rfl
    exact ⟨(gStr_of t0).2, (gStr_of t1).2⟩
theorem rows_trod {fuel : Nat} {v : Value} {x : DataW H × List MemPlace} (h : DataW.trod enc Tryz.prog W 0 (fun _ => true) true fuel 23 [v] = some x) : ∃ d : List (List Int), SS W v d := by
  obtain ⟨v', m, C, hcs, ⟨a, cap, rfl, h1, h2, h3⟩, hC⟩ := open_rows Tryz.underlying23 leaves_ints (by kernel_rfl) (by decide) h
  simp at hcs
  subst hcs
  have hx : ∀ i, ∃ r, i < m → SI W (C i 0) r := fun i => by
    by_cases hi : i < m
    · obtain ⟨q, y, t⟩ := hC i hi 0 _ rfl
      obtain ⟨r, hr, _⟩ := ints_trod t
      exact ⟨r, fun _ => hr⟩
    · exact ⟨[], fun h => absurd h hi⟩
  obtain ⟨R, hR⟩ := Classical.axiomOfChoice hx
  have hl : ((List.range m).map R).length = m := by simp
  refine ⟨(List.range m).map R, fun i => C i 0, ⟨a, cap, by rw [hl], by rw [hl]; exact h1, h2, fun i hi => ?_⟩, fun i hi => ?_⟩
  · rw [hl] at hi
    obtain ⟨b, off, ha, hc⟩ := h3 i hi
    refine ⟨b, off, ha, ?_⟩
    have := hc 0 (by decide)
    simpa using this
  · rw [hl] at hi
    have : ri ((List.range m).map R) i = R i := by simp [ri, hi]
    rw [this]
    exact hR i hi
/-- a yard -/
structure YdA (w : World) (x : Value) (v dv mv : Value) (ms : List Mov) (tr : List Trk) (d : List (List Int)) : Prop where
  e : x = .agg #[v, dv, mv]
  hm : SM w mv ms
  hk : SK w v tr
  hd : SS w dv d
  hz : ∀ t ∈ tr, t.name.length ≤ maxLen
  hzm : ∀ m ∈ ms, m.item.length ≤ maxLen
set_option maxRecDepth 100000 in
theorem yard_arg {r : Reach} {b0 : Nat} {v : Value} {d : DataW H} {p : List MemPlace} (hv : Value.okWide Tryz.prog W r b0 26 v) (h : DataW.Trod enc Tryz.prog W 0 (fun _ => true) true 26 v d p) : ∃ kv dv mv ms tr ds, v = .agg #[kv, dv, mv] ∧ YdA W v kv dv mv ms tr ds := by
  obtain ⟨cs, rfl, hsz, hx⟩ := open_leaves Tryz.underlying26 leaves_yard (by kernel_rfl) hv h
  obtain ⟨u0, m0, y0, c0, t0⟩ := hx 0 _ rfl
  obtain ⟨u1, m1, y1, c1, t1⟩ := hx 1 _ rfl
  obtain ⟨u2, m2, y2, c2, t2⟩ := hx 2 _ rfl
  obtain ⟨tr, hk, hz⟩ := trucks_trod t0
  obtain ⟨ds, hd⟩ := rows_trod t1
  obtain ⟨ms, hm, hzm⟩ := moves_trod t2
  obtain ⟨csl⟩ := cs
  match csl, hsz with
  | [a0, a1, a2], _ =>
    simp at c0 c1 c2
    subst c0 c1 c2
    exact ⟨_, _, _, ms, tr, ds, rfl, rfl, hm, hk, hd, hz, hzm⟩
theorem trips_arg {a : Option Addr} {n c : Nat} {d : DataW H} {p : List MemPlace} (h : DataW.Trod enc Tryz.prog W 0 (fun _ => true) true 27 (.slice a n c) d p) : ∃ l : List Trp, SX W (.slice a n c) l ∧ ∀ t ∈ l, t.item.length ≤ maxLen ∧ t.truck.length ≤ maxLen := by
  obtain ⟨fuel, hf⟩ := h
  exact trips_trod (v := .slice a n c) hf
end
end Go.Proofs.YtpbmmdoodmbneaaGreatDoor

/- What the bound on the arguments gives: the items of a yard's moves are short. -/
namespace Go.Proofs.YtpbmmdoodmbneaaGreatDoor
open Go.ChangeShapes Go.WideShapes Go.ChangeAt Go.RowKit Go.Deep

section
variable {H : Type} {enc : TypeId × Value → H} {W : World}
theorem part_le {d : DataW H} {l : List (DataW H)} (h : d ∈ l) : Rows.uptoBulk d ≤ Rows.uptoBulkAll l := by
  induction l with
  | nil => cases h
  | cons x r ih =>
    simp only [Rows.uptoBulkAll]
    cases List.mem_cons.1 h with
    | inl e => subst e; omega
    | inr e => have := ih e; omega
theorem agg_le {d : DataW H} {l : List (DataW H)} (h : d ∈ l) : Rows.uptoBulk d ≤ Rows.uptoBulk (.agg l) := by
  have := part_le h
  simp only [Rows.uptoBulk]
  omega
theorem elem_le {d : DataW H} {l r : List (DataW H)} (h : d ∈ l) : Rows.uptoBulk d ≤ Rows.uptoBulk (.slice l r) := by
  have := part_le h
  simp only [Rows.uptoBulk]
  omega
theorem moves_bulk {fuel : Nat} {mv : Value} {ms : List Mov} {x : DataW H × List MemPlace} {N : Nat} (h : DataW.trod enc Tryz.prog W 0 (fun _ => true) true fuel 24 [mv] = some x) (hm : SM W mv ms) (hN : Rows.uptoBulk x.1 ≤ N) : ∀ m ∈ ms, m.item.length ≤ N := by
  intro m hmm
  obtain ⟨i, hi, rfl⟩ := mem_mvi hmm
  obtain ⟨a0, cap, rfl, h1, h2, h3⟩ := hm
  obtain ⟨b, off, rfl, hat⟩ := h3 i hi
  rcases DataW.trod_slice Tryz.underlying24 h with ⟨e, _⟩ | ⟨a, len, cp, elems, rest, n, _, e, rfl, _, _, _, hl, hel, _, _⟩
  · simp at e
  · simp only [List.cons.injEq, Value.slice.injEq, Option.some.injEq, and_true] at e
    obtain ⟨rfl, rfl, _⟩ := e
    have he := hel i hi
    rw [show Tryz.prog.cellsOf 39 = 5 by kernel_rfl] at he
    rw [List.getElem?_eq_getElem (show i < elems.length by omega)] at he
    obtain ⟨cs, hc, ht⟩ := Option.bind_eq_some_iff.1 he
    obtain ⟨_, hcl, hca⟩ := World.cells?_some hc
    obtain ⟨ys, n', _, hy, _, hyl, hf⟩ := DataW.trod_struct Tryz.underlying39 ht
    have hf0 := hf 0 _ rfl
    have hy0 : 0 < ys.length := by rw [hyl]; decide
    rw [List.getElem?_eq_getElem hy0] at hf0
    have hc0 := hca 0 (by decide)
    have hadd : (⟨b, off, none⟩ : Addr).add (i * 5) = ⟨b, off + i * 5, none⟩ := by unfold Addr.add; simp
    rw [hadd] at hc0
    have hc1 : W.cell? ((⟨b, off + i * 5, none⟩ : Addr).add 0) = W.cell? ⟨b, off + i * 5, none⟩ := by unfold Addr.add; simp
    rw [hc1, hat.c0] at hc0
    have hcs : (cs.drop 0).take (Tryz.prog.cellsOf 9) = [Value.string (bs (mvi ms i).item)] := by
      rw [show Tryz.prog.cellsOf 9 = 1 by kernel_rfl]
      cases cs with
      | nil => simp at hcl
      | cons c r => simp at hc0; subst hc0; rfl
    have hf0' : DataW.trod enc Tryz.prog W 0 (fun _ => true) true n' 9 ((cs.drop 0).take (Tryz.prog.cellsOf 9)) = some ys[0] := hf0
    rw [hcs] at hf0'
    obtain ⟨s, q1, q2, q3⟩ := DataW.trod_string Tryz.underlying9 hf0'
    simp only [List.cons.injEq, Value.string.injEq, and_true] at q1
    have k1 : Rows.uptoBulk (ys[0]).1 = (mvi ms i).item.length + 1 := by
      rw [q2, ← q1]
      simp [Rows.uptoBulk, bs]
    have k2 : Rows.uptoBulk (ys[0]).1 ≤ Rows.uptoBulk (elems[i]).1 := by
      have e1 : (elems[i]'(by omega)).1 = .agg (ys.map (·.1)) := by rw [hy]
      rw [e1]
      exact agg_le (List.mem_map.2 ⟨_, List.getElem_mem hy0, rfl⟩)
    have k3 : Rows.uptoBulk (elems[i]).1 ≤ Rows.uptoBulk (DataW.slice (elems.map (·.1)) (rest.map (·.1))) := elem_le (List.mem_map.2 ⟨_, List.getElem_mem (by omega), rfl⟩)
    dsimp only at hN
    omega
set_option maxRecDepth 100000 in
theorem yard_bulk {kv dv mv : Value} {ms : List Mov} {d : DataW H} {p : List MemPlace} {N : Nat} (h : DataW.Trod enc Tryz.prog W 0 (fun _ => true) true 26 (.agg #[kv, dv, mv]) d p) (hm : SM W mv ms) (hN : Rows.uptoBulk d ≤ N) : ∀ m ∈ ms, m.item.length ≤ N := by
  obtain ⟨fuel, hf⟩ := h
  have hf : DataW.trod enc Tryz.prog W 0 (fun _ => true) true fuel 26 [kv, dv, mv] = some (d, p) := hf
  obtain ⟨xs, n, _, hx, _, hxl, hg⟩ := DataW.trod_struct Tryz.underlying26 hf
  have hg2 := hg 2 _ rfl
  have h2 : 2 < xs.length := by rw [hxl]; decide
  rw [List.getElem?_eq_getElem h2] at hg2
  have hg2' : DataW.trod enc Tryz.prog W 0 (fun _ => true) true n 24 [mv] = some xs[2] := hg2
  refine moves_bulk hg2' hm ?_
  have e1 : d = .agg (xs.map (·.1)) := congrArg Prod.fst hx
  have := agg_le (H := H) (d := (xs[2]).1) (l := xs.map (·.1)) (List.mem_map.2 ⟨_, List.getElem_mem h2, rfl⟩)
  rw [← e1] at this
  omega
theorem bound {l : List (DataW H)} (hk : Rows.uptoSmall H l = true) : Rows.uptoBulkAll l ≤ 1048576 := by
  unfold Rows.uptoSmall at hk
  rw [decide_eq_true_eq] at hk
  exact hk
end
end Go.Proofs.YtpbmmdoodmbneaaGreatDoor
