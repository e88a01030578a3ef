/- The frame of transport's rows: a yard, trips, a small number that came in. -/
import Derived.Test.YtpbmmdoodmbneaaDoorTrnX
import Derived.Test.YtpbmmdoodmbneaaDoorRowL
namespace Go.Proofs.YtpbmmdoodmbneaaDoor
open Go.ChangeShapes Go.WideShapes Go.ChangeAt Go.RowKit Go.Deep

theorem mlen_of {W : World} (h : W.ShapedOpen Tryd.prog) : MLen W :=
  cell_of_shapedOpen_int (P := Tryd.prog) (g := 0) (t := 3) (zero := #[.int .i64 0]) h (of_decide_eq_true (by kernel_rfl)) (by kernel_rfl) rfl (by kernel_rfl) (by kernel_rfl) Tryd.underlying3
theorem nat_u16 {n : Int} (h : (Lit.int .u16 n).wf = true) : ∃ m : Nat, n = m ∧ m < 65536 := by
  simp [Lit.wf, IntKind.min, IntKind.max, IntKind.signed, IntKind.bits] at h
  exact ⟨n.toNat, by omega, by omega⟩
section
variable {H : Type} {enc : TypeId × Value → H} {W : World}
theorem leaves_yard : leavesOf Tryd.prog 3 26 = some [22, 23, 24] := by kernel_rfl
theorem leaves_truck : leavesOf Tryd.prog 3 30 = some [9, 3, 3] := by kernel_rfl
theorem leaves_move : leavesOf Tryd.prog 3 46 = some [9, 3, 3, 3, 3] := by kernel_rfl
theorem leaves_trip : leavesOf Tryd.prog 3 42 = some [9, 9, 3, 3] := by kernel_rfl
theorem leaves_ints : leavesOf Tryd.prog 3 50 = some [50] := by kernel_rfl
def gInt : Value → Int | .int .i64 k => k | _ => 0
def gStr : Value → List UInt8 | .string s => s.data.toList | _ => []
theorem gInt_of {q : Nat} {v : Value} {y : DataW H × List MemPlace} (h : DataW.trod enc Tryd.prog W 0 (fun _ => true) true q 3 [v] = some y) : v = .int .i64 (gInt v) := by
  obtain ⟨k, e, _⟩ := int_trod Tryd.underlying3 h
  rw [e]; rfl
theorem gStr_of {q : Nat} {v : Value} {y : DataW H × List MemPlace} (h : DataW.trod enc Tryd.prog W 0 (fun _ => true) true q 9 [v] = some y) : v = .string (bs (gStr v)) ∧ (gStr v).length ≤ maxLen := by
  obtain ⟨s, e, hs⟩ := str_trod Tryd.underlying9 h
  rw [e]
  exact ⟨by show _ = Value.string (bs s.data.toList); rw [bs_of], by show s.data.toList.length ≤ _; rw [Array.length_toList]; exact hs⟩
theorem trucks_trod {fuel : Nat} {v : Value} {x : DataW H × List MemPlace} (h : DataW.trod enc Tryd.prog W 0 (fun _ => true) true fuel 22 [v] = some x) : ∃ l : List Trk, SK W v l ∧ ∀ t ∈ l, t.name.length ≤ maxLen := by
  obtain ⟨v', m, C, hcs, ⟨a, cap, rfl, h1, h2, h3⟩, hC⟩ := open_rows Tryd.underlying22 leaves_truck (by kernel_rfl) (by decide) h
  simp at hcs
  subst hcs
  let X : Nat → Trk := fun i => ⟨gStr (C i 0), gInt (C i 1), gInt (C i 2)⟩
  have hl : ((List.range m).map X).length = m := by simp
  have hk : ∀ i, i < m → tki ((List.range m).map X) i = X i := fun i hi => by simp [tki, hi]
  refine ⟨(List.range m).map X, ⟨a, cap, by rw [hl], by rw [hl]; exact h1, h2, fun i hi => ?_⟩, fun t ht => ?_⟩
  · rw [hl] at hi
    obtain ⟨b, off, ha, hc⟩ := h3 i hi
    refine ⟨b, off, ha, ?_⟩
    rw [hk i hi]
    obtain ⟨q0, y0, t0⟩ := hC i hi 0 _ rfl
    obtain ⟨q1, y1, t1⟩ := hC i hi 1 _ rfl
    obtain ⟨q2, y2, t2⟩ := hC i hi 2 _ rfl
    exact ⟨by rw [← (gStr_of t0).1]; exact hc 0 (by decide), by rw [← gInt_of t1]; exact hc 1 (by decide), by rw [← gInt_of t2]; exact hc 2 (by decide)⟩
  · obtain ⟨i, hi, rfl⟩ := List.mem_map.1 ht
    obtain ⟨q0, y0, t0⟩ := hC i (List.mem_range.1 hi) 0 _ rfl
    exact (gStr_of t0).2
theorem moves_trod {fuel : Nat} {v : Value} {x : DataW H × List MemPlace} (h : DataW.trod enc Tryd.prog W 0 (fun _ => true) true fuel 24 [v] = some x) : ∃ l : List Mov, SM W v l ∧ ∀ t ∈ l, t.item.length ≤ maxLen := by
  obtain ⟨v', m, C, hcs, ⟨a, cap, rfl, h1, h2, h3⟩, hC⟩ := open_rows Tryd.underlying24 leaves_move (by kernel_rfl) (by decide) h
  simp at hcs
  subst hcs
  let X : Nat → Mov := fun i => ⟨gStr (C i 0), gInt (C i 1), gInt (C i 2), gInt (C i 3), gInt (C i 4)⟩
  have hl : ((List.range m).map X).length = m := by simp
  have hk : ∀ i, i < m → mvi ((List.range m).map X) i = X i := fun i hi => by simp [mvi, hi]
  refine ⟨(List.range m).map X, ⟨a, cap, by rw [hl], by rw [hl]; exact h1, h2, fun i hi => ?_⟩, fun t ht => ?_⟩
  · rw [hl] at hi
    obtain ⟨b, off, ha, hc⟩ := h3 i hi
    refine ⟨b, off, ha, ?_⟩
    rw [hk i hi]
    obtain ⟨q0, y0, t0⟩ := hC i hi 0 _ rfl
    obtain ⟨q1, y1, t1⟩ := hC i hi 1 _ rfl
    obtain ⟨q2, y2, t2⟩ := hC i hi 2 _ rfl
    obtain ⟨q3, y3, t3⟩ := hC i hi 3 _ rfl
    obtain ⟨q4, y4, t4⟩ := hC i hi 4 _ rfl
    exact ⟨by rw [← (gStr_of t0).1]; exact hc 0 (by decide), by rw [← gInt_of t1]; exact hc 1 (by decide), by rw [← gInt_of t2]; exact hc 2 (by decide), by rw [← gInt_of t3]; exact hc 3 (by decide), by rw [← gInt_of t4]; exact hc 4 (by decide)⟩
  · obtain ⟨i, hi, rfl⟩ := List.mem_map.1 ht
    obtain ⟨q0, y0, t0⟩ := hC i (List.mem_range.1 hi) 0 _ rfl
    exact (gStr_of t0).2
theorem trips_trod {fuel : Nat} {v : Value} {x : DataW H × List MemPlace} (h : DataW.trod enc Tryd.prog W 0 (fun _ => true) true fuel 35 [v] = some x) : ∃ l : List Trp, SX W v l ∧ ∀ t ∈ l, t.item.length ≤ maxLen ∧ t.truck.length ≤ maxLen := by
  obtain ⟨v', m, C, hcs, ⟨a, cap, rfl, h1, h2, h3⟩, hC⟩ := open_rows Tryd.underlying35 leaves_trip (by kernel_rfl) (by decide) h
  simp at hcs
  subst hcs
  let X : Nat → Trp := fun i => ⟨gStr (C i 0), gStr (C i 1), gInt (C i 2), gInt (C i 3)⟩
  have hl : ((List.range m).map X).length = m := by simp
  have hk : ∀ i, i < m → tpi ((List.range m).map X) i = X i := fun i hi => by simp [tpi, hi]
  refine ⟨(List.range m).map X, ⟨a, cap, by rw [hl], by rw [hl]; exact h1, h2, fun i hi => ?_⟩, fun t ht => ?_⟩
  · rw [hl] at hi
    obtain ⟨b, off, ha, hc⟩ := h3 i hi
    refine ⟨b, off, ha, ?_⟩
    rw [hk i hi]
    obtain ⟨q0, y0, t0⟩ := hC i hi 0 _ rfl
    obtain ⟨q1, y1, t1⟩ := hC i hi 1 _ rfl
    obtain ⟨q2, y2, t2⟩ := hC i hi 2 _ rfl
    obtain ⟨q3, y3, t3⟩ := hC i hi 3 _ rfl
    exact ⟨by rw [← (gStr_of t0).1]; exact hc 0 (by decide), by rw [← (gStr_of t1).1]; exact hc 1 (by decide), by rw [← gInt_of t2]; exact hc 2 (by decide), by rw [← gInt_of t3]; exact hc 3 (by decide)⟩
  · obtain ⟨i, hi, rfl⟩ := List.mem_map.1 ht
    obtain ⟨q0, y0, t0⟩ := hC i (List.mem_range.1 hi) 0 _ rfl
    obtain ⟨q1, y1, t1⟩ := hC i (List.mem_range.1 hi) 1 _ rfl
    exact ⟨(gStr_of t0).2, (gStr_of t1).2⟩
theorem rows_trod {fuel : Nat} {v : Value} {x : DataW H × List MemPlace} (h : DataW.trod enc Tryd.prog W 0 (fun _ => true) true fuel 23 [v] = some x) : ∃ d : List (List Int), SS W v d := by
  obtain ⟨v', m, C, hcs, ⟨a, cap, rfl, h1, h2, h3⟩, hC⟩ := open_rows Tryd.underlying23 leaves_ints (by kernel_rfl) (by decide) h
  simp at hcs
  subst hcs
  have hx : ∀ i, ∃ r, i < m → SI W (C i 0) r := fun i => by
    by_cases hi : i < m
    · obtain ⟨q, y, t⟩ := hC i hi 0 _ rfl
      obtain ⟨r, hr, _⟩ := ints_trod t
      exact ⟨r, fun _ => hr⟩
    · exact ⟨[], fun h => absurd h hi⟩
  obtain ⟨R, hR⟩ := Classical.axiomOfChoice hx
  have hl : ((List.range m).map R).length = m := by simp
  refine ⟨(List.range m).map R, fun i => C i 0, ⟨a, cap, by rw [hl], by rw [hl]; exact h1, h2, fun i hi => ?_⟩, fun i hi => ?_⟩
  · rw [hl] at hi
    obtain ⟨b, off, ha, hc⟩ := h3 i hi
    refine ⟨b, off, ha, ?_⟩
    have := hc 0 (by decide)
    simpa using this
  · rw [hl] at hi
    have : ri ((List.range m).map R) i = R i := by simp [ri, hi]
    rw [this]
    exact hR i hi
/-- a yard -/
structure YdA (w : World) (x : Value) (v dv mv : Value) (ms : List Mov) (tr : List Trk) (d : List (List Int)) : Prop where
  e : x = .agg #[v, dv, mv]
  hm : SM w mv ms
  hk : SK w v tr
  hd : SS w dv d
  hz : ∀ t ∈ tr, t.name.length ≤ maxLen
  hzm : ∀ m ∈ ms, m.item.length ≤ maxLen
set_option maxRecDepth 100000 in
theorem yard_arg {r : Reach} {b0 : Nat} {v : Value} {d : DataW H} {p : List MemPlace} (hv : Value.okWide Tryd.prog W r b0 26 v) (h : DataW.Trod enc Tryd.prog W 0 (fun _ => true) true 26 v d p) : ∃ kv dv mv ms tr ds, v = .agg #[kv, dv, mv] ∧ YdA W v kv dv mv ms tr ds := by
  obtain ⟨cs, rfl, hsz, hx⟩ := open_leaves Tryd.underlying26 leaves_yard (by kernel_rfl) hv h
  obtain ⟨u0, m0, y0, c0, t0⟩ := hx 0 _ rfl
  obtain ⟨u1, m1, y1, c1, t1⟩ := hx 1 _ rfl
  obtain ⟨u2, m2, y2, c2, t2⟩ := hx 2 _ rfl
  obtain ⟨tr, hk, hz⟩ := trucks_trod t0
  obtain ⟨ds, hd⟩ := rows_trod t1
  obtain ⟨ms, hm, hzm⟩ := moves_trod t2
  obtain ⟨csl⟩ := cs
  match csl, hsz with
  | [a0, a1, a2], _ =>
    simp at c0 c1 c2
    subst c0 c1 c2
    exact ⟨_, _, _, ms, tr, ds, rfl, rfl, hm, hk, hd, hz, hzm⟩
theorem trips_arg {a : Option Addr} {n c : Nat} {d : DataW H} {p : List MemPlace} (h : DataW.Trod enc Tryd.prog W 0 (fun _ => true) true 35 (.slice a n c) d p) : ∃ l : List Trp, SX W (.slice a n c) l ∧ ∀ t ∈ l, t.item.length ≤ maxLen ∧ t.truck.length ≤ maxLen := by
  obtain ⟨fuel, hf⟩ := h
  exact trips_trod (v := .slice a n c) hf
end
end Go.Proofs.YtpbmmdoodmbneaaDoor
