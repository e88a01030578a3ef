/- Contracts: rightMoves, next and empty of the reference. -/
import Derived.Test.YtpbmmdoodmbneaaGreatDoorTrnMem
import Derived.Test.YtpbmmdoodmbneaaGreatDoorTrnPa
import Derived.BigRegion

/- The reference's plan, plain: the next move, and what the transporters have done. -/
namespace Go.Proofs.YtpbmmdoodmbneaaGreatDoor

/-- the first move that was not taken in the order of mC, among the first -/
def nextV (ms : List Mov) (tk : Nat → Bool) : Nat → Option Nat
  | 0 => none
  | i + 1 => match nextV ms tk i with
    | none => if tk i then none else some i
    | some j => if !tk i && decide (mC (mvi ms i) (mvi ms j) < 0) then some i else some j
theorem nextV_skip {ms : List Mov} {tk : Nat → Bool} {i : Nat} (h : tk i = true) : nextV ms tk (i + 1) = nextV ms tk i := by
  show (match nextV ms tk i with | none => if tk i then none else some i | some j => if !tk i && decide (mC (mvi ms i) (mvi ms j) < 0) then some i else some j) = _
  rw [h]
  cases nextV ms tk i <;> rfl
theorem nextV_first {ms : List Mov} {tk : Nat → Bool} {i : Nat} (h : tk i = false) (hn : nextV ms tk i = none) : nextV ms tk (i + 1) = some i := by
  show (match nextV ms tk i with | none => if tk i then none else some i | some j => if !tk i && decide (mC (mvi ms i) (mvi ms j) < 0) then some i else some j) = _
  rw [h, hn]; rfl
theorem nextV_less {ms : List Mov} {tk : Nat → Bool} {i j : Nat} (h : tk i = false) (hn : nextV ms tk i = some j) (hl : mC (mvi ms i) (mvi ms j) < 0) : nextV ms tk (i + 1) = some i := by
  show (match nextV ms tk i with | none => if tk i then none else some i | some j => if !tk i && decide (mC (mvi ms i) (mvi ms j) < 0) then some i else some j) = _
  rw [h, hn]; dsimp only; rw [if_pos (by simpa using hl)]
theorem nextV_keep {ms : List Mov} {tk : Nat → Bool} {i j : Nat} (hn : nextV ms tk i = some j) (hl : ¬ mC (mvi ms i) (mvi ms j) < 0) : nextV ms tk (i + 1) = some j := by
  show (match nextV ms tk i with | none => if tk i then none else some i | some j => if !tk i && decide (mC (mvi ms i) (mvi ms j) < 0) then some i else some j) = _
  rw [hn]; dsimp only; rw [if_neg (by simp; omega)]
theorem nextV_lt {ms : List Mov} {tk : Nat → Bool} : ∀ {k j : Nat}, nextV ms tk k = some j → j < k ∧ tk j = false := by
  intro k
  induction k with
  | zero => intro j h; cases h
  | succ k ih =>
    intro j h
    cases hn : nextV ms tk k with
    | none =>
      cases ht : tk k
      · rw [nextV_first ht hn] at h
        obtain rfl := Option.some.inj h
        exact ⟨Nat.lt_succ_self _, ht⟩
      · rw [nextV_skip ht, hn] at h; cases h
    | some i =>
      obtain ⟨a, b⟩ := ih hn
      by_cases hl : mC (mvi ms k) (mvi ms i) < 0
      · cases ht : tk k
        · rw [nextV_less ht hn hl] at h
          obtain rfl := Option.some.inj h
          exact ⟨Nat.lt_succ_self _, ht⟩
        · rw [nextV_skip ht, hn] at h
          obtain rfl := Option.some.inj h
          exact ⟨by omega, b⟩
      · rw [nextV_keep hn hl] at h
        obtain rfl := Option.some.inj h
        exact ⟨by omega, b⟩
theorem nextV_none {ms : List Mov} {tk : Nat → Bool} : ∀ {k : Nat}, nextV ms tk k = none → ∀ i, i < k → tk i = true := by
  intro k
  induction k with
  | zero => intro _ i h; omega
  | succ k ih =>
    intro h i hi
    cases hn : nextV ms tk k with
    | none =>
      cases ht : tk k
      · rw [nextV_first ht hn] at h; cases h
      · by_cases e : i = k
        · subst e; exact ht
        · exact ih hn i (by omega)
    | some j =>
      by_cases hl : mC (mvi ms k) (mvi ms j) < 0
      · cases ht : tk k
        · rw [nextV_less ht hn hl] at h; cases h
        · rw [nextV_skip ht, hn] at h; cases h
      · rw [nextV_keep hn hl] at h; cases h
theorem nextV_le {ms : List Mov} {tk : Nat → Bool} : ∀ {k j : Nat}, nextV ms tk k = some j → ∀ i, i < k → tk i = false → mC (mvi ms j) (mvi ms i) ≤ 0 := by
  intro k
  induction k with
  | zero => intro j h; cases h
  | succ k ih =>
    intro j h i hi hti
    cases hn : nextV ms tk k with
    | none =>
      have hall := nextV_none hn
      cases ht : tk k
      · rw [nextV_first ht hn] at h
        obtain rfl := Option.some.inj h
        by_cases e : i = k
        · subst e; rw [mC_ok.refl]; exact Int.le_refl _
        · have := hall i (by omega); rw [hti] at this; cases this
      · rw [nextV_skip ht, hn] at h; cases h
    | some q =>
      have hle := ih hn
      by_cases hl : mC (mvi ms k) (mvi ms q) < 0
      · cases ht : tk k
        · rw [nextV_less ht hn hl] at h
          obtain rfl := Option.some.inj h
          by_cases e : i = k
          · subst e; rw [mC_ok.refl]; exact Int.le_refl _
          · exact Int.le_of_lt (mC_ok.lt_le hl (hle i (by omega) hti))
        · rw [nextV_skip ht, hn] at h
          obtain rfl := Option.some.inj h
          by_cases e : i = k
          · subst e; rw [ht] at hti; cases hti
          · exact hle i (by omega) hti
      · rw [nextV_keep hn hl] at h
        obtain rfl := Option.some.inj h
        by_cases e : i = k
        · subst e; have := mC_ok.anti (mvi ms q) (mvi ms i); omega
        · exact hle i (by omega) hti
/-- the moves that were taken are the first ones of the order -/
def TkOK (ms : List Mov) (n : Nat) (tk : Nat → Bool) : Prop := ∀ i, i < ms.length → (tk i = true ↔ mvi ms i ∈ (srtM ms).take n)
theorem items_inj {ms : List Mov} (hn : (ms.map Mov.item).Nodup) {i j : Nat} (hi : i < ms.length) (hj : j < ms.length) (h : (mvi ms i).item = (mvi ms j).item) : i = j := by
  rw [mvi_lt hi, mvi_lt hj] at h
  exact (List.getElem_inj (h₀ := by simpa using hi) (h₁ := by simpa using hj) hn).1 (by simpa using h)
theorem srtM_len (ms : List Mov) : (srtM ms).length = ms.length := (srtM_perm ms).length_eq
theorem next_om {ms : List Mov} (hn : (ms.map Mov.item).Nodup) {n : Nat} {tk : Nat → Bool} (hlt : n < ms.length) (h : TkOK ms n tk) :
    ∃ j, nextV ms tk ms.length = some j ∧ j < ms.length ∧ mvi ms j = mvi (srtM ms) n ∧ TkOK ms (n + 1) (fun i => if i = j then true else tk i) := by
  have hlt' : n < (srtM ms).length := by rw [srtM_len]; exact hlt
  have hnd : ((srtM ms).map Mov.item).Nodup := ((srtM_perm ms).map Mov.item).nodup_iff.2 hn
  have hmem : mvi (srtM ms) n ∈ ms := (srtM_perm ms).mem_iff.1 (mvi_mem hlt')
  obtain ⟨i0, hi0, e0⟩ := mem_mvi hmem
  have hnot : ∀ q, n ≤ q → q < (srtM ms).length → mvi (srtM ms) q ∉ (srtM ms).take n := by
    intro q hq hql hm
    obtain ⟨a, ha, e⟩ := List.mem_iff_getElem.1 hm
    rw [List.length_take] at ha
    rw [List.getElem_take] at e
    have := items_inj hnd (show a < (srtM ms).length by omega) hql (by rw [mvi_lt (by omega), e])
    omega
  have ht0 : tk i0 = false := by
    cases hh : tk i0
    · rfl
    · have := (h i0 hi0).1 hh
      rw [e0] at this
      exact absurd this (hnot n (Nat.le_refl _) hlt')
  cases hx : nextV ms tk ms.length with
  | none => have := nextV_none hx i0 hi0; rw [ht0] at this; cases this
  | some j =>
    obtain ⟨hj, htj⟩ := nextV_lt hx
    have hle := nextV_le hx i0 hi0 ht0
    have hjo : mvi ms j ∈ srtM ms := (srtM_perm ms).mem_iff.2 (mvi_mem hj)
    obtain ⟨q, hq, eq⟩ := mem_mvi hjo
    have hqn : n ≤ q := by
      rcases Nat.lt_or_ge q n with hh | hh
      · have : mvi ms j ∈ (srtM ms).take n := by
          rw [← eq]
          refine List.mem_iff_getElem.2 ⟨q, by rw [List.length_take]; omega, ?_⟩
          rw [List.getElem_take, mvi_lt hq]
        have := (h j hj).2 this
        rw [htj] at this; cases this
      · exact hh
    have he : mvi ms j = mvi (srtM ms) n := by
      rcases Nat.eq_or_lt_of_le hqn with e | hlt2
      · rw [← eq, e]
      · have hs := List.pairwise_iff_getElem.1 (srtM_sorted ms) n q hlt' hq hlt2
        unfold leM at hs
        rw [← mvi_lt hlt', ← mvi_lt hq, eq] at hs
        rw [e0] at hle
        have hz : mC (mvi ms j) (mvi (srtM ms) n) = 0 := by have := mC_ok.anti (mvi ms j) (mvi (srtM ms) n); omega
        have hit := mC_item hz
        have := items_inj hnd hq hlt' (by rw [eq]; exact hit)
        omega
    refine ⟨j, rfl, hj, he, fun i hi => ?_⟩
    rw [take_mvi hlt', List.mem_append, List.mem_singleton, ← h i hi, ← he]
    by_cases e : i = j
    · subst e; simp
    · show (if i = j then true else tk i) = true ↔ _
      rw [if_neg e]
      constructor
      · exact .inl
      · rintro (h1 | h1)
        · exact h1
        · exact absurd (items_inj hn hi hj (by rw [h1])) e
theorem tkOK_start (ms : List Mov) : TkOK ms 0 (fun _ => false) := by
  intro i hi
  simp

/-- what the transporters have done, off the reference's lists -/
def stA (us : Nat → Bool) (pl en : List Int) (i : Nat) : Option (Int × Int) := if us i then some (gi pl i, gi en i) else none
def StOK (us : Nat → Bool) (pl en : List Int) (nt nd k : Nat) : Prop := pl.length = nt ∧ en.length = nt ∧ ∀ i, i < nt → us i = true → 0 ≤ gi pl i ∧ gi pl i < nd ∧ 0 ≤ gi en i ∧ gi en i ≤ 1048576 + k * 1600000
theorem stA_start (pl en : List Int) : stA (fun _ => false) pl en = fun _ => none := by funext i; rfl
theorem stOK_start (nt nd : Nat) : StOK (fun _ => false) (List.replicate nt 0) (List.replicate nt 0) nt nd 0 := ⟨by simp, by simp, fun i _ h => by cases h⟩
theorem stA_upd {us : Nat → Bool} {pl en : List Int} {nt nd k : Nat} (h : StOK us pl en nt nd k) {a : Nat} (ha : a < nt) (p e : Int) :
    stA (fun i => if i = a then true else us i) (pl.set a p) (en.set a e) = upd (stA us pl en) a (p, e) := by
  obtain ⟨h1, h2, _⟩ := h
  funext i
  unfold stA upd
  by_cases hi : i = a
  · simp only [hi, if_true, gi_set' (show a < pl.length by omega), gi_set' (show a < en.length by omega)]
  · simp only [hi, if_false, gi_set' (show a < pl.length by omega), gi_set' (show a < en.length by omega)]
theorem StOK.set {us : Nat → Bool} {pl en : List Int} {nt nd k : Nat} (h : StOK us pl en nt nd k) {a : Nat} (ha : a < nt) {p e : Int} (hp : 0 ≤ p ∧ p < nd) (he : 0 ≤ e ∧ e ≤ 1048576 + (k + 1) * 1600000) :
    StOK (fun i => if i = a then true else us i) (pl.set a p) (en.set a e) nt nd (k + 1) := by
  obtain ⟨h1, h2, h3⟩ := h
  refine ⟨by simp [h1], by simp [h2], fun i hi hu => ?_⟩
  rw [gi_set' (by omega), gi_set' (by omega)]
  by_cases hia : i = a
  · rw [if_pos hia, if_pos hia]; omega
  · rw [if_neg hia, if_neg hia]
    have hu : (if i = a then true else us i) = true := hu
    rw [if_neg hia] at hu
    have := h3 i hi hu
    omega
theorem startA {tr : List Trk} {d : List (List Int)} (hY : YardOK tr d) {us : Nat → Bool} {pl en : List Int} {nd k : Nat} (h : StOK us pl en tr.length nd k) {m : Mov} (hm : 0 ≤ m.ready ∧ m.ready ≤ 1048576) {i : Nat} (hi : i < tr.length) :
    0 ≤ startV (tki tr i) d (stA us pl en i) m ∧ startV (tki tr i) d (stA us pl en i) m ≤ 1048576 + k * 1600000 + 500001 := by
  have hmem := tki_mem hi
  obtain ⟨_, _, h3⟩ := h
  have h3 := h3 i hi
  unfold startV stA
  cases hu : us i
  · rw [if_neg (by decide)]; dsimp only; omega
  · rw [if_pos rfl]
    have h4 := h3 hu
    have h5 := empty_range hY hmem (gi pl i) m.frm
    dsimp only
    omega
theorem bestA {tr : List Trk} {d : List (List Int)} (hY : YardOK tr d) {us : Nat → Bool} {pl en : List Int} {nd k : Nat} (h : StOK us pl en tr.length nd k) {m : Mov} (hm : 0 ≤ m.ready ∧ m.ready ≤ 1048576) {n j : Nat} {x : Trp}
    (hn : n ≤ tr.length) (hb : bestF tr d (stA us pl en) m n = some (j, x)) : 0 ≤ x.fin ∧ x.fin ≤ 1048576 + (k + 1) * 1600000 := by
  obtain ⟨h1, _, rfl⟩ := bestF_some hb
  obtain ⟨a1, a2⟩ := startA hY h hm (show j < tr.length by omega)
  have a4 := hours_range hY (tki_mem (show j < tr.length by omega)) m.frm m.to
  show 0 ≤ startV _ _ _ _ + hoursV _ _ _ _ ∧ startV _ _ _ _ + hoursV _ _ _ _ ≤ _
  omega
end Go.Proofs.YtpbmmdoodmbneaaGreatDoor

/- Contracts: rightMoves, next and empty of the reference. -/
namespace Go.Proofs.YtpbmmdoodmbneaaGreatDoor
open Go.RowKit Go.Sort

theorem rempty_any (t : Trk) (v : Value) (d : List (List Int)) (i j : Nat) (w : World) (h : SS w v d) (hh : 1 ≤ t.hours ∧ t.hours ≤ 100) (hi : i < d.length) (hj : j < (ri d i).length) (hx : 0 ≤ gi (ri d i) j ∧ gi (ri d i) j ≤ 10000) :
    Calls Tryz.prog 28 #[.agg #[.string (bs t.name), .int .i64 t.load, .int .i64 t.hours], v, .int .i64 i, .int .i64 j] w (Ret w (.int .i64 (emptyV t d i j))) := by
  obtain ⟨a, cap, rfl, h1, h2, h3⟩ := h.open
  clear h
  have HB : Hid (GR w (w.alloc (.cells #[.string (bs t.name), .int .i64 t.load, .int .i64 t.hours] 36))) := (GR.refl w).alloc _
  obtain ⟨b, off, ra, rc, rfl, k1, n1, n2, n3⟩ := h3 i hi
  obtain ⟨b2, off2, rfl, k2⟩ := n3 j hj
  have hbl : b < w.heap.size := World.block_lt_of_cell? w _ k1
  have hbl2 : b2 < w.heap.size := World.block_lt_of_cell? w _ k2
  clear h3 n3
  have HR : Hid (emptyV t d i j = (t.hours * gi (ri d i) j + 1) / 2) := by show _ = _; unfold emptyV; rw [Int.toNat_natCast, Int.toNat_natCast]
  generalize gi (ri d i) j = x at *
  generalize (ri d i).length = m at *
  have hm2 : t.hours * x ≤ 100 * 10000 := Int.mul_le_mul hh.2 hx.2 hx.1 (by omega)
  have hm3 : 0 ≤ t.hours * x := Int.mul_nonneg (by omega) hx.1
  have hwr : IntKind.i64.wrap (t.hours * x) = t.hours * x := IntWalk.i64_in _ (by omega)
  have hw2 : IntKind.i64.wrap (t.hours * x + 1) = t.hours * x + 1 := IntWalk.i64_in _ (by omega)
  have hq : (t.hours * x + 1).tdiv 2 = (t.hours * x + 1) / 2 := Int.tdiv_eq_ediv_of_nonneg (by omega)
  have hw3 : IntKind.i64.wrap ((t.hours * x + 1) / 2) = (t.hours * x + 1) / 2 := IntWalk.i64_in _ (by omega)
  have i1 : (0 : Int) ≤ i := by omega
  have i2 : (i : Int) < d.length := by omega
  have i3 : (i : Int) < cap := by omega
  have j1 : (0 : Int) ≤ j := by omega
  have j2 : (j : Int) < m := by omega
  have j3 : (j : Int) < rc := by omega
  go_enter Tryz.func28, Tryz.ntmps28
  go_wp2_with fail
  go_region
  go_wp2_with fail
  go_ret
  exact ⟨ret_int HR.out.symm, HB.out.drew.below⟩

theorem any_item {ms : List Mov} {k j : Nat} {x : List UInt8} (hj : j < k) (hk : k ≤ ms.length) (h : (mvi ms j).item = x) : ((ms.take k).map Mov.item).contains x = true := by
  rw [List.contains_iff_mem]
  refine List.mem_map.2 ⟨mvi ms j, ?_, h⟩
  refine List.mem_iff_getElem.2 ⟨j, by rw [List.length_take]; omega, ?_⟩
  rw [List.getElem_take, mvi_lt (by omega)]
theorem none_item {ms : List Mov} {k : Nat} {x : List UInt8} (hk : k ≤ ms.length) (h : ∀ j, j < k → (mvi ms j).item ≠ x) : ((ms.take k).map Mov.item).contains x = false := by
  rw [← Bool.not_eq_true, List.contains_iff_mem]
  intro hm
  obtain ⟨m, hm, e⟩ := List.mem_map.1 hm
  obtain ⟨j, hj, rfl⟩ := List.mem_iff_getElem.1 hm
  rw [List.length_take] at hj
  rw [List.getElem_take] at e
  exact h j (by omega) (by rw [mvi_lt (by omega), e])
theorem badM_first (n : Nat) (m : Mov) (h : badM n m = true) :
    decide (m.frm < 0) = true ∨ (decide (m.frm < 0) = false ∧ decide ((n : Int) ≤ m.frm) = true) ∨ (decide (m.frm < 0) = false ∧ decide ((n : Int) ≤ m.frm) = false ∧ decide (m.to < 0) = true) ∨
    (decide (m.frm < 0) = false ∧ decide ((n : Int) ≤ m.frm) = false ∧ decide (m.to < 0) = false ∧ decide ((n : Int) ≤ m.to) = true) ∨
    (decide (m.frm < 0) = false ∧ decide ((n : Int) ≤ m.frm) = false ∧ decide (m.to < 0) = false ∧ decide ((n : Int) ≤ m.to) = false ∧ decide (m.ready < 0) = true) ∨
    (decide (m.frm < 0) = false ∧ decide ((n : Int) ≤ m.frm) = false ∧ decide (m.to < 0) = false ∧ decide ((n : Int) ≤ m.to) = false ∧ decide (m.ready < 0) = false ∧ decide (1048576 < m.ready) = true) ∨
    (decide (m.frm < 0) = false ∧ decide ((n : Int) ≤ m.frm) = false ∧ decide (m.to < 0) = false ∧ decide ((n : Int) ≤ m.to) = false ∧ decide (m.ready < 0) = false ∧ decide (1048576 < m.ready) = false ∧ decide (m.mass < 0) = true) ∨
    (decide (m.frm < 0) = false ∧ decide ((n : Int) ≤ m.frm) = false ∧ decide (m.to < 0) = false ∧ decide ((n : Int) ≤ m.to) = false ∧ decide (m.ready < 0) = false ∧ decide (1048576 < m.ready) = false ∧ decide (m.mass < 0) = false ∧ decide (1099511627776 < m.mass) = true) := by
  unfold badM at h
  revert h
  cases decide (m.frm < 0) <;> cases decide ((n : Int) ≤ m.frm) <;> cases decide (m.to < 0) <;> cases decide ((n : Int) ≤ m.to) <;> cases decide (m.ready < 0) <;> cases decide (1048576 < m.ready) <;> cases decide (m.mass < 0) <;> cases decide (1099511627776 < m.mass) <;> simp
theorem badM_none (n : Nat) (m : Mov) (h : badM n m = false) : decide (m.frm < 0) = false ∧ decide ((n : Int) ≤ m.frm) = false ∧ decide (m.to < 0) = false ∧ decide ((n : Int) ≤ m.to) = false ∧ decide (m.ready < 0) = false ∧ decide (1048576 < m.ready) = false ∧ decide (m.mass < 0) = false ∧ decide (1099511627776 < m.mass) = false := by
  unfold badM at h
  simp only [Bool.or_eq_false_iff] at h
  obtain ⟨⟨⟨⟨⟨⟨⟨h1, h2⟩, h3⟩, h4⟩, h5⟩, h6⟩, h7⟩, h8⟩ := h
  exact ⟨h1, h2, h3, h4, h5, h6, h7, h8⟩
def rmE (ms : List Mov) (n : Nat) : Int := if 128 < ms.length then 4 else movE n [] ms

set_option maxHeartbeats 4000000 in
theorem rrightMoves_any (mv dv : Value) (ms : List Mov) (d : List (List Int)) (w : World) (hm : SM w mv ms) (hd : SS w dv d) (hzm : ∀ m ∈ ms, m.item.length ≤ 1100000) :
    Calls Tryz.prog 24 #[mv, dv] w (Ret w (.int .i64 (rmE ms d.length))) := by
  have HZM := Lib.hid hzm
  obtain ⟨a, cap, rfl, h1, h2, h3⟩ := hm
  obtain ⟨da, dc, rfl, g1, g2, _⟩ := hd.open
  have H3 := Lib.hid h3
  have hm : ms.length ≤ 9223372036854775807 := by unfold maxLen at h2; omega
  clear hzm hd h3
  have HIE : Hid (rmE ms d.length = if 128 < ms.length then 4 else movE d.length [] ms) := rfl
  by_cases hl : 128 < ms.length
  · have HR : Hid (rmE ms d.length = 4) := by show _ = _; rw [HIE.out, if_pos hl]
    clear HIE
    go_enter Tryz.func24, Tryz.ntmps24
    go_wp2_with fail
    go_ret
    exact ⟨ret_int HR.out.symm, Below.refl _ _⟩
  have HI3 : Hid (rmE ms d.length = movE d.length [] ms) := by show _ = _; rw [HIE.out, if_neg hl]
  clear HIE
  have hl2 : ms.length ≤ 128 := by omega
  clear hl
  go_enter Tryz.func24, Tryz.ntmps24
  go_wp2_with fail
  go_loopw [5] (fun i wr => ∃ k : Nat, k ≤ ms.length ∧ i = .int .i64 k ∧ Hid (Below w.heap.size w wr) ∧ Hid (rmE ms d.length = movE d.length ((ms.take k).map Mov.item) (ms.drop k))) (fun i _ => ms.length - (intOf i).toNat)
  case atStart => exact ⟨0, Nat.zero_le _, rfl, Below.refl _ _, HI3.out⟩
  case round =>
    clear HI3
    obtain ⟨k, hk, rfl, hb, hE⟩ := hrel
    by_cases hlt : k < ms.length
    · obtain ⟨b, off, ha, hc⟩ := H3.out k hlt
      subst ha
      have hc' := hc.keep hb.out
      have hnz := HZM.out _ (mvi_mem hlt)
      have HT := Lib.hid (movE_at (n := d.length) hlt)
      have HYE := Lib.hid (fun (j : Nat) (x : List UInt8) hj h => any_item (ms := ms) (k := k) (j := j) (x := x) hj hk h)
      have HNO := Lib.hid (fun (x : List UInt8) h => none_item (ms := ms) (k := k) (x := x) hk h)
      generalize mvi ms k = t at *
      obtain ⟨c0, c1, c2, c3, c4⟩ := hc'
      clear hc
      go_wp2_with fail
      refine (rIsId_any (bs t.item) _ (by rw [bs_size]; exact hnz)).mono ?_
      rintro e w1 ⟨rfl, hb1⟩
      rw [bs_list]
      have q0 := cell_keep hb1 (p := ⟨wr.heap.size, 0, none⟩) (v := .string (bs t.item)) (by go_simp)
      have q1 := cell_keep hb1 (p := ⟨wr.heap.size, 1, none⟩) (v := .int .i64 t.frm) (by go_simp)
      have q2 := cell_keep hb1 (p := ⟨wr.heap.size, 2, none⟩) (v := .int .i64 t.to) (by go_simp)
      have q3 := cell_keep hb1 (p := ⟨wr.heap.size, 3, none⟩) (v := .int .i64 t.ready) (by go_simp)
      have q4 := cell_keep hb1 (p := ⟨wr.heap.size, 4, none⟩) (v := .int .i64 t.mass) (by go_simp)
      have HB1 := Lib.hid (ext_trans (below_alloc hb.out _) hb1)
      clear hb1 hnz c0 c1 c2 c3 c4
      cases hn : idB t.item
      · rw [if_pos hn] at HT
        go_wp2_with fail
        go_ret
        exact ⟨ret_int (by rw [hE.out, HT.out]), HB1.out⟩
      rw [if_neg (by rw [hn]; decide)] at HT
      clear hn
      cases hbm : badM d.length t
      rotate_left
      · have HR : Hid (rmE ms d.length = 9) := by show _ = _; rw [hE.out, HT.out, if_pos hbm]
        clear HT hE
        rcases badM_first _ _ hbm with z1 | ⟨z1, z2⟩ | ⟨z1, z2, z3⟩ | ⟨z1, z2, z3, z4⟩ | ⟨z1, z2, z3, z4, z5⟩ | ⟨z1, z2, z3, z4, z5, z6⟩ | ⟨z1, z2, z3, z4, z5, z6, z7⟩ | ⟨z1, z2, z3, z4, z5, z6, z7, z8⟩ <;> clear hbm
        all_goals
          go_wp2_with fail
          go_ret
          exact ⟨ret_int HR.out.symm, HB1.out⟩
      · obtain ⟨z1, z2, z3, z4, z5, z6, z7, z8⟩ := badM_none _ _ hbm
        rw [if_neg (by rw [hbm]; decide)] at HT
        have HT2 : Hid (rmE ms d.length = if ((ms.take k).map Mov.item).contains t.item = true then 7 else movE d.length ((ms.take (k + 1)).map Mov.item) (ms.drop (k + 1))) := by
          show _ = _; rw [hE.out, HT.out]
        clear HT hE hbm
        go_wp2_with fail
        clear z1 z2 z3 z4 z5 z6 z7 z8
        obtain ⟨M, hM⟩ : ∃ M, M = wr.heap.size := ⟨_, rfl⟩
        rw [← hM] at q0 q1 q2 q3 q4 ⊢
        clear hM q1 q2 q3 q4
        go_loopw [7] (fun j w2 => ∃ q : Nat, q ≤ k ∧ j = .int .i64 q ∧ Hid (Below w1.heap.size w1 w2) ∧ Hid (∀ p, p < q → (mvi ms p).item ≠ t.item)) (fun j _ => k - (intOf j).toNat)
        case atStart => exact ⟨0, Nat.zero_le _, rfl, Below.refl _ _, Lib.hid fun p hp => by omega⟩
        case round =>
          obtain ⟨w2, rfl⟩ : ∃ x : World, x = wr := ⟨_, rfl⟩
          obtain ⟨q, hq, rfl, hW, hN⟩ := hrel
          have HB2 := Lib.hid (ext_trans HB1.out hW.out)
          by_cases hqk : q < k
          · obtain ⟨b', off', ha', hcp⟩ := H3.out q (by omega)
            have ha' := Option.some.inj ha'
            simp only [Addr.mk.injEq] at ha'
            obtain ⟨rfl, rfl, _⟩ := ha'
            have c0 := (hcp.keep HB2.out).c0
            have q0' := cell_keep hW.out q0
            have i1 : (q : Int) < (k : Int) := by omega
            have i2 : (q : Int) < (ms.length : Int) := by omega
            have i3 : (q : Int) < (cap : Int) := by omega
            clear hcp
            obtain ⟨y, hy⟩ : ∃ y, (mvi ms q).item = y := ⟨_, rfl⟩
            rw [hy] at c0
            have HY := Lib.hid hy
            clear hy
            have hbe := bs_eq y t.item
            by_cases he : y = t.item
            · have HR : Hid (rmE ms d.length = 7) := by show _ = _; rw [HT2.out, if_pos (HYE.out q t.item hqk (by rw [HY.out, he]))]
              rw [he] at hbe c0
              rw [show (t.item == t.item) = true by simp] at hbe
              clear HT2 he HYE
              go_wp2_with fail
              go_quiet (fail)
              go_wp2_with fail
              go_ret
              exact ⟨ret_int HR.out.symm, below_drewN' HB2.out _⟩
            · rw [show (y == t.item) = false by simpa using he] at hbe
              go_wp2_with fail
              go_quiet (fail)
              go_wp2_with fail
              go_roundw
              case rel => exact ⟨q + 1, by omega, by go_num, below_drewN' hW.out _, fun p hp => by
                rcases Nat.lt_succ_iff_lt_or_eq.1 hp with h | h
                · exact hN.out p h
                · subst h; rw [HY.out]; exact he⟩
              case measure => simp [intOf]; omega
          · obtain rfl : q = k := by omega
            have HNX : Hid (rmE ms d.length = movE d.length ((ms.take (q + 1)).map Mov.item) (ms.drop (q + 1))) := by show _ = _; rw [HT2.out, if_neg (by rw [HNO.out _ hN.out]; decide)]
            have i1 : ¬ (q : Int) < (q : Int) := by omega
            clear HT2 HNO HYE hN
            go_wp2_with fail
            go_roundw
            case rel => exact ⟨q + 1, by omega, by go_num, HB2.out, HNX.out⟩
            case measure => simp [intOf]; omega
    · have HR : Hid (rmE ms d.length = 0) := by show _ = _; rw [hE.out, movE_end _ _ _ (by omega)]
      clear hE
      go_wp2_with fail
      go_ret
      exact ⟨ret_int HR.out.symm, hb.out⟩
end Go.Proofs.YtpbmmdoodmbneaaGreatDoor
