/- The statement BarsLeast: for every input the law returns true, and each argument reads afterwards as it did. -/
import Derived.Test.YtlgepggmgfnneaaRowSpec
import Derived.Test.YtlgepggmgfnneaaBarLB
import Derived.Test.YtlgepggmgfnneaaBarW
import Derived.Test.YtlgepggmgfnneaaAppRow
import Derived.Test.YtlgepggmgfnneaaBase
import Derived.Test.YtlgepggmgfnneaaRows
import Derived.ProofKit
import Derived.OpenShut
import Derived.ChangeOld
import Derived.Below
import Derived.Deep.Matrix
import Derived.Deep.Slices
import Derived.ChangeArms
import Derived.Test.YtlgepggmgfnneaaBarE

/- First fit makes a right plan; least numbers of bars of lists that are turned round, or shorter; in plain Lean. -/
namespace Go.Proofs.Ytlgepggmgfnneaa

theorem ordG_nodup (l : List Int) : (ordG l).Nodup := by
  have : ∀ k, k ≤ l.length → (selB (befG l) l.length k).Nodup ∧ ∀ x ∈ selB (befG l) l.length k, 0 ≤ x ∧ x < l.length := by
    intro k
    induction k with
    | zero => intro _; exact ⟨by simp [selB], fun x hx => by simp [selB] at hx⟩
    | succ k ih =>
      intro hk
      obtain ⟨h1, h2⟩ := ih (by omega)
      rw [selB]
      rcases nextB_spec (bef_G l) (selB (befG l) l.length k) l.length with ⟨_, h3⟩ | ⟨h3, h4, h5, _⟩
      · exfalso
        have := List.Nodup.length_le_of_subset (range_nodup l.length) (l₂ := selB (befG l) l.length k) (fun x hx => by
          rw [List.mem_map] at hx
          obtain ⟨j, hj, rfl⟩ := hx
          exact h3 j (List.mem_range.1 hj))
        rw [selB_length] at this
        simp at this
        omega
      · refine ⟨?_, fun x hx => ?_⟩
        · rw [List.nodup_append]
          exact ⟨h1, by simp, fun a ha b hb e => by simp at hb; subst hb; subst e; exact h5 ha⟩
        · rw [List.mem_append, List.mem_singleton] at hx
          rcases hx with hx | rfl
          · exact h2 x hx
          · exact ⟨h3, h4⟩
  exact (this l.length (Nat.le_refl _)).1

theorem flatten_set {rs : List (List Int)} {t : Nat} {x : Int} (h : t < rs.length) : (rs.set t (ri rs t ++ [x])).flatten.Perm (rs.flatten ++ [x]) := by
  have e : rs = rs.take t ++ (ri rs t :: rs.drop (t + 1)) := by rw [ri_lt h, ← List.drop_eq_getElem_cons h, List.take_append_drop]
  have e2 : rs.set t (ri rs t ++ [x]) = rs.take t ++ ((ri rs t ++ [x]) :: rs.drop (t + 1)) := by
    rw [List.set_eq_take_append_cons_drop, if_pos h]
  rw [e2]
  conv => rhs; rw [e]
  simp only [List.flatten_append, List.flatten_cons, List.append_assoc]
  refine List.Perm.append_left _ (List.Perm.append_left _ ?_)
  exact List.perm_append_comm

def sumR (l : List Int) (k : Int) (row : List Int) : Int := (row.map fun x => glI l x + k).sum
theorem sumR_app (l k row x) : sumR l k (row ++ [x]) = sumR l k row + (glI l x + k) := by simp [sumR]
structure GI (l : List Int) (s k : Int) (n : Nat) (st : Bars) : Prop where
  perm : st.1.flatten.Perm ((ordG l).take n)
  len : st.2.length = st.1.length
  free : ∀ i, i < st.1.length → gi st.2 i = s + k - sumR l k (ri st.1 i)
  ne : ∀ i, i < st.1.length → ri st.1 i ≠ []
theorem gi_plan {l : List Int} {s k : Int} : ∀ n, n ≤ l.length → GI l s k n (planG l s k n) := by
  intro n
  induction n with
  | zero => intro _; exact ⟨by simp [planG], rfl, fun i hi => by simp [planG] at hi, fun i hi => by simp [planG] at hi⟩
  | succ n ih =>
    intro hn
    have h := ih (by omega)
    have hts : (ordG l).take (n + 1) = (ordG l).take n ++ [gi (ordG l) n] := take_succ_gi (by rw [ordG_length]; omega)
    rw [planG_succ]
    generalize planG l s k n = st at h ⊢
    obtain ⟨rs, fr⟩ := st
    obtain ⟨h1, h2, h3, h4⟩ := h
    try dsimp only at h1 h2 h3 h4
    generalize gi (ordG l) n = x at *
    rcases findI_cases (fun m => decide (glI l x + k ≤ m)) fr with ⟨hx, _⟩ | ⟨t, hx, ht, _, _⟩
    · rw [stepG_new (st := (rs, fr)) (by show findI _ fr < 0; rw [hx]; omega)]
      refine ⟨?_, by simp [h2], fun i hi => ?_, fun i hi => ?_⟩
      · rw [hts, List.flatten_append]
        simpa using h1.append_right [x]
      · dsimp only at hi ⊢
        rw [List.length_append, List.length_singleton] at hi
        by_cases e : i < rs.length
        · rw [gi_append_left (by omega), ri_append_left e]; exact h3 i e
        · obtain rfl : i = rs.length := by omega
          rw [ri_append_one]
          have : gi (fr ++ [s + k - (glI l x + k)]) rs.length = s + k - (glI l x + k) := by rw [← h2, gi_append_one]
          rw [this]; simp [sumR]
      · dsimp only at hi ⊢
        rw [List.length_append, List.length_singleton] at hi
        by_cases e : i < rs.length
        · rw [ri_append_left e]; exact h4 i e
        · obtain rfl : i = rs.length := by omega
          rw [ri_append_one]; simp
    · rw [stepG_old (st := (rs, fr)) (t := t) hx]
      have htr : t < rs.length := by omega
      refine ⟨?_, by simp [h2], fun i hi => ?_, fun i hi => ?_⟩
      · rw [hts]
        exact (flatten_set htr).trans (h1.append_right [x])
      · dsimp only at hi ⊢
        rw [List.length_set] at hi
        rw [gi_setB ht, ri_setR htr]
        by_cases e : i = t
        · subst e
          simp only [if_true]
          rw [sumR_app, h3 i hi]; omega
        · rw [if_neg e, if_neg e]; exact h3 i hi
      · dsimp only at hi ⊢
        rw [List.length_set] at hi
        rw [ri_setR htr]
        split
        · simp
        · exact h4 i hi
theorem greedy_right {l : List Int} {s k : Int} (h : GoodB l s k) : RightP (planG l s k l.length).1 l s k := by
  have g := gi_plan (l := l) (s := s) (k := k) l.length (Nat.le_refl _)
  have f := fit_plan h l.length (Nat.le_refl _)
  have hp := g.perm
  rw [List.take_of_length_le (by rw [ordG_length]; exact Nat.le_refl _)] at hp
  refine ⟨fun row hrow => ?_, fun x hx => ?_, ?_, ?_⟩
  · obtain ⟨i, hi, rfl⟩ := mem_ri hrow
    have a := g.free i hi
    have b := f.free i (by rw [g.len]; exact hi)
    refine ⟨g.ne i hi, ?_⟩
    show sumR l k _ - k ≤ s
    omega
  · exact ordG_mem (hp.mem_iff.1 hx)
  · exact hp.nodup_iff.2 (ordG_nodup l)
  · rw [hp.length_eq, ordG_length]
theorem greedy_least {l : List Int} {s k : Int} (h : GoodB l s k) : leastV l s k ≤ (planG l s k l.length).1.length := right_least h (greedy_right h)

/-! lists turned round, and shorter -/
theorem load_append {xs ys : List Int} {ls ms : List Nat} (h : ls.length = xs.length) (b : Nat) : load (xs ++ ys) (ls ++ ms) b = load xs ls b + load ys ms b := by
  induction xs generalizing ls with
  | nil => have : ls = [] := List.eq_nil_of_length_eq_zero (by simpa using h)
           subst this; simp [load_nil]
  | cons x xs ih =>
    cases ls with
    | nil => simp at h
    | cons q ls =>
      rw [List.cons_append, List.cons_append, load_cons, load_cons, ih (by simpa using h)]; omega
theorem load_reverse {xs : List Int} {ls : List Nat} (h : ls.length = xs.length) (b : Nat) : load xs.reverse ls.reverse b = load xs ls b := by
  induction xs generalizing ls with
  | nil => have : ls = [] := List.eq_nil_of_length_eq_zero (by simpa using h)
           subst this; rfl
  | cons x xs ih =>
    cases ls with
    | nil => simp at h
    | cons q ls =>
      have hl : ls.length = xs.length := by simpa using h
      rw [List.reverse_cons, List.reverse_cons, load_append (by simpa using hl), ih hl, load_cons, load_cons, load_nil]; omega
theorem packs_reverse {c : Int} {nd : List Int} {m : Nat} (h : Packs c nd m) : Packs c nd.reverse m := by
  obtain ⟨ls, h1, h2, h3⟩ := h
  exact ⟨ls.reverse, by simp [h1], fun q hq => h2 q (by simpa using hq), fun b => by rw [load_reverse h1]; exact h3 b⟩
theorem packs_tail {c x : Int} {nd : List Int} {m : Nat} (hx : 0 ≤ x) (h : Packs c (x :: nd) m) : Packs c nd m := by
  obtain ⟨ls, h1, h2, h3⟩ := h
  cases ls with
  | nil => simp at h1
  | cons q ls =>
    refine ⟨ls, by simpa using h1, fun r hr => h2 r (by simp [hr]), fun b => ?_⟩
    have := h3 b
    rw [load_cons] at this
    split at this <;> omega
theorem packs_cons {c x : Int} {nd : List Int} {m : Nat} (hx : x ≤ c) (h : Packs c nd m) : Packs c (x :: nd) (m + 1) := by
  obtain ⟨ls, h1, h2, h3⟩ := h
  refine ⟨m :: ls, by simp [h1], fun r hr => ?_, fun b => ?_⟩
  · rcases List.mem_cons.1 hr with rfl | hr
    · omega
    · have := h2 r hr; omega
  · rw [load_cons]
    by_cases e : m = b
    · subst e
      rw [load_out (fun hm => by have := h2 m hm; omega)]; simp; exact hx
    · rw [if_neg e]; have := h3 b; omega
theorem ndL_reverse (l k) : ndL l.reverse k = (ndL l k).reverse := by simp [ndL]
theorem rightE_reverse (l : List Int) (s k : Int) : rightE l.reverse s k = rightE l s k := by
  have e1 : allB l.reverse = allB l := by unfold allB; rw [List.any_reverse]
  unfold rightE
  rw [List.length_reverse, e1, List.any_reverse]
theorem good_reverse {l : List Int} {s k : Int} (h : GoodB l s k) : GoodB l.reverse s k := rightE_zero.1 (by rw [rightE_reverse]; exact rightE_zero.2 h)
theorem least_reverse {l : List Int} {s k : Int} (h : GoodB l s k) : leastV l.reverse s k = leastV l s k := by
  have a := bestS_packs (good_need h)
  have b := bestS_packs (good_need (good_reverse h))
  have a' := packs_reverse a
  have b' := packs_reverse b
  rw [← ndL_reverse] at a'
  rw [← ndL_reverse, List.reverse_reverse] at b'
  exact Nat.le_antisymm (bestS_least (good_need (good_reverse h)) a') (bestS_least (good_need h) b')
theorem good_tail {x : Int} {l : List Int} {s k : Int} (h : GoodB (x :: l) s k) : GoodB l s k := ⟨by have := h.len; simp at this; omega, fun y hy => h.side y (by simp [hy]), h.stock, h.kerf⟩
theorem least_tail {x : Int} {l : List Int} {s k : Int} (h : GoodB (x :: l) s k) : leastV l s k ≤ leastV (x :: l) s k ∧ leastV (x :: l) s k ≤ leastV l s k + 1 := by
  have e : ndL (x :: l) k = (x + k) :: ndL l k := rfl
  have hx := (good_need h).nn (x + k) (by rw [e]; simp)
  have a := bestS_packs (good_need h)
  have b := bestS_packs (good_need (good_tail h))
  constructor
  · refine bestS_least (good_need (good_tail h)) ?_
    have := a
    rw [e] at this
    exact packs_tail hx.1 this
  · refine bestS_least (good_need h) ?_
    rw [e]
    exact packs_cons hx.2 b
end Go.Proofs.Ytlgepggmgfnneaa

/- The laws BarsRight, BarsOrder. -/
namespace Go.Proofs.Ytlgepggmgfnneaa
open Go.RowKit

theorem SS.slice {w : World} {v : Value} {rs : List (List Int)} (h : SS w v rs) : ∃ a c, v = .slice a rs.length c ∧ rs.length ≤ c := by
  obtain ⟨vs, ⟨a, c, e, h1, _⟩, _⟩ := h; exact ⟨a, c, e, h1⟩
theorem best9 {l : List Int} {s k : Int} (h : l.length ≤ 9) : bestE l s k = rightE l s k := by unfold bestE; rw [if_neg (by omega)]

set_option maxRecDepth 100000 in
set_option maxHeartbeats 4000000 in
theorem right_law (v : Value) (l : List Int) (s k : Int) (w : World) (h : SI w v l) : Calls Try.prog 7 #[v, .int .i64 s, .int .i64 k] w (Law w) := by
  have H := Lib.hid h
  obtain ⟨a, cap, rfl, h1, h2, h3⟩ := h
  clear h3
  have hm : l.length ≤ 9223372036854775807 := by unfold maxLen at h2; omega
  by_cases hl : 9 < l.length
  · have hlb : decide ((9 : Int) < l.length) = true := by rw [decide_eq_true_eq]; omega
    go_enter Try.func7, Try.ntmps7
    go_wp2_with fail
    refine (awake_any _).mono ?_
    rintro e w2 ⟨rfl, hb⟩
    go_wp2_with fail
    go_ret
    exact ⟨rfl, hb⟩
  have hlb : decide ((9 : Int) < l.length) = false := by rw [decide_eq_false_iff_not]; omega
  have HB9 := Lib.hid (best9 (s := s) (k := k) (by omega : l.length ≤ 9))
  go_enter Try.func7, Try.ntmps7
  go_wp2_with fail
  refine (Greedy_any _ l s k _ H.out).mono ?_
  rintro e w1 ⟨r1, rfl, hs, hb⟩
  have HB1 := Lib.hid hb
  have HS1 := Lib.hid hs
  clear hb hs
  go_wp2_with fail
  refine (Best_any _ l s k _ (H.out.keep HB1.out)).mono ?_
  rintro e w2 ⟨r2, rfl, hs, hb⟩
  have HB2 := Lib.hid (ext_trans HB1.out hb)
  have HS2 := Lib.hid (HS1.out.keep hb)
  have HT2 := Lib.hid hs
  clear hb hs
  rw [HB9.out]
  by_cases hr : rightE l s k = 0
  · have HG := Lib.hid (rightE_zero.1 hr)
    have e1 : (rightE l s k != 0) = false := by rw [hr]; rfl
    have HGR : Hid (RightP (greedyL l s k) l s k) := by show RightP _ _ _ _; rw [greedyL_good hr]; exact greedy_right HG.out
    have HBR : Hid (RightP (bestL l s k) l s k) := by show RightP _ _ _ _; rw [bestL_good (by rw [HB9.out]; exact hr)]; exact best_right HG.out
    rw [hr]
    clear hr
    go_wp2_with fail
    refine (lright_any _ _ _ l s k _ HS2.out (H.out.keep HB2.out) HG.out).mono ?_
    rintro e w3 ⟨⟨b, rfl, hiff⟩, hb⟩
    have hbt : b = true := hiff.2 HGR.out
    subst hbt
    have HB3 := Lib.hid (ext_trans HB2.out hb)
    have HT3 := Lib.hid (HT2.out.keep hb)
    clear hb hiff
    go_wp2_with fail
    refine (lright_any _ _ _ l s k _ HT3.out (H.out.keep HB3.out) HG.out).mono ?_
    rintro e w4 ⟨⟨b, rfl, hiff⟩, hb⟩
    have hbt : b = true := hiff.2 HBR.out
    subst hbt
    have HB4 := Lib.hid (ext_trans HB3.out hb)
    clear hb hiff
    go_wp2_with fail
    refine (awake_any _).mono ?_
    rintro e w5 ⟨rfl, hb⟩
    go_wp2_with fail
    go_ret
    exact law_of rfl HB4.out hb
  · have e1 : (rightE l s k != 0) = true := by simpa using hr
    have e2 : (rightE l s k == rightE l s k) = true := by rw [beq_iff_eq]
    obtain ⟨a1, c1, e3, _⟩ := HS2.out.slice
    obtain ⟨a2, c2, e4, _⟩ := HT2.out.slice
    rw [greedyL_bad hr] at e3
    rw [bestL_bad (by rw [HB9.out]; exact hr)] at e4
    subst e3 e4
    clear hr
    go_wp2_with fail
    refine (awake_any _).mono ?_
    rintro e w5 ⟨rfl, hb⟩
    go_wp2_with fail
    go_ret
    exact law_of rfl HB2.out hb
end Go.Proofs.Ytlgepggmgfnneaa

/- The law BarsLeast. -/
namespace Go.Proofs.Ytlgepggmgfnneaa
open Go.RowKit

theorem SI_slice {w : World} {v : Value} {xs : List Int} (h : SI w v xs) : ∃ a c, v = .slice a xs.length c ∧ xs.length ≤ c := by
  obtain ⟨a, c, e, h1, _⟩ := h; exact ⟨a, c, e, h1⟩
theorem greedy_min {l : List Int} {s k : Int} (hr : rightE l s k = 0) (h : GoodB l s k) : leastV l s k ≤ (greedyL l s k).length := by
  rw [greedyL_good hr]; exact greedy_least h

set_option maxRecDepth 100000 in
set_option maxHeartbeats 4000000 in
theorem least_law (u vw : Value) (l us : List Int) (s k : Int) (w : World) (h : SI w u l) (g : Sl w vw us.length fun i => .int .u8 (gi us i)) (hu : ∀ x ∈ us, 0 ≤ x ∧ x ≤ 255) :
    Calls Try.prog 8 #[.agg #[u, .int .i64 s, .int .i64 k, vw]] w (Law w) := by
  have H := Lib.hid h
  obtain ⟨a, cap, rfl, h1, h2, h3⟩ := h
  obtain ⟨aw, capw, rfl, g1, g2, g3⟩ := g
  have G3 := Lib.hid g3
  have HU := Lib.hid hu
  clear h3 g3 hu
  have hm : l.length ≤ 9223372036854775807 := by unfold maxLen at h2; omega
  have hmw : us.length ≤ 9223372036854775807 := by unfold maxLen at g2; omega
  by_cases hl : 9 < l.length ∨ us.length < l.length
  · have hlb : decide ((9 : Int) < l.length) = true ∨ decide (us.length < l.length) = true := by rcases hl with h | h; left; rw [decide_eq_true_eq]; omega; right; rw [decide_eq_true_eq]; omega
    have hb0 : Hid (Below w.heap.size w (w.alloc (.cells #[.slice a l.length cap, .int .i64 s, .int .i64 k, .slice aw us.length capw] 47))) := (Below.refl _ _).alloc (Nat.le_refl _) _
    clear hl
    go_enter Try.func8, Try.ntmps8
    go_wp2_with fail
    go_quiet (fail)
    rcases hlb with hlb | hlb
    all_goals
      go_wp2_with fail
      all_goals
        refine (awake_any _).mono ?_
        rintro e w2 ⟨rfl, hb⟩
        go_wp2_with fail
        go_ret
        exact law_of rfl (below_drewN' hb0.out _) hb
  have hlb : decide ((9 : Int) < l.length) = false := by rw [decide_eq_false_iff_not]; omega
  have hlc : decide (us.length < l.length) = false := by rw [decide_eq_false_iff_not]; omega
  have h9 : l.length ≤ 9 := by omega
  have hul : l.length ≤ us.length := by omega
  clear hl
  have HBE := Lib.hid (best9 (s := s) (k := k) h9)
  have hb0 : Hid (Below w.heap.size w (w.alloc (.cells #[.slice a l.length cap, .int .i64 s, .int .i64 k, .slice aw us.length capw] 47))) := (Below.refl _ _).alloc (Nat.le_refl _) _
  go_enter Try.func8, Try.ntmps8
  go_wp2_with fail
  go_quiet (fail)
  go_wp2_with fail
  refine (Bound_any _ l s k _ (H.out.keep (below_drewN' hb0.out _))).mono ?_
  rintro e w1 ⟨rfl, hb⟩
  have HB1 := Lib.hid (ext_trans (below_drewN' hb0.out _) hb)
  clear hb
  go_wp2_with fail
  refine (Greedy_any _ l s k _ (H.out.keep HB1.out)).mono ?_
  rintro e w2 ⟨r1, rfl, hs, hb⟩
  have HB2 := Lib.hid (ext_trans HB1.out hb)
  have HS2 := Lib.hid hs
  clear hb hs
  go_wp2_with fail
  refine (Best_any _ l s k _ (H.out.keep HB2.out)).mono ?_
  rintro e w3 ⟨r2, rfl, hs, hb⟩
  have HB3 := Lib.hid (ext_trans HB2.out hb)
  have HS3 := Lib.hid (HS2.out.keep hb)
  have HT3 := Lib.hid hs
  clear hb hs
  rw [HBE.out]
  by_cases hr : rightE l s k = 0
  rotate_left
  · have e1 : (rightE l s k != 0) = true := by simpa using hr
    have e2 : (rightE l s k == rightE l s k) = true := by rw [beq_iff_eq]
    clear hr
    go_wp2_with fail
    refine (awake_any _).mono ?_
    rintro e w5 ⟨rfl, hb⟩
    go_wp2_with fail
    go_ret
    exact law_of rfl HB3.out hb
  have HG := Lib.hid (rightE_zero.1 hr)
  have e1 : (rightE l s k != 0) = false := by rw [hr]; rfl
  have hbl : boundR l s k ≤ leastV l s k := by unfold boundR; rw [if_pos hr]; exact bound_least HG.out
  have hgl := greedy_min hr HG.out
  obtain ⟨a1, c1, es1, _⟩ := HS3.out.slice
  obtain ⟨a2, c2, es2, _⟩ := HT3.out.slice
  rw [bestL_good (by rw [HBE.out]; exact hr), bestP_length] at es2
  have HMIN : Hid (∀ plan, RightP plan l s k → leastV l s k ≤ plan.length) := fun plan h => right_least HG.out h
  have hlen := HS3.out.len
  unfold maxLen at hlen
  obtain ⟨M, hM⟩ : ∃ M, leastV l s k = M := ⟨_, rfl⟩
  obtain ⟨G, hGn⟩ : ∃ G, (greedyL l s k).length = G := ⟨_, rfl⟩
  obtain ⟨n0, hn0⟩ : ∃ n0, boundR l s k = n0 := ⟨_, rfl⟩
  rw [hM] at hbl hgl es2 HMIN
  rw [hGn] at hgl es1 hlen
  rw [hn0] at hbl ⊢
  subst es1 es2
  rw [hr]
  clear hr hM hGn hn0 HS3 HT3
  go_wp2_with fail
  go_loopw [13, 14, 15, 16] (fun t i _ _ wr => ∃ n : Nat, n ≤ 9 ∧ i = .int .i64 n ∧ Hid (Below w3.heap.size w3 wr) ∧ Hid (∃ rs : List (List Int), rs.length ≤ n ∧ OwnT wr w3.heap.size t rs)) (fun _ i _ _ _ => 9 - (intOf i).toNat)
  case atStart => exact ⟨0, Nat.zero_le _, rfl, Below.refl _ _, [], Nat.le_refl _, OwnT_nil _ _⟩
  case round =>
    obtain ⟨wo, rfl⟩ : ∃ wo : World, wo = wr := ⟨_, rfl⟩
    obtain ⟨n, hn, rfl, hbw, hrs⟩ := hrel
    by_cases hlt : n < 9
    · have hnb : decide ((n : Int) < 9) = true := by rw [decide_eq_true_eq]; omega
      go_wp2_with fail
      go_loopw [15, 16] (fun r i w4 => ∃ m : Nat, m ≤ l.length ∧ i = .int .i64 m ∧ Hid (Below wo.heap.size wo w4) ∧ Hid (∃ xs : List Int, xs.length ≤ m ∧ OwnI w4 wo.heap.size r xs)) (fun _ i _ => l.length - (intOf i).toNat)
      case atStart => exact ⟨0, Nat.zero_le _, rfl, Below.refl _ _, [], Nat.le_refl _, OwnI_nil _ _⟩
      case round =>
        obtain ⟨m, hm2, rfl, hb4, hxs⟩ := hrel
        by_cases hlm : m < l.length
        · obtain ⟨b, off, ha, hc⟩ := G3.out m (by omega)
          have hc := cell_keep hb4.out (cell_keep hbw.out (cell_keep HB3.out hc))
          have hux := HU.out _ (gi_mem (xs := us) (k := m) (by omega))
          try dsimp only at hc
          rw [ha]
          obtain ⟨x, hx⟩ : ∃ x, gi us m = x := ⟨_, rfl⟩
          rw [hx] at hc hux
          have hmu : (m : Int) < (us.length : Int) := by omega
          clear hx ha
          obtain ⟨xs, hxl, hown⟩ := hxs.out
          have HO := Lib.hid hown
          clear hown hxs
          have hsb := hb4.out.size
          cases hq : (x % 9 == (n : Int))
          · go_wp2_with fail
            go_roundw
            case rel => exact ⟨m + 1, by omega, by go_num, hb4, xs, by omega, HO.out⟩
            case measure => simp [intOf]; omega
          · go_wp2_with (at_builtin; refine wpList_app_int rfl (.tmp 96) (.tmp 98) rfl wo.heap.size _ _ xs [(m : Int)] rfl rfl (HO.out.alloc _) (SI_one _ _ _) (by simp; omega) (by simp; omega) ?_)
            intro va wa hoa hga _
            have hba : Below wo.heap.size wo wa := (hb4.out.alloc hsb _).grown hga (by simp; omega) (fun k hk => (World.ownsRow.lt HO.out k hk).1)
            have HOA := Lib.hid hoa
            have HBA := Lib.hid hba
            clear hoa hba hga
            go_wp2_with fail
            go_roundw
            case rel => exact ⟨m + 1, by omega, by go_num, HBA, xs ++ [(m : Int)], by simp; omega, HOA.out⟩
            case measure => simp [intOf]; omega
        · obtain ⟨xs, hxl, hown⟩ := hxs.out
          have hown := hown.mono hbw.out.size
          obtain ⟨ar, cr, er, _⟩ := SI_slice hown.si
          subst er
          have HO := Lib.hid hown
          obtain ⟨rs, hrl, htt⟩ := hrs.out
          have HT := Lib.hid (htt.below hb4.out)
          have hsb := hb4.out.size
          have hsw := hbw.out.size
          clear hown hxs htt
          by_cases hx0 : xs.length = 0
          · have hq : decide ((0 : Int) < (xs.length : Int)) = false := by rw [decide_eq_false_iff_not]; omega
            have hq2 : decide (0 < xs.length) = false := by rw [decide_eq_false_iff_not]; omega
            clear hx0
            go_wp2_with fail
            go_roundw
            case rel => exact ⟨n + 1, by omega, by go_num, ext_trans hbw.out hb4.out, rs, by omega, HT.out⟩
            case measure => simp [intOf]; omega
          · have hq : decide ((0 : Int) < (xs.length : Int)) = true := by rw [decide_eq_true_eq]; omega
            have hq2 : decide (0 < xs.length) = true := by rw [decide_eq_true_eq]; omega
            clear hx0
            go_wp2_with (at_builtin; refine wpList_app_row rfl (.tmp 103) (.tmp 105) rfl w3.heap.size _ _ rs xs 36 rfl rfl HT.out HO.out rfl (by omega) (by omega) ?_)
            intro tq wq hot hgr hlb
            have hbt : Below w3.heap.size w3 wq := (((ext_trans hbw.out hb4.out).alloc (by omega) _)).grown hgr (by simp; omega) hlb
            have HOT := Lib.hid hot
            have HBT := Lib.hid hbt
            clear hot hbt hgr hlb
            go_wp2_with fail
            go_roundw
            case rel => exact ⟨n + 1, by omega, by go_num, HBT, rs ++ [xs], by simp; omega, HOT.out⟩
            case measure => simp [intOf]; omega
    · have hnb : decide ((n : Int) < 9) = false := by rw [decide_eq_false_iff_not]; omega
      obtain ⟨rs, hrl, htt⟩ := hrs.out
      have HQ := Lib.hid htt.ss
      obtain ⟨ap, cp, ep, _⟩ := HQ.out.slice
      subst ep
      have HB4 := Lib.hid (ext_trans HB3.out hbw.out)
      clear htt hrs
      go_wp2_with fail
      refine (lright_any _ _ _ l s k _ HQ.out (H.out.keep HB4.out) HG.out).mono ?_
      rintro e w5 ⟨⟨b, rfl, hiff⟩, hb⟩
      have HB5 := Lib.hid (ext_trans HB4.out hb)
      have h1 : b = true → ¬ rs.length < M := fun h => by have := HMIN.out rs (hiff.1 h); omega
      have e5 : decide (n0 ≤ (M : Int)) = true := by rw [decide_eq_true_eq]; exact hbl
      have e6 : decide (M ≤ G) = true := by rw [decide_eq_true_eq]; exact hgl
      clear hb hiff
      cases b
      · clear h1
        go_wp2_with fail
        refine (awake_any _).mono ?_
        rintro e w6 ⟨rfl, hb⟩
        go_wp2_with fail
        go_ret
        exact law_of rfl HB5.out hb
      · have e7 : decide (rs.length < M) = false := by rw [decide_eq_false_iff_not]; exact h1 rfl
        clear h1
        go_wp2_with fail
        refine (awake_any _).mono ?_
        rintro e w6 ⟨rfl, hb⟩
        go_wp2_with fail
        go_ret
        exact law_of rfl HB5.out hb
end Go.Proofs.Ytlgepggmgfnneaa

/- The arguments of a law, opened: slices of integers, rows of integers. -/
namespace Go.Proofs.Ytlgepggmgfnneaa
open Go.ChangeShapes Go.WideShapes Go.ChangeAt Go.RowKit Go.Deep

theorem own : ownKnob Try.prog.godebug = none := by kernel_rfl
theorem laidOut : laidOutB Try.prog = true := by kernel_rfl
theorem cells_ints : Try.prog.cellsOf 36 = 1 := by kernel_rfl
theorem cells_int : Try.prog.cellsOf 3 = 1 := by kernel_rfl

/-- cells from an address on, so that the address is that of a plain cell -/
theorem Sl_of {w : World} {a : Addr} {n cap : Nat} {C : Nat → Value} (h1 : n ≤ cap) (h2 : cap ≤ maxLen) (h : ∀ i, i < n → w.cell? (a.add i) = some (C i)) : Sl w (.slice (some a) n cap) n C := by
  refine ⟨some a, cap, rfl, h1, h2, fun i hi => ?_⟩
  obtain ⟨b, off, spot⟩ := a
  have h0 := h 0 (by omega)
  have hs : spot = none := by simpa [Addr.add] using World.cell?_spot h0
  subst hs
  refine ⟨b, off, rfl, ?_⟩
  have := h i hi
  rwa [show (⟨b, off, none⟩ : Addr).add i = ⟨b, off + i, none⟩ by unfold Addr.add; split <;> simp_all] at this

theorem SI_of {w : World} {a : Addr} {n cap : Nat} {zs : List Int} (h1 : n ≤ cap) (h2 : cap ≤ maxLen) (hz : zs.length = cap) (h : ∀ i, i < cap → w.cell? (a.add i) = some (.int .i64 (zs.getD i 0))) : SI w (.slice (some a) n cap) (zs.take n) := by
  have hl : (zs.take n).length = n := by simp; omega
  unfold SI
  rw [hl]
  exact Sl_of h1 h2 fun i hi => by rw [h i (by omega), gi_take hi]; rfl

variable {H : Type} {enc : TypeId × Value → H} {W : World}

theorem ints_arg {a : Option Addr} {n c : Nat} {d : DataW H} {p : List MemPlace} (h : DataW.Trod enc Try.prog W 0 (fun _ => true) true 36 (.slice a n c) d p) :
    ∃ xs, SI W (.slice a n c) xs ∧ ∀ x ∈ xs, (Lit.int .i64 x).wf = true := by
  obtain ⟨fuel, hf⟩ := h
  rcases open_ints Try.underlying36 Try.underlying3 (by kernel_rfl) hf with ⟨hcs, _⟩ | ⟨x, l, c', zs, hcs, _, hl, hm, hz, _, hcell, hwz⟩
  · simp [Value.cells] at hcs
    obtain ⟨rfl, rfl, rfl⟩ := hcs
    exact ⟨[], SI_nil _, by simp⟩
  · simp [Value.cells] at hcs
    obtain ⟨rfl, rfl, rfl⟩ := hcs
    have hz' : zs.length = c := by simpa using hz
    exact ⟨zs.take n, SI_of hl hm hz' (fun i hi => hcell i (by omega)), fun x hx => hwz x (List.mem_of_mem_take hx)⟩

theorem rows_arg {a : Option Addr} {n c : Nat} {d : DataW H} {p : List MemPlace} (h : DataW.Trod enc Try.prog W 0 (fun _ => true) true 40 (.slice a n c) d p) :
    ∃ rs, SS W (.slice a n c) rs ∧ ∀ r ∈ rs, ∀ x ∈ r, (Lit.int .i64 x).wf = true := by
  obtain ⟨fuel, hf⟩ := h
  rcases open_int_rows Try.underlying40 Try.underlying36 Try.underlying3 cells_ints cells_int hf with ⟨hcs, _⟩ | ⟨x, l, c', A, L, C, Z, hcs, _, hl, hm, _, hx⟩
  · simp [Value.cells] at hcs
    obtain ⟨rfl, rfl, rfl⟩ := hcs
    exact ⟨[], SS_nil _, by simp⟩
  · simp [Value.cells] at hcs
    obtain ⟨rfl, rfl, rfl⟩ := hcs
    have hlen : ((List.range n).map fun r => (Z r).take (L r)).length = n := by simp
    refine ⟨(List.range n).map fun r => (Z r).take (L r), ⟨fun r => .slice (A r) (L r) (C r), ?_, fun r hr => ?_⟩, ?_⟩
    · rw [hlen]
      exact Sl_of hl hm fun i hi => (hx i (by omega)).1
    · rw [hlen] at hr
      obtain ⟨_, e1, e2, e3, _, e5, e6⟩ := hx r (by omega)
      have er : ri ((List.range n).map fun r => (Z r).take (L r)) r = (Z r).take (L r) := by simp [ri, hr]
      rw [er]
      show SI W (.slice (A r) (L r) (C r)) _
      cases hA : A r with
      | none =>
        have := e5 hA
        have hL : L r = 0 := by omega
        rw [this, hL, List.take_zero]
        exact SI_nil _
      | some a' => exact SI_of e1 e2 e3 (e6 a' hA).2
    · intro r hr x hx'
      simp only [List.mem_map, List.mem_range] at hr
      obtain ⟨i, hi, rfl⟩ := hr
      exact (hx i (by omega)).2.2.2.2.1 x (List.mem_of_mem_take hx')
end Go.Proofs.Ytlgepggmgfnneaa

/- Arguments opened: structs with structs in them, slices of such structs; any type whose leaves have one cell each. -/
namespace Go.Proofs.Ytlgepggmgfnneaa
open Go.ChangeShapes Go.WideShapes Go.ChangeAt Go.RowKit Go.Deep

/-- the types of the cells of a type's fields, if they lie one behind the other -/
def fieldsOf (P : Program) (L : TypeId → Option (List TypeId)) : List Field → Nat → Option (List TypeId)
  | [], _ => some []
  | f :: r, off => if f.offset = off then
      match L f.type with
      | some l => if P.cellsOf f.type = l.length then (fieldsOf P L r (off + l.length)).map (l ++ ·) else none
      | none => none
    else none
def leavesOf (P : Program) : Nat → TypeId → Option (List TypeId)
  | 0, _ => none
  | n + 1, t => match P.underlying t with
    | some (.struct fs) => fieldsOf P (leavesOf P n) fs.toList 0
    | some _ => some [t]
    | none => none

section
variable {H : Type} {enc : TypeId × Value → H} {P : Program} {w : World} {base : Nat} {spare : Nat → Bool} {held : Bool}

theorem fields_trod {L : TypeId → Option (List TypeId)} {m : Nat} {cs : List Value}
    (hL : ∀ (t : TypeId) (ls : List TypeId) (cs' : List Value) (x : DataW H × List MemPlace), L t = some ls → DataW.trod enc P w base spare held m t cs' = some x → cs'.length = ls.length → ∀ (i : Nat) (t' : TypeId), ls[i]? = some t' → ∃ v n y, cs'[i]? = some v ∧ DataW.trod enc P w base spare held n t' [v] = some y) :
    ∀ (fs : List Field) (off : Nat) (ls : List TypeId), fieldsOf P L fs off = some ls → off + ls.length ≤ cs.length →
    (∀ (i : Nat) (f : Field), fs[i]? = some f → ∃ x, DataW.trod enc P w base spare held m f.type ((cs.drop f.offset).take (P.cellsOf f.type)) = some x) →
    ∀ (i : Nat) (t' : TypeId), ls[i]? = some t' → ∃ v n y, cs[off + i]? = some v ∧ DataW.trod enc P w base spare held n t' [v] = some y := by
  intro fs
  induction fs with
  | nil => intro off ls h _ _ i t' hi; simp only [fieldsOf, Option.some.injEq] at h; subst h; simp at hi
  | cons f r ih =>
    intro off ls h hlen hf i t' hi
    unfold fieldsOf at h
    by_cases ho : f.offset = off
    · rw [if_pos ho] at h
      cases hl : L f.type with
      | none => simp [hl] at h
      | some l =>
        rw [hl] at h
        simp only at h
        by_cases hc : P.cellsOf f.type = l.length
        · rw [if_pos hc] at h
          cases hr : fieldsOf P L r (off + l.length) with
          | none => simp [hr] at h
          | some lr =>
            rw [hr] at h
            simp only [Option.map_some, Option.some.injEq] at h
            subst h
            rw [List.length_append] at hlen
            by_cases hil : i < l.length
            · obtain ⟨x, hx⟩ := hf 0 f rfl
              rw [ho, hc] at hx
              rw [List.getElem?_append_left hil] at hi
              obtain ⟨v, n, y, hv, hy⟩ := hL f.type l _ x hl hx (by simp; omega) i t' hi
              refine ⟨v, n, y, ?_, hy⟩
              rw [List.getElem?_take, if_pos hil, List.getElem?_drop] at hv
              exact hv
            · rw [List.getElem?_append_right (by omega)] at hi
              obtain ⟨v, n, y, hv, hy⟩ := ih (off + l.length) lr hr (by omega) (fun j g hg => hf (j + 1) g (by simpa using hg)) (i - l.length) t' hi
              refine ⟨v, n, y, ?_, hy⟩
              rw [show off + i = off + l.length + (i - l.length) by omega]; exact hv
        · rw [if_neg hc] at h; cases h
    · rw [if_neg ho] at h; cases h

/-- the leaves of what was trod -/
theorem trod_leaves : ∀ (n : Nat) (t : TypeId) (ls : List TypeId), leavesOf P n t = some ls → ∀ (fuel : Nat) (cs : List Value) (x : DataW H × List MemPlace), DataW.trod enc P w base spare held fuel t cs = some x → cs.length = ls.length →
    ∀ (i : Nat) (t' : TypeId), ls[i]? = some t' → ∃ v m y, cs[i]? = some v ∧ DataW.trod enc P w base spare held m t' [v] = some y := by
  intro n
  induction n with
  | zero => intro t ls h; simp [leavesOf] at h
  | succ n ih =>
    intro t ls h fuel cs x hx hlen i t' hi
    unfold leavesOf at h
    split at h
    · rename_i fs hs
      obtain ⟨xs, m, _, _, _, hxl, hg⟩ := DataW.trod_struct hs hx
      have := fields_trod (enc := enc) (P := P) (w := w) (base := base) (spare := spare) (held := held) (L := leavesOf P n) (m := m) (cs := cs) (fun t ls cs' x h1 h2 h3 => ih t ls h1 m cs' x h2 h3) fs.toList 0 ls h (by omega) (fun j f hj => by
        have hj' : fs[j]? = some f := by simpa using hj
        have := hg j f hj'
        have hjl : j < fs.size := (Array.getElem?_eq_some_iff.1 hj').1
        exact ⟨_, this.trans (List.getElem?_eq_getElem (by omega))⟩) i t' hi
      rwa [Nat.zero_add] at this
    · simp only [Option.some.injEq] at h
      subst h
      match cs, hlen with
      | [v], _ =>
        match i, hi with
        | 0, hi => simp only [List.getElem?_cons_zero, Option.some.injEq] at hi; subst hi; exact ⟨v, fuel, x, rfl, hx⟩
    · cases h

/-- a struct by value: its cells -/
theorem open_leaves {n : Nat} {t : TypeId} {ls : List TypeId} {fs : Array Field} {r : Reach} {b0 : Nat} {v : Value} {d : DataW H} {p : List MemPlace} (hs : P.underlying t = some (.struct fs)) (hl : leavesOf P n t = some ls) (hC : P.cellsOf t = ls.length)
    (hv : Value.okWide P w r b0 t v) (h : DataW.Trod enc P w base spare held t v d p) :
    ∃ cs : Array Value, v = .agg cs ∧ cs.size = ls.length ∧ ∀ (i : Nat) (t' : TypeId), ls[i]? = some t' → ∃ u m y, cs[i]? = some u ∧ DataW.trod enc P w base spare held m t' [u] = some y := by
  obtain ⟨cs, rfl, hsz⟩ := okWide_struct hs hv
  obtain ⟨fuel, hf⟩ := h
  refine ⟨cs, rfl, hsz.trans hC, fun i t' hi => ?_⟩
  obtain ⟨u, m, y, h1, h2⟩ := trod_leaves n t ls hl fuel cs.toList (d, p) hf (by simpa using hsz.trans hC) i t' hi
  exact ⟨u, m, y, by simpa using h1, h2⟩

/-- n structs of k cells each: cell j of struct i holds C i j -/
def SR (w : World) (v : Value) (n k : Nat) (C : Nat → Nat → Value) : Prop :=
  ∃ a cap, v = .slice a n cap ∧ n ≤ cap ∧ cap ≤ maxLen ∧ ∀ i, i < n → ∃ b off, a = some ⟨b, off, none⟩ ∧ ∀ j, j < k → w.cell? ⟨b, off + i * k + j, none⟩ = some (C i j)

/-- a slice of structs -/
theorem open_rows {n : Nat} {t e : TypeId} {ls : List TypeId} {fuel : Nat} {cs : List Value} {x : DataW H × List MemPlace} (ht : P.underlying t = some (.slice e)) (hl : leavesOf P n e = some ls) (hC : P.cellsOf e = ls.length) (hpos : 0 < ls.length)
    (h : DataW.trod enc P w base spare held fuel t cs = some x) :
    ∃ (v : Value) (m : Nat) (C : Nat → Nat → Value), cs = [v] ∧ SR w v m ls.length C ∧ ∀ i, i < m → ∀ (j : Nat) (t' : TypeId), ls[j]? = some t' → ∃ q y, DataW.trod enc P w base spare held q t' [C i j] = some y := by
  rcases open_slice ht h with ⟨h0, _⟩ | ⟨a, len, cap, m, q, D, Pl, hcs, hb, hle, hm, hmm, hx, hi⟩
  · exact ⟨_, 0, fun _ _ => undef, h0, ⟨none, 0, rfl, Nat.le_refl _, Nat.zero_le _, fun i hi => by omega⟩, fun i hi => by omega⟩
  · have hlm : len ≤ m := by rw [hmm]; split <;> omega
    have key : ∀ i, i < m → ∀ (j : Nat) (t' : TypeId), ls[j]? = some t' → ∃ u q y, w.cell? (a.add (i * ls.length + j)) = some u ∧ DataW.trod enc P w base spare held q t' [u] = some y := by
      intro i him j t' hj
      obtain ⟨cs', hc, ht'⟩ := hi i him
      rw [hC] at hc
      obtain ⟨_, hcl, hat⟩ := World.cells?_some hc
      obtain ⟨u, q', y, h1, h2⟩ := trod_leaves n e ls hl q cs' _ ht' hcl j t' hj
      have hjl : j < ls.length := (List.getElem?_eq_some_iff.1 hj).1
      refine ⟨u, q', y, ?_, h2⟩
      rw [← Go.Deep.add_add, hat j hjl, h1]
    refine ⟨_, len, fun i j => (w.cell? (a.add (i * ls.length + j))).getD undef, hcs, ⟨some a, cap, rfl, hle, hm, fun i hil => ?_⟩, fun i hil j t' hj => ?_⟩
    · have k0 := key 0 (by omega) 0 _ (List.getElem?_eq_getElem hpos)
      obtain ⟨u0, _, _, h0, _⟩ := k0
      obtain ⟨b, off, spot⟩ := a
      have hsp : spot = none := by simpa [Addr.add] using World.cell?_spot h0
      subst hsp
      refine ⟨b, off, rfl, fun j hj => ?_⟩
      obtain ⟨u, _, _, hu, _⟩ := key i (by omega) j _ (List.getElem?_eq_getElem hj)
      have hadd : (⟨b, off, none⟩ : Addr).add (i * ls.length + j) = ⟨b, off + i * ls.length + j, none⟩ := by unfold Addr.add; simp [Nat.add_assoc]
      dsimp only
      rw [← hadd, hu]; rfl
    · obtain ⟨u, q', y, h1, h2⟩ := key i (by omega) j t' hj
      exact ⟨q', y, by dsimp only; rw [h1]; exact h2⟩
end

theorem SR.keep {w w' : World} {v : Value} {n k : Nat} {C : Nat → Nat → Value} (h : SR w v n k C) (hb : Below w.heap.size w w') : SR w' v n k C := by
  obtain ⟨a, cap, rfl, h1, h2, h3⟩ := h
  refine ⟨a, cap, rfl, h1, h2, fun i hi => ?_⟩
  obtain ⟨b, off, ha, hc⟩ := h3 i hi
  exact ⟨b, off, ha, fun j hj => cell_keep hb (hc j hj)⟩

section
variable {H : Type} {enc : TypeId × Value → H} {W : World}
theorem ints_trod {fuel : Nat} {v : Value} {x : DataW H × List MemPlace} (h : DataW.trod enc Try.prog W 0 (fun _ => true) true fuel 36 [v] = some x) : ∃ xs, SI W v xs ∧ ∀ x ∈ xs, (Lit.int .i64 x).wf = true := by
  rcases open_ints Try.underlying36 Try.underlying3 (by kernel_rfl) h with ⟨hcs, _⟩ | ⟨x, l, c', zs, hcs, _, hl, hm, hz, _, hcell, hwz⟩
  · simp at hcs
    subst hcs
    exact ⟨[], SI_nil _, by simp⟩
  · simp at hcs
    subst hcs
    have hz' : zs.length = c' := by simpa using hz
    exact ⟨zs.take l, SI_of hl hm hz' (fun i hi => hcell i (by omega)), fun x hx => hwz x (List.mem_of_mem_take hx)⟩
theorem int_trod {fuel : Nat} {t : TypeId} {v : Value} {x : DataW H × List MemPlace} {k : IntKind} (ht : Try.prog.underlying t = some (.int k)) (h : DataW.trod enc Try.prog W 0 (fun _ => true) true fuel t [v] = some x) : ∃ n, v = .int k n ∧ (Lit.int k n).wf = true := by
  obtain ⟨n, h1, _, h2⟩ := DataW.trod_int ht h
  simp at h1
  exact ⟨n, h1, h2⟩
theorem str_trod {fuel : Nat} {t : TypeId} {v : Value} {x : DataW H × List MemPlace} (ht : Try.prog.underlying t = some .string) (h : DataW.trod enc Try.prog W 0 (fun _ => true) true fuel t [v] = some x) : ∃ s, v = .string s ∧ s.size ≤ maxLen := by
  obtain ⟨n, h1, _, h2⟩ := DataW.trod_string ht h
  simp at h1
  exact ⟨n, h1, h2⟩
theorem slice_trod {fuel : Nat} {t e : TypeId} {v : Value} {x : DataW H × List MemPlace} (ht : Try.prog.underlying t = some (.slice e)) (h : DataW.trod enc Try.prog W 0 (fun _ => true) true fuel t [v] = some x) : ∃ a n c, v = .slice a n c := by
  rcases open_slice ht h with ⟨h0, _⟩ | ⟨a, len, cap, m, q, D, Pl, hcs, _⟩
  · simp at h0; exact ⟨_, _, _, h0⟩
  · simp at hcs; exact ⟨_, _, _, hcs⟩
end
end Go.Proofs.Ytlgepggmgfnneaa

/- The arguments of BarsLeast and BarsChecks, opened. -/
namespace Go.Proofs.Ytlgepggmgfnneaa
open Go.ChangeShapes Go.WideShapes Go.ChangeAt Go.RowKit Go.Deep

theorem leaves_plan : leavesOf Try.prog 3 47 = some [36, 3, 3, 45] := by kernel_rfl
theorem leaves_cut : leavesOf Try.prog 3 29 = some [9, 3, 22, 9, 9, 9, 3, 9, 27] := by kernel_rfl
def partLs : List TypeId := [9, 3, 3, 9, 9, 3, 49, 50, 9, 3, 3, 3, 3, 3, 3, 3, 3, 3]
theorem leaves_part : leavesOf Try.prog 4 58 = some partLs := by kernel_rfl

section
variable {H : Type} {enc : TypeId × Value → H} {W : World}
theorem u8s_trod {fuel : Nat} {v : Value} {x : DataW H × List MemPlace} (h : DataW.trod enc Try.prog W 0 (fun _ => true) true fuel 45 [v] = some x) :
    ∃ us : List Int, Sl W v us.length (fun i => .int .u8 (gi us i)) ∧ ∀ x ∈ us, 0 ≤ x ∧ x ≤ 255 := by
  rcases open_ints Try.underlying45 Try.underlying5 (by kernel_rfl) h with ⟨hcs, _⟩ | ⟨x, l, c', zs, hcs, _, hl, hm, hz, _, hcell, hwz⟩
  · simp at hcs
    subst hcs
    exact ⟨[], ⟨none, 0, rfl, Nat.le_refl _, Nat.zero_le _, fun i hi => by simp at hi⟩, by simp⟩
  · simp at hcs
    subst hcs
    have hz' : zs.length = c' := by simpa using hz
    have hlen : (zs.take l).length = l := by simp; omega
    refine ⟨zs.take l, ?_, fun x hx => ?_⟩
    · rw [hlen]
      exact Sl_of hl hm fun i hi => by rw [hcell i (by omega), gi_take hi]; rfl
    · have := hwz x (List.mem_of_mem_take hx)
      simp [Lit.wf, IntKind.min, IntKind.max, IntKind.signed, IntKind.bits] at this
      omega
theorem strs_trod {fuel : Nat} {v : Value} {x : DataW H × List MemPlace} (h : DataW.trod enc Try.prog W 0 (fun _ => true) true fuel 22 [v] = some x) :
    ∃ ss : List ByteArray, SStr W v ss ∧ ∀ x ∈ ss, x.size ≤ maxLen := by
  rcases open_strings Try.underlying22 Try.underlying9 (by kernel_rfl) h with ⟨hcs, _⟩ | ⟨x, l, c', zs, hcs, _, hl, hm, hz, _, hcell, hwz⟩
  · simp at hcs
    subst hcs
    exact ⟨[], ⟨none, 0, rfl, Nat.le_refl _, Nat.zero_le _, fun i hi => by simp at hi⟩, by simp⟩
  · simp at hcs
    subst hcs
    have hz' : zs.length = c' := by simpa using hz
    have hlen : (zs.take l).length = l := by simp; omega
    refine ⟨zs.take l, ?_, fun x hx => hwz x (List.mem_of_mem_take hx)⟩
    show Sl _ _ _ _
    rw [hlen]
    exact Sl_of hl hm fun i hi => by rw [hcell i (by omega)]; simp [si, List.getElem?_take, hi]
theorem parts_trod {fuel : Nat} {v : Value} {x : DataW H × List MemPlace} (h : DataW.trod enc Try.prog W 0 (fun _ => true) true fuel 27 [v] = some x) : ∃ ps : List PartD, SP W v ps := by
  obtain ⟨v', m, C, hcs, ⟨a, cap, rfl, h1, h2, h3⟩, hC⟩ := open_rows Try.underlying27 leaves_part (by kernel_rfl) (by decide) h
  simp at hcs
  subst hcs
  have hs : ∀ i, i < m → ∀ j, partLs[j]? = some 9 → ∃ s, C i j = .string s := fun i hi j hj => by
    obtain ⟨q, y, hq⟩ := hC i hi j _ hj; obtain ⟨s, e, _⟩ := str_trod Try.underlying9 hq; exact ⟨s, e⟩
  have hn : ∀ i, i < m → ∀ j, partLs[j]? = some 3 → ∃ s, C i j = .int .i64 s := fun i hi j hj => by
    obtain ⟨q, y, hq⟩ := hC i hi j _ hj; obtain ⟨s, e, _⟩ := int_trod Try.underlying3 hq; exact ⟨s, e⟩
  have hsl : ∀ i, i < m → ∀ j t e, Try.prog.underlying t = some (.slice e) → partLs[j]? = some t → ∃ a n c, C i j = .slice a n c := fun i hi j t e ht hj => by
    obtain ⟨q, y, hq⟩ := hC i hi j _ hj; exact slice_trod ht hq
  let P : Nat → PartD := fun i => ⟨match C i 0 with | .string s => s | _ => .empty, match C i 8 with | .string s => s | _ => .empty, match C i 4 with | .string s => s | _ => .empty, match C i 2 with | .int .i64 n => n | _ => 0, match C i 9 with | .int .i64 n => n | _ => 0, C i⟩
  have hP : ∀ i, i < m → (P i).arr.all (·.oneCell') = true ∧ ∀ j, j < 18 → (P i).cell j = C i j := by
    intro i hi
    obtain ⟨s0, e0⟩ := hs i hi 0 rfl
    obtain ⟨n1, e1⟩ := hn i hi 1 rfl
    obtain ⟨n2, e2⟩ := hn i hi 2 rfl
    obtain ⟨s3, e3⟩ := hs i hi 3 rfl
    obtain ⟨s4, e4⟩ := hs i hi 4 rfl
    obtain ⟨n5, e5⟩ := hn i hi 5 rfl
    obtain ⟨a6, b6, c6, e6⟩ := hsl i hi 6 _ _ Try.underlying49 rfl
    obtain ⟨a7, b7, c7, e7⟩ := hsl i hi 7 _ _ Try.underlying50 rfl
    obtain ⟨s8, e8⟩ := hs i hi 8 rfl
    obtain ⟨n9, e9⟩ := hn i hi 9 rfl
    obtain ⟨n10, e10⟩ := hn i hi 10 rfl
    obtain ⟨n11, e11⟩ := hn i hi 11 rfl
    obtain ⟨n12, e12⟩ := hn i hi 12 rfl
    obtain ⟨n13, e13⟩ := hn i hi 13 rfl
    obtain ⟨n14, e14⟩ := hn i hi 14 rfl
    obtain ⟨n15, e15⟩ := hn i hi 15 rfl
    obtain ⟨n16, e16⟩ := hn i hi 16 rfl
    obtain ⟨n17, e17⟩ := hn i hi 17 rfl
    constructor
    · simp [P, PartD.arr, e1, e3, e5, e6, e7, e10, e11, e12, e13, e14, e15, e16, e17, Value.oneCell']
    · intro j hj
      have : j = 0 ∨ j = 1 ∨ j = 2 ∨ j = 3 ∨ j = 4 ∨ j = 5 ∨ j = 6 ∨ j = 7 ∨ j = 8 ∨ j = 9 ∨ j = 10 ∨ j = 11 ∨ j = 12 ∨ j = 13 ∨ j = 14 ∨ j = 15 ∨ j = 16 ∨ j = 17 := by omega
      rcases this with rfl | rfl | rfl | rfl | rfl | rfl | rfl | rfl | rfl | rfl | rfl | rfl | rfl | rfl | rfl | rfl | rfl | rfl <;> simp [P, PartD.cell, e0, e2, e4, e8, e9]
  refine ⟨(List.range m).map P, a, cap, by simp, by simpa using h1, h2, fun i hi => ?_⟩
  have hi' : i < m := by simpa using hi
  have ep : pi ((List.range m).map P) i = P i := by simp [pi, hi']
  rw [ep]
  obtain ⟨b, off, ha, hc⟩ := h3 i hi'
  exact ⟨(hP i hi').1, b, off, ha, fun j hj => by rw [(hP i hi').2 j hj]; exact hc j hj⟩

theorem plan_arg {r : Reach} {b0 : Nat} {v : Value} {d : DataW H} {p : List MemPlace} (hv : Value.okWide Try.prog W r b0 47 v) (h : DataW.Trod enc Try.prog W 0 (fun _ => true) true 47 v d p) :
    ∃ (u vw : Value) (l us : List Int) (s k : Int), v = .agg #[u, .int .i64 s, .int .i64 k, vw] ∧ SI W u l ∧ Sl W vw us.length (fun i => .int .u8 (gi us i)) ∧ ∀ x ∈ us, 0 ≤ x ∧ x ≤ 255 := by
  obtain ⟨cs, rfl, hsz, hx⟩ := open_leaves Try.underlying47 leaves_plan (by kernel_rfl) hv h
  obtain ⟨u0, m0, y0, c0, t0⟩ := hx 0 _ rfl
  obtain ⟨u1, m1, y1, c1, t1⟩ := hx 1 _ rfl
  obtain ⟨u2, m2, y2, c2, t2⟩ := hx 2 _ rfl
  obtain ⟨u3, m3, y3, c3, t3⟩ := hx 3 _ rfl
  obtain ⟨l, hl, _⟩ := ints_trod t0
  obtain ⟨s, rfl, _⟩ := int_trod Try.underlying3 t1
  obtain ⟨k, rfl, _⟩ := int_trod Try.underlying3 t2
  obtain ⟨us, hu, hu2⟩ := u8s_trod t3
  refine ⟨u0, u3, l, us, s, k, ?_, hl, hu, hu2⟩
  obtain ⟨cl⟩ := cs
  match cl, hsz with
  | [a0, a1, a2, a3], _ =>
    simp at c0 c1 c2 c3
    subst c0 c1 c2 c3
    rfl
theorem cut_arg {r : Reach} {b0 : Nat} {v : Value} {d : DataW H} {p : List MemPlace} (hv : Value.okWide Try.prog W r b0 29 v) (h : DataW.Trod enc Try.prog W 0 (fun _ => true) true 29 v d p) :
    ∃ (u vp : Value) (s : SawD) (b : BarI) (ps : List PartD), v = .agg #[.string s.bar, .int .i64 s.kerf, u, .string b.id, .string b.sec, .string b.grade, .int .i64 b.len, b.heat, vp] ∧ SStr W u s.parts ∧ SP W vp ps ∧ b.len ≤ 9223372036854775807 := by
  obtain ⟨cs, rfl, hsz, hx⟩ := open_leaves Try.underlying29 leaves_cut (by kernel_rfl) hv h
  obtain ⟨u0, m0, y0, c0, t0⟩ := hx 0 _ rfl
  obtain ⟨u1, m1, y1, c1, t1⟩ := hx 1 _ rfl
  obtain ⟨u2, m2, y2, c2, t2⟩ := hx 2 _ rfl
  obtain ⟨u3, m3, y3, c3, t3⟩ := hx 3 _ rfl
  obtain ⟨u4, m4, y4, c4, t4⟩ := hx 4 _ rfl
  obtain ⟨u5, m5, y5, c5, t5⟩ := hx 5 _ rfl
  obtain ⟨u6, m6, y6, c6, t6⟩ := hx 6 _ rfl
  obtain ⟨u7, m7, y7, c7, t7⟩ := hx 7 _ rfl
  obtain ⟨u8, m8, y8, c8, t8⟩ := hx 8 _ rfl
  obtain ⟨bar, rfl, _⟩ := str_trod Try.underlying9 t0
  obtain ⟨kerf, rfl, _⟩ := int_trod Try.underlying3 t1
  obtain ⟨ids, hids, _⟩ := strs_trod t2
  obtain ⟨id, rfl, _⟩ := str_trod Try.underlying9 t3
  obtain ⟨sec, rfl, _⟩ := str_trod Try.underlying9 t4
  obtain ⟨gr, rfl, _⟩ := str_trod Try.underlying9 t5
  obtain ⟨n, rfl, hn⟩ := int_trod Try.underlying3 t6
  obtain ⟨ps, hps⟩ := parts_trod t8
  refine ⟨u2, u8, ⟨bar, kerf, ids⟩, ⟨id, sec, gr, n, u7⟩, ps, ?_, hids, hps, ?_⟩
  · obtain ⟨cl⟩ := cs
    match cl, hsz with
    | [a0, a1, a2, a3, a4, a5, a6, a7, a8], _ =>
      simp at c0 c1 c2 c3 c4 c5 c6 c7 c8
      subst c0 c1 c2 c3 c4 c5 c6 c7 c8
      rfl
  · simp [Lit.wf, IntKind.min, IntKind.max, IntKind.signed, IntKind.bits] at hn
    exact hn.2
end
end Go.Proofs.Ytlgepggmgfnneaa

/- The statement BarsLeast: for every input the law returns true, and each argument reads afterwards as it did. -/
namespace Go.Proofs.Ytlgepggmgfnneaa.barsLeastDone
open Go.ChangeShapes Go.WideShapes Go.ChangeAt Go.RowKit

set_option maxRecDepth 100000 in
theorem lifted (os : Os) (started : os.Started) (H : Type) (enc : TypeId × Value → H) :
    ReturnsInHanded {} Try.checked os 8 .any (Rows.barsLeastSpec.pre6 enc Try.prog Try.f8 Rows.barsLeastRow.domain false) (Rows.barsLeastSpec.post enc Try.prog Try.f8 false true false false) := by
  refine returnsInHanded_of_change (C := Try.checked) own started (by kernel_rfl) Try.func8
    (ChangeSpec.witness6 (enc := enc) (C := Try.checked) false ⟨#[], #[.agg #[.slice none 0 0, .int .i64 0, .int .i64 0, .slice none 0 0]], []⟩ 8 (by kernel_rfl) (by kernel_rfl) (by kernel_rfl) (by kernel_rfl)) ?_
  intro W base args ds gs before hval0 hW _ _
  have hval : ∀ (j : Nat) t v, Try.f8.params[j]? = some t → args[j]? = some v → Value.okWide Try.prog W .any base t v := hval0
  have hW' := hW
  obtain ⟨p, q, hA0, hV, rfl, _, _⟩ := hW
  have hA : DataW.TrodAll enc Try.prog W 0 (fun _ => true) true Try.f8.params.toList args.toList ds p := hA0
  rw [Try.params8] at hA hval
  obtain ⟨v0, vs0, d0, ds0, p0, q0, hargs, rfl, rfl, h0, r0⟩ := trodAll_cons hA
  obtain ⟨rfl, rfl, rfl⟩ := trodAll_nil r0
  obtain rfl : args = #[v0] := by cases args; simp_all
  obtain ⟨rfl, rfl⟩ := trodVars_none hV
  have k0 := h0
  have lt0 : ∀ x ∈ p0, x.block < W.heap.size := by obtain ⟨m, hm⟩ := k0; exact DataW.trod_lt m _ _ _ hm
  obtain ⟨u, vw, l, us, s, k, rfl, f1, f2, f3⟩ := plan_arg (hval 0 47 v0 rfl rfl) h0
  clear hA0 hval0
  refine (least_law _ _ l us s k W f1 f2 f3).mono fun e W' ⟨he, bel⟩ => ?_
  subst he
  exact ⟨_, rfl, _, _, _, [], _, [], hW', trodAll_mk1 (shut_bool Try.underlying4 _), (trodAll_cons_mk (Below.trod laidOut (by kernel_rfl) (of_decide_eq_true (by kernel_rfl)) k0 bel lt0) trodAll_mk0), rfl, bel.frame _, fun h => by cases h⟩

theorem over : Rows.barsLeastRow.holds Try.pinned (OpenSpec.ofChange Rows.barsLeastSpec) :=
  OpenClaim.holds_of_wide 8 Try.f8 rfl rfl rfl rfl rfl rfl rfl ⟨rfl, rfl, rfl, rfl, rfl⟩ rfl rfl rfl rfl rfl (by kernel_rfl) Try.func8 (by kernel_rfl)
    (of_decide_eq_true (by kernel_rfl)) (by unfold Func.isWrapper; first | (rw [if_pos (by decide +kernel)]; kernel_rfl) | (rw [if_neg (by decide +kernel)]; exact ⟨rfl, rfl⟩))
    (fun os started H enc _ => lifted os started H enc)

/-- THE STATEMENT -/
theorem proved : Rows.BarsLeastSaid := over
end Go.Proofs.Ytlgepggmgfnneaa.barsLeastDone
