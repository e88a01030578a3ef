/- The statement BarsSaws: for every input the law returns true, and each argument reads afterwards as it did. -/
import Derived.Test.YtlgepggmgfnneaaRowSpec
import Derived.Test.YtlgepggmgfnneaaBarLB
import Derived.Test.YtlgepggmgfnneaaBarW
import Derived.Test.YtlgepggmgfnneaaBarG
import Derived.Test.YtlgepggmgfnneaaApp
import Derived.Laws.Rows
import Derived.Laws.Tables
import Derived.StillTailTactics
import Derived.Deep.RegionHeld3
import Derived.Test.YtlgepggmgfnneaaBase
import Derived.Test.YtlgepggmgfnneaaRows
import Derived.ProofKit
import Derived.OpenShut
import Derived.ChangeOld
import Derived.Below
import Derived.Deep.Matrix

/- First fit makes a right plan; least numbers of bars of lists that are turned round, or shorter; in plain Lean. -/
namespace Go.Proofs.Ytlgepggmgfnneaa

theorem ordG_nodup (l : List Int) : (ordG l).Nodup := by
  have : ∀ k, k ≤ l.length → (selB (befG l) l.length k).Nodup ∧ ∀ x ∈ selB (befG l) l.length k, 0 ≤ x ∧ x < l.length := by
    intro k
    induction k with
    | zero => intro _; exact ⟨by simp [selB], fun x hx => by simp [selB] at hx⟩
    | succ k ih =>
      intro hk
      obtain ⟨h1, h2⟩ := ih (by omega)
      rw [selB]
      rcases nextB_spec (bef_G l) (selB (befG l) l.length k) l.length with ⟨_, h3⟩ | ⟨h3, h4, h5, _⟩
      · exfalso
        have := List.Nodup.length_le_of_subset (range_nodup l.length) (l₂ := selB (befG l) l.length k) (fun x hx => by
          rw [List.mem_map] at hx
          obtain ⟨j, hj, rfl⟩ := hx
          exact h3 j (List.mem_range.1 hj))
        rw [selB_length] at this
        simp at this
        omega
      · refine ⟨?_, fun x hx => ?_⟩
        · rw [List.nodup_append]
          exact ⟨h1, by simp, fun a ha b hb e => by simp at hb; subst hb; subst e; exact h5 ha⟩
        · rw [List.mem_append, List.mem_singleton] at hx
          rcases hx with hx | rfl
          · exact h2 x hx
          · exact ⟨h3, h4⟩
  exact (this l.length (Nat.le_refl _)).1

theorem flatten_set {rs : List (List Int)} {t : Nat} {x : Int} (h : t < rs.length) : (rs.set t (ri rs t ++ [x])).flatten.Perm (rs.flatten ++ [x]) := by
  have e : rs = rs.take t ++ (ri rs t :: rs.drop (t + 1)) := by rw [ri_lt h, ← List.drop_eq_getElem_cons h, List.take_append_drop]
  have e2 : rs.set t (ri rs t ++ [x]) = rs.take t ++ ((ri rs t ++ [x]) :: rs.drop (t + 1)) := by
    rw [List.set_eq_take_append_cons_drop, if_pos h]
  rw [e2]
  conv => rhs; rw [e]
  simp only [List.flatten_append, List.flatten_cons, List.append_assoc]
  refine List.Perm.append_left _ (List.Perm.append_left _ ?_)
  exact List.perm_append_comm

def sumR (l : List Int) (k : Int) (row : List Int) : Int := (row.map fun x => glI l x + k).sum
theorem sumR_app (l k row x) : sumR l k (row ++ [x]) = sumR l k row + (glI l x + k) := by simp [sumR]
structure GI (l : List Int) (s k : Int) (n : Nat) (st : Bars) : Prop where
  perm : st.1.flatten.Perm ((ordG l).take n)
  len : st.2.length = st.1.length
  free : ∀ i, i < st.1.length → gi st.2 i = s + k - sumR l k (ri st.1 i)
  ne : ∀ i, i < st.1.length → ri st.1 i ≠ []
theorem gi_plan {l : List Int} {s k : Int} : ∀ n, n ≤ l.length → GI l s k n (planG l s k n) := by
  intro n
  induction n with
  | zero => intro _; exact ⟨by simp [planG], rfl, fun i hi => by simp [planG] at hi, fun i hi => by simp [planG] at hi⟩
  | succ n ih =>
    intro hn
    have h := ih (by omega)
    have hts : (ordG l).take (n + 1) = (ordG l).take n ++ [gi (ordG l) n] := take_succ_gi (by rw [ordG_length]; omega)
    rw [planG_succ]
    generalize planG l s k n = st at h ⊢
    obtain ⟨rs, fr⟩ := st
    obtain ⟨h1, h2, h3, h4⟩ := h
    try dsimp only at h1 h2 h3 h4
    generalize gi (ordG l) n = x at *
    rcases findI_cases (fun m => decide (glI l x + k ≤ m)) fr with ⟨hx, _⟩ | ⟨t, hx, ht, _, _⟩
    · rw [stepG_new (st := (rs, fr)) (by show findI _ fr < 0; rw [hx]; omega)]
      refine ⟨?_, by simp [h2], fun i hi => ?_, fun i hi => ?_⟩
      · rw [hts, List.flatten_append]
        simpa using h1.append_right [x]
      · dsimp only at hi ⊢
        rw [List.length_append, List.length_singleton] at hi
        by_cases e : i < rs.length
        · rw [gi_append_left (by omega), ri_append_left e]; exact h3 i e
        · obtain rfl : i = rs.length := by omega
          rw [ri_append_one]
          have : gi (fr ++ [s + k - (glI l x + k)]) rs.length = s + k - (glI l x + k) := by rw [← h2, gi_append_one]
          rw [this]; simp [sumR]
      · dsimp only at hi ⊢
        rw [List.length_append, List.length_singleton] at hi
        by_cases e : i < rs.length
        · rw [ri_append_left e]; exact h4 i e
        · obtain rfl : i = rs.length := by omega
          rw [ri_append_one]; simp
    · rw [stepG_old (st := (rs, fr)) (t := t) hx]
      have htr : t < rs.length := by omega
      refine ⟨?_, by simp [h2], fun i hi => ?_, fun i hi => ?_⟩
      · rw [hts]
        exact (flatten_set htr).trans (h1.append_right [x])
      · dsimp only at hi ⊢
        rw [List.length_set] at hi
        rw [gi_setB ht, ri_setR htr]
        by_cases e : i = t
        · subst e
          simp only [if_true]
          rw [sumR_app, h3 i hi]; omega
        · rw [if_neg e, if_neg e]; exact h3 i hi
      · dsimp only at hi ⊢
        rw [List.length_set] at hi
        rw [ri_setR htr]
        split
        · simp
        · exact h4 i hi
theorem greedy_right {l : List Int} {s k : Int} (h : GoodB l s k) : RightP (planG l s k l.length).1 l s k := by
  have g := gi_plan (l := l) (s := s) (k := k) l.length (Nat.le_refl _)
  have f := fit_plan h l.length (Nat.le_refl _)
  have hp := g.perm
  rw [List.take_of_length_le (by rw [ordG_length]; exact Nat.le_refl _)] at hp
  refine ⟨fun row hrow => ?_, fun x hx => ?_, ?_, ?_⟩
  · obtain ⟨i, hi, rfl⟩ := mem_ri hrow
    have a := g.free i hi
    have b := f.free i (by rw [g.len]; exact hi)
    refine ⟨g.ne i hi, ?_⟩
    show sumR l k _ - k ≤ s
    omega
  · exact ordG_mem (hp.mem_iff.1 hx)
  · exact hp.nodup_iff.2 (ordG_nodup l)
  · rw [hp.length_eq, ordG_length]
theorem greedy_least {l : List Int} {s k : Int} (h : GoodB l s k) : leastV l s k ≤ (planG l s k l.length).1.length := right_least h (greedy_right h)

/-! lists turned round, and shorter -/
theorem load_append {xs ys : List Int} {ls ms : List Nat} (h : ls.length = xs.length) (b : Nat) : load (xs ++ ys) (ls ++ ms) b = load xs ls b + load ys ms b := by
  induction xs generalizing ls with
  | nil => have : ls = [] := List.eq_nil_of_length_eq_zero (by simpa using h)
           subst this; simp [load_nil]
  | cons x xs ih =>
    cases ls with
    | nil => simp at h
    | cons q ls =>
      rw [List.cons_append, List.cons_append, load_cons, load_cons, ih (by simpa using h)]; omega
theorem load_reverse {xs : List Int} {ls : List Nat} (h : ls.length = xs.length) (b : Nat) : load xs.reverse ls.reverse b = load xs ls b := by
  induction xs generalizing ls with
  | nil => have : ls = [] := List.eq_nil_of_length_eq_zero (by simpa using h)
           subst this; rfl
  | cons x xs ih =>
    cases ls with
    | nil => simp at h
    | cons q ls =>
      have hl : ls.length = xs.length := by simpa using h
      rw [List.reverse_cons, List.reverse_cons, load_append (by simpa using hl), ih hl, load_cons, load_cons, load_nil]; omega
theorem packs_reverse {c : Int} {nd : List Int} {m : Nat} (h : Packs c nd m) : Packs c nd.reverse m := by
  obtain ⟨ls, h1, h2, h3⟩ := h
  exact ⟨ls.reverse, by simp [h1], fun q hq => h2 q (by simpa using hq), fun b => by rw [load_reverse h1]; exact h3 b⟩
theorem packs_tail {c x : Int} {nd : List Int} {m : Nat} (hx : 0 ≤ x) (h : Packs c (x :: nd) m) : Packs c nd m := by
  obtain ⟨ls, h1, h2, h3⟩ := h
  cases ls with
  | nil => simp at h1
  | cons q ls =>
    refine ⟨ls, by simpa using h1, fun r hr => h2 r (by simp [hr]), fun b => ?_⟩
    have := h3 b
    rw [load_cons] at this
    split at this <;> omega
theorem packs_cons {c x : Int} {nd : List Int} {m : Nat} (hx : x ≤ c) (h : Packs c nd m) : Packs c (x :: nd) (m + 1) := by
  obtain ⟨ls, h1, h2, h3⟩ := h
  refine ⟨m :: ls, by simp [h1], fun r hr => ?_, fun b => ?_⟩
  · rcases List.mem_cons.1 hr with rfl | hr
    · omega
    · have := h2 r hr; omega
  · rw [load_cons]
    by_cases e : m = b
    · subst e
      rw [load_out (fun hm => by have := h2 m hm; omega)]; simp; exact hx
    · rw [if_neg e]; have := h3 b; omega
theorem ndL_reverse (l k) : ndL l.reverse k = (ndL l k).reverse := by simp [ndL]
theorem rightE_reverse (l : List Int) (s k : Int) : rightE l.reverse s k = rightE l s k := by
  have e1 : allB l.reverse = allB l := by unfold allB; rw [List.any_reverse]
  unfold rightE
  rw [List.length_reverse, e1, List.any_reverse]
theorem good_reverse {l : List Int} {s k : Int} (h : GoodB l s k) : GoodB l.reverse s k := rightE_zero.1 (by rw [rightE_reverse]; exact rightE_zero.2 h)
theorem least_reverse {l : List Int} {s k : Int} (h : GoodB l s k) : leastV l.reverse s k = leastV l s k := by
  have a := bestS_packs (good_need h)
  have b := bestS_packs (good_need (good_reverse h))
  have a' := packs_reverse a
  have b' := packs_reverse b
  rw [← ndL_reverse] at a'
  rw [← ndL_reverse, List.reverse_reverse] at b'
  exact Nat.le_antisymm (bestS_least (good_need (good_reverse h)) a') (bestS_least (good_need h) b')
theorem good_tail {x : Int} {l : List Int} {s k : Int} (h : GoodB (x :: l) s k) : GoodB l s k := ⟨by have := h.len; simp at this; omega, fun y hy => h.side y (by simp [hy]), h.stock, h.kerf⟩
theorem least_tail {x : Int} {l : List Int} {s k : Int} (h : GoodB (x :: l) s k) : leastV l s k ≤ leastV (x :: l) s k ∧ leastV (x :: l) s k ≤ leastV l s k + 1 := by
  have e : ndL (x :: l) k = (x + k) :: ndL l k := rfl
  have hx := (good_need h).nn (x + k) (by rw [e]; simp)
  have a := bestS_packs (good_need h)
  have b := bestS_packs (good_need (good_tail h))
  constructor
  · refine bestS_least (good_need (good_tail h)) ?_
    have := a
    rw [e] at this
    exact packs_tail hx.1 this
  · refine bestS_least (good_need h) ?_
    rw [e]
    exact packs_cons hx.2 b
end Go.Proofs.Ytlgepggmgfnneaa

/- The laws BarsRight, BarsOrder. -/
namespace Go.Proofs.Ytlgepggmgfnneaa
open Go.RowKit

theorem SS.slice {w : World} {v : Value} {rs : List (List Int)} (h : SS w v rs) : ∃ a c, v = .slice a rs.length c ∧ rs.length ≤ c := by
  obtain ⟨vs, ⟨a, c, e, h1, _⟩, _⟩ := h; exact ⟨a, c, e, h1⟩
theorem best9 {l : List Int} {s k : Int} (h : l.length ≤ 9) : bestE l s k = rightE l s k := by unfold bestE; rw [if_neg (by omega)]

set_option maxRecDepth 100000 in
set_option maxHeartbeats 4000000 in
theorem right_law (v : Value) (l : List Int) (s k : Int) (w : World) (h : SI w v l) : Calls Try.prog 7 #[v, .int .i64 s, .int .i64 k] w (Law w) := by
  have H := Lib.hid h
  obtain ⟨a, cap, rfl, h1, h2, h3⟩ := h
  clear h3
  have hm : l.length ≤ 9223372036854775807 := by unfold maxLen at h2; omega
  by_cases hl : 9 < l.length
  · have hlb : decide ((9 : Int) < l.length) = true := by rw [decide_eq_true_eq]; omega
    go_enter Try.func7, Try.ntmps7
    go_wp2_with fail
    refine (awake_any _).mono ?_
    rintro e w2 ⟨rfl, hb⟩
    go_wp2_with fail
    go_ret
    exact ⟨rfl, hb⟩
  have hlb : decide ((9 : Int) < l.length) = false := by rw [decide_eq_false_iff_not]; omega
  have HB9 := Lib.hid (best9 (s := s) (k := k) (by omega : l.length ≤ 9))
  go_enter Try.func7, Try.ntmps7
  go_wp2_with fail
  refine (Greedy_any _ l s k _ H.out).mono ?_
  rintro e w1 ⟨r1, rfl, hs, hb⟩
  have HB1 := Lib.hid hb
  have HS1 := Lib.hid hs
  clear hb hs
  go_wp2_with fail
  refine (Best_any _ l s k _ (H.out.keep HB1.out)).mono ?_
  rintro e w2 ⟨r2, rfl, hs, hb⟩
  have HB2 := Lib.hid (ext_trans HB1.out hb)
  have HS2 := Lib.hid (HS1.out.keep hb)
  have HT2 := Lib.hid hs
  clear hb hs
  rw [HB9.out]
  by_cases hr : rightE l s k = 0
  · have HG := Lib.hid (rightE_zero.1 hr)
    have e1 : (rightE l s k != 0) = false := by rw [hr]; rfl
    have HGR : Hid (RightP (greedyL l s k) l s k) := by show RightP _ _ _ _; rw [greedyL_good hr]; exact greedy_right HG.out
    have HBR : Hid (RightP (bestL l s k) l s k) := by show RightP _ _ _ _; rw [bestL_good (by rw [HB9.out]; exact hr)]; exact best_right HG.out
    rw [hr]
    clear hr
    go_wp2_with fail
    refine (lright_any _ _ _ l s k _ HS2.out (H.out.keep HB2.out) HG.out).mono ?_
    rintro e w3 ⟨⟨b, rfl, hiff⟩, hb⟩
    have hbt : b = true := hiff.2 HGR.out
    subst hbt
    have HB3 := Lib.hid (ext_trans HB2.out hb)
    have HT3 := Lib.hid (HT2.out.keep hb)
    clear hb hiff
    go_wp2_with fail
    refine (lright_any _ _ _ l s k _ HT3.out (H.out.keep HB3.out) HG.out).mono ?_
    rintro e w4 ⟨⟨b, rfl, hiff⟩, hb⟩
    have hbt : b = true := hiff.2 HBR.out
    subst hbt
    have HB4 := Lib.hid (ext_trans HB3.out hb)
    clear hb hiff
    go_wp2_with fail
    refine (awake_any _).mono ?_
    rintro e w5 ⟨rfl, hb⟩
    go_wp2_with fail
    go_ret
    exact law_of rfl HB4.out hb
  · have e1 : (rightE l s k != 0) = true := by simpa using hr
    have e2 : (rightE l s k == rightE l s k) = true := by rw [beq_iff_eq]
    obtain ⟨a1, c1, e3, _⟩ := HS2.out.slice
    obtain ⟨a2, c2, e4, _⟩ := HT2.out.slice
    rw [greedyL_bad hr] at e3
    rw [bestL_bad (by rw [HB9.out]; exact hr)] at e4
    subst e3 e4
    clear hr
    go_wp2_with fail
    refine (awake_any _).mono ?_
    rintro e w5 ⟨rfl, hb⟩
    go_wp2_with fail
    go_ret
    exact law_of rfl HB2.out hb
end Go.Proofs.Ytlgepggmgfnneaa

/- The bars of a plan as cutting plans; in plain Lean. -/
namespace Go.Proofs.Ytlgepggmgfnneaa

def nameN : Nat → ByteArray
  | 0 => ⟨#[80, 48]⟩
  | 1 => ⟨#[80, 49]⟩
  | 2 => ⟨#[80, 50]⟩
  | 3 => ⟨#[80, 51]⟩
  | 4 => ⟨#[80, 52]⟩
  | 5 => ⟨#[80, 53]⟩
  | 6 => ⟨#[80, 54]⟩
  | 7 => ⟨#[80, 55]⟩
  | _ => ⟨#[80, 56]⟩
theorem nameN_inj {i j : Nat} (hi : i < 9) (hj : j < 9) (h : ((nameN i).toList == (nameN j).toList) = true) : i = j := by
  have : ∀ i : Fin 9, ∀ j : Fin 9, ((nameN i).toList == (nameN j).toList) = true → i = j := by decide +kernel
  have := this ⟨i, hi⟩ ⟨j, hj⟩ h
  simpa using this
theorem bytes_self (b : ByteArray) : (b.toList == b.toList) = true := by simp
theorem nameN_self (i : Nat) : ((nameN i).toList == (nameN i).toList) = true := by simp
def sawRest : Nat → Value
  | 3 => .string ⟨#[]⟩
  | 6 => .slice none 0 0
  | 7 => .slice none 0 0
  | _ => .int .i64 0
def sawPt (n : Nat) (x : Int) : PartD := ⟨nameN n, ⟨#[83]⟩, ⟨#[65]⟩, 3, x, sawRest⟩
def sawPts (l : List Int) (t : Nat) : List PartD := (List.range t).map fun i => sawPt i (gi l i)
theorem sawPts_length (l t) : (sawPts l t).length = t := by simp [sawPts]
theorem sawPts_at {l : List Int} {t i : Nat} (h : i < t) : pi (sawPts l t) i = sawPt i (gi l i) := by simp [pi, sawPts, h]
theorem sawPts_succ (l t) : sawPts l (t + 1) = sawPts l t ++ [sawPt t (gi l t)] := by simp [sawPts, List.range_succ]
def sawIds (row : List Int) : List ByteArray := row.map fun x => nameN x.toNat
def sawS (k : Int) (row : List Int) : SawD := ⟨⟨#[88]⟩, k, sawIds row⟩
def sawB (s : Int) : BarI := ⟨⟨#[88]⟩, ⟨#[83]⟩, ⟨#[65]⟩, s, .string ⟨#[]⟩⟩
theorem saw_sec (n : Nat) (x s : Int) : ¬ ((sawPt n x).sec.toList == (sawB s).sec.toList) = false := by
  show ¬ ((⟨#[83]⟩ : ByteArray).toList == (⟨#[83]⟩ : ByteArray).toList) = false
  rw [bytes_self]; simp
theorem saw_grade (n : Nat) (x s : Int) : ¬ ((sawPt n x).grade.toList == (sawB s).grade.toList) = false := by
  show ¬ ((⟨#[65]⟩ : ByteArray).toList == (⟨#[65]⟩ : ByteArray).toList) = false
  rw [bytes_self]; simp
theorem idx_saw {l : List Int} {n : Nat} (h9 : l.length ≤ 9) (hn : n < l.length) : idxOf (sawPts l l.length) (nameN n) = n := by
  refine findPt_hit _ _ n (by rw [sawPts_length]; exact hn) (fun j hj => ?_) ?_
  · rw [sawPts_at (by omega)]
    show ((nameN j).toList == (nameN n).toList) = false
    cases h : (nameN j).toList == (nameN n).toList
    · rfl
    · have := nameN_inj (by omega) (by omega) h; omega
  · rw [sawPts_at hn]; exact nameN_self n
theorem part_saw {l : List Int} {n : Nat} (h9 : l.length ≤ 9) (hn : n < l.length) : partOf (sawPts l l.length) (nameN n) = sawPt n (gi l n) := by
  unfold partOf
  rw [idx_saw h9 hn]
  show pi _ n = _
  exact sawPts_at hn
theorem si_saw {row : List Int} {i : Nat} (h : i < row.length) : si (sawIds row) i = nameN (gi row i).toNat := by
  rw [si_lt (by simpa [sawIds] using h), gi_lt h]; simp [sawIds]
theorem needs_used (l : List Int) (k : Int) (row : List Int) : needs (row.map fun x => glI l x) k = usedOf l k row := by
  unfold needs usedOf
  have : ∀ row : List Int, (row.map fun x => glI l x + k).sum = (row.map fun x => glI l x).sum + row.length * k := by
    intro row
    induction row with
    | nil => simp
    | cons x row ih => rw [List.map_cons, List.sum_cons, ih, List.map_cons, List.sum_cons, List.length_cons, Int.natCast_add, Int.add_mul]; simp; omega
  rw [this, List.length_map, Int.sub_mul]; omega
theorem saw_ok {l row : List Int} {s k : Int} (hg : GoodB l s k) (h9 : l.length ≤ 9) (hr : ∀ x ∈ row, 0 ≤ x ∧ x < l.length) (hnd : row.Nodup) (hne : row ≠ []) (hu : usedOf l k row ≤ s) :
    chkE (sawS k row) (sawB s) (sawPts l l.length) = 0 ∧ offV (sawS k row) (sawB s) (sawPts l l.length) = max 0 (s - usedOf l k row - k) := by
  have hlen : row.length ≤ 9 := by have := nodup_boundI hnd hr; omega
  have hpos : 0 < row.length := by cases row with | nil => exact absurd rfl hne | cons x r => simp
  have hids : (sawIds row).length = row.length := by simp [sawIds]
  have hx : ∀ j, j < row.length → ∃ n : Nat, gi row j = n ∧ n < l.length ∧ si (sawIds row) j = nameN n := fun j hj => by
    have := hr _ (gi_mem hj)
    exact ⟨(gi row j).toNat, by omega, by omega, si_saw hj⟩
  have hp : ∀ j, j < row.length → pieceE (sawB s) (sawPts l l.length) (sawIds row) j = 0 := fun j hj => by
    obtain ⟨n, e1, h2, e3⟩ := hx j hj
    have hd : dupB (sawIds row) j = false := by
      unfold dupB
      rw [List.any_eq_false]
      intro y hy hc
      obtain ⟨t, ht, rfl⟩ := mem_si hy
      have htj : t < j := by simp [hids] at ht; omega
      have et : si ((sawIds row).take j) t = si (sawIds row) t := by simp [si, List.getElem?_take, htj]
      obtain ⟨n', e1', h2', e3'⟩ := hx t (by omega)
      rw [et, e3, e3'] at hc
      have := nameN_inj (by omega) (by omega) hc
      subst this
      have e := e1.trans e1'.symm
      rw [gi_lt hj, gi_lt (by omega : t < row.length)] at e
      have := List.pairwise_iff_getElem.1 (List.nodup_iff_pairwise_ne.1 hnd) t j (by omega) hj htj
      exact this e.symm
    have hix : idxOf (sawPts l l.length) (si (sawIds row) j) = n := by rw [e3]; exact idx_saw h9 h2
    have hpt : partOf (sawPts l l.length) (si (sawIds row) j) = sawPt n (gi l n) := by rw [e3]; exact part_saw h9 h2
    rw [pieceE_len (by rw [hix]; omega) hd (by rw [hpt]; intro h; exact h.2 rfl) (by rw [hpt]; intro h; rcases h with h | h; exact saw_sec n _ s h; exact saw_grade n _ s h), hpt]
    have := hg.side _ (gi_mem h2)
    rw [if_neg]
    show ¬ sideB (gi l n) = false
    rw [sideB_iff.2 ⟨this.1, this.2.1⟩]; simp
  have hlens : lensOf (sawPts l l.length) (sawIds row) = row.map fun x => glI l x := by
    unfold lensOf sawIds
    rw [List.map_map]
    apply List.map_congr_left
    intro x hxr
    have := hr x hxr
    show (partOf _ (nameN x.toNat)).len = glI l x
    rw [part_saw h9 (by omega)]; rfl
  have hk := hg.kerf
  have hpe : piecesE (sawS k row) (sawB s) (sawPts l l.length) = 0 := by
    rw [piecesE_rest (by show ((⟨#[88]⟩ : ByteArray).toList == (⟨#[88]⟩ : ByteArray).toList) = true; simp) (sawnB_iff.2 hk) (by show ¬ (sawIds row).length = 0; omega) (by show ¬ 24 < (sawIds row).length; omega)]
    exact firstE_none fun j hj => hp j (by have : j < (sawIds row).length := hj; omega)
  have hall : allB (lensOf (sawPts l l.length) (sawIds row)) = true := (piecesE_zero hpe).2.2.2.1
  have hnv : needV (lensOf (sawPts l l.length) (sawIds row)) k = usedOf l k row := by
    have := (needs_nn (l := lensOf (sawPts l l.length) (sawIds row)) (k := k) (by rw [hlens, List.length_map]; exact hpos) (by rw [hlens, List.length_map]; omega) hall (sawnB_iff.2 hk)).1
    rw [this, hlens, needs_used]
  have hc : chkE (sawS k row) (sawB s) (sawPts l l.length) = 0 := by
    rw [chkE_ok hpe]
    show (if s < needV (lensOf (sawPts l l.length) (sawIds row)) k then (18 : Int) else 0) = 0
    rw [hnv, if_neg (by omega)]
  refine ⟨hc, ?_⟩
  unfold offV
  rw [if_neg (by simp [hc])]
  show max 0 (s - needV (lensOf (sawPts l l.length) (sawIds row)) k - k) = _
  rw [hnv]
end Go.Proofs.Ytlgepggmgfnneaa

/- Slices of elements of whatever type that a call owns: the builtin append, reading back; strings. -/
namespace Go.Proofs.Ytlgepggmgfnneaa
open Go.RowKit

/-- the builtin append onto a row that the call owns -/
theorem wp_app_gen {o : Oper} {a : Act} {K : Act → World → Prop} {Q : Exit → Act → World → Prop} {w : World} (s x : Operand) (t e : TypeId)
    (ho : o.op = .call { callee := .builtin .append, args := #[s, x], argTypes := #[t, t] }) (i : TypeInfo) (z : Value) (size bytes : Nat) (ht : Try.prog.underlying t = some (.slice e)) (hi : Try.prog.info? e = some i) (hz : i.zero = some z)
    (hsize : i.size = size) (hby : i.bytes = bytes) (hzs : z.cells.size = size) (hsz : 0 < size)
    (B : Nat) (v : Value) (n : Nat) (xs : List Value) (hs : a.eval s = v) (hown : w.ownsRow B e size v n xs)
    (ad : Addr) (m c : Nat) (hx : a.eval x = .slice (some ad) m c) (news : List Value) (hl : news.length = m * size) (hnews : ∀ j u, news[j]? = some u → w.cell? (ad.add j) = some u) (h1 : ∀ u ∈ news, u.oneCell' = true)
    (h63 : n + m ≤ maxLen) (hbytes : (n + m) * bytes ≤ 140737488355328) (hb : B ≤ w.heap.size)
    (h : ∀ v' w', w'.ownsRow B e size v' (n + m) (xs ++ news) → w.grownBy w' v.ownBlock → (v'.ownBlock = v.ownBlock ∨ v'.ownBlock = some w.heap.size) → K (a.put o.dst v') w') : o.wp Try.prog a w K Q := by
  obtain ⟨v', w', hr, h2, h3, _, h4⟩ := run_append_own_at (P := Try.prog) w B t o.type e i z size bytes ht hi hz hsize hby hzs hsz v n xs hown ad m c news hl hnews h1 h63 hbytes hb
  unfold Oper.wp execOp
  simp only [ho, resolve, invoke, builtin, Sem.run_bind, Sem.run_pure, Result.andThen_ok, List.map_toArray, List.map_cons, List.map_nil, hs, hx, hr]
  exact h v' w' h2 h3 h4

/-! rows of elements of some cells each -/
theorem flat_len {T : Type} (f : T → List Value) {n : Nat} (hf : ∀ x, (f x).length = n) (xs : List T) : (xs.flatMap f).length = xs.length * n := by
  induction xs with
  | nil => simp
  | cons x xs ih => rw [List.flatMap_cons, List.length_append, ih, hf, List.length_cons, Nat.add_mul]; omega
theorem flat_get {T : Type} (f : T → List Value) {n : Nat} (hf : ∀ x, (f x).length = n) : ∀ (xs : List T) (i j : Nat) (h : i < xs.length), j < n → (xs.flatMap f)[i * n + j]? = (f xs[i])[j]? := by
  intro xs
  induction xs with
  | nil => intro i j h; simp at h
  | cons x xs ih =>
    intro i j h hj
    rw [List.flatMap_cons]
    cases i with
    | zero => rw [List.getElem?_append_left (by rw [hf]; omega)]; simp
    | succ i =>
      have hi : i < xs.length := by simpa using h
      have he : (i + 1) * n + j = (f x).length + (i * n + j) := by rw [hf, Nat.add_mul]; omega
      rw [he, List.getElem?_append_right (by omega), Nat.add_sub_cancel_left, ih i j hi hj]; simp
theorem own_flat_form {T : Type} {f : T → List Value} {sz : Nat} {w : World} {B : Nat} {e : TypeId} {v : Value} {xs : List T} (h : w.ownsRow B e sz v xs.length (xs.flatMap f)) :
    (v = .slice none 0 0 ∧ xs = []) ∨ ∃ g cap, v = .slice (some ⟨g, 0, none⟩) xs.length cap ∧ B ≤ g ∧ g < w.heap.size ∧ xs.length ≤ cap ∧ cap ≤ maxLen ∧ ∀ j, j < xs.length * sz → w.cell? ⟨g, j, none⟩ = (xs.flatMap f)[j]? := by
  have h0 := h
  rcases h.2 with ⟨rfl, hn⟩ | ⟨g, cap, cur, rfl, hb, hg, hn, hm, hs, ht⟩
  · exact .inl ⟨rfl, List.eq_nil_of_length_eq_zero hn⟩
  · exact .inr ⟨g, cap, rfl, hb, lt_of_block hg, hn, hm, fun j hj => h0.cellAt j hj⟩

/-! strings -/
def zi (ss : List ByteArray) (k : Nat) : ByteArray := ss.getD k .empty
theorem Try_infoStr : (Try.prog.info? 9).map (fun i => (i.zero, i.size, i.bytes)) = some (some (.string ⟨#[]⟩), 1, 16) := by kernel_rfl
def OwnZ (w : World) (B : Nat) (v : Value) (ss : List ByteArray) : Prop := w.ownsRow B 9 1 v ss.length (ss.map Value.string)
theorem OwnZ_nil (w : World) (B : Nat) : OwnZ w B (.slice none 0 0) [] := World.ownsRow_nil _ _ _ _
theorem OwnZ.below {w w' : World} {B : Nat} {v : Value} {r : List ByteArray} (h : OwnZ w B v r) (hb : Below w.heap.size w w') : OwnZ w' B v r := owns_below h hb
theorem OwnZ.lt {w : World} {B : Nat} {v : Value} {r : List ByteArray} (h : OwnZ w B v r) (k : Nat) (hk : v.ownBlock = some k) : B ≤ k ∧ k < w.heap.size := World.ownsRow.lt h k hk
theorem OwnZ.sl {w : World} {B : Nat} {v : Value} {ss : List ByteArray} (h : OwnZ w B v ss) : Sl w v ss.length fun i => .string (zi ss i) := by
  obtain ⟨a, cap, rfl, h1, h2, h3⟩ := Sl_of_owns h
  refine ⟨a, cap, rfl, h1, h2, fun i hi => ?_⟩
  obtain ⟨b, off, ha, hc⟩ := h3 i hi
  refine ⟨b, off, ha, ?_⟩
  rw [hc]
  simp [zi, hi]
/-- one string more -/
theorem wp_app_str {o : Oper} {a : Act} {K : Act → World → Prop} {Q : Exit → Act → World → Prop} {w : World} (s x : Operand)
    (ho : o.op = .call { callee := .builtin .append, args := #[s, x], argTypes := #[22, 22] }) (B : Nat) (v : Value) (ss : List ByteArray) (hs : a.eval s = v) (hown : OwnZ w B v ss)
    (g c : Nat) (y : ByteArray) (hx : a.eval x = .slice (some ⟨g, 0, none⟩) 1 c) (hy : w.cell? ⟨g, 0, none⟩ = some (.string y)) (hlen : ss.length ≤ 1000000) (hb : B ≤ w.heap.size)
    (h : ∀ v' w', OwnZ w' B v' (ss ++ [y]) → w.grownBy w' v.ownBlock → (v'.ownBlock = v.ownBlock ∨ v'.ownBlock = some w.heap.size) → K (a.put o.dst v') w') : o.wp Try.prog a w K Q := by
  obtain ⟨i, hi, hz0, hz1, hz2⟩ := info_parts Try_infoStr
  refine wp_app_gen s x 22 9 ho i (.string ⟨#[]⟩) 1 16 Try.underlying22 hi hz0 hz1 hz2 rfl (by decide) B v ss.length (ss.map Value.string) hs hown ⟨g, 0, none⟩ 1 c hx [.string y] rfl (fun j u hj => ?_) (fun u hu => ?_) (by unfold maxLen; omega) (by omega) hb fun v' w' h1 h2 h3 => h v' w' ?_ h2 h3
  · match j, hj with
    | 0, hj => simp at hj; subst hj; simpa [Addr.add] using hy
  · simp at hu; subst hu; rfl
  · unfold OwnZ
    rw [List.length_append, List.map_append]
    exact h1
end Go.Proofs.Ytlgepggmgfnneaa

/- The law BarsSaws. -/
namespace Go.Proofs.Ytlgepggmgfnneaa
open Go.RowKit

theorem Try_infoPart : (Try.prog.info? 58).map (fun i => (i.zero, i.size, i.bytes)) = some (some zeroPart.agg, 18, 208) := by kernel_rfl
def pcells (p : PartD) : List Value := p.arr.toList
def OwnP (w : World) (B : Nat) (v : Value) (ps : List PartD) : Prop := w.ownsRow B 58 18 v ps.length (ps.flatMap pcells)
theorem OwnP_nil (w : World) (B : Nat) : OwnP w B (.slice none 0 0) [] := World.ownsRow_nil _ _ _ _
theorem OwnP.below {w w' : World} {B : Nat} {v : Value} {r : List PartD} (h : OwnP w B v r) (hb : Below w.heap.size w w') : OwnP w' B v r := owns_below h hb
theorem OwnP.sp {w : World} {B : Nat} {v : Value} {ps : List PartD} (h : OwnP w B v ps) (h1 : ∀ p ∈ ps, p.arr.all (·.oneCell') = true) : SP w v ps := by
  rcases own_flat_form h with ⟨rfl, rfl⟩ | ⟨g, cap, rfl, _, _, hn, hm, hc⟩
  · exact ⟨none, 0, rfl, Nat.le_refl _, Nat.zero_le _, fun i hi => by simp at hi⟩
  · refine ⟨_, cap, rfl, hn, hm, fun i hi => ⟨h1 _ (pi_mem hi), g, 0, rfl, fun j hj => ?_⟩⟩
    rw [Nat.zero_add, hc _ (by have := Nat.mul_le_mul_right 18 hi; rw [Nat.succ_mul] at this; omega), flat_get pcells (fun _ => rfl) ps i j hi hj, pi_lt hi]
    unfold pcells
    rw [Array.getElem?_toList]
    exact arr_get _ hj
theorem step_app_part {ops : Array Oper} {o : Oper} {a : Act} {K : Act → World → Prop} {Q : Exit → Act → World → Prop} {w : World} {E : Prop} (hw : Region.wanted o (yielded ops a.tmps) = true) (s x : Operand)
    (ho : o.op = .call { callee := .builtin .append, args := #[s, x], argTypes := #[27, 27] }) (B : Nat) (v : Value) (ps : List PartD) (hs : a.eval s = v) (hown : OwnP w B v ps)
    (g : Nat) (p : PartD) (hx : a.eval x = .slice (some ⟨g, 0, none⟩) 1 1) (hy : ∀ j, j < 18 → w.cell? ⟨g, j, none⟩ = some (p.cell j)) (h1 : p.arr.all (·.oneCell') = true) (hlen : ps.length ≤ 1000) (hb : B ≤ w.heap.size)
    (h : ∀ v' w', OwnP w' B v' (ps ++ [p]) → w.grownBy w' v.ownBlock → (v'.ownBlock = v.ownBlock ∨ v'.ownBlock = some w.heap.size) → K (a.put o.dst v') w') : if Region.wanted o (yielded ops a.tmps) = true then Oper.wp Try.prog o a w K Q else E := by
    rw [if_pos hw]
    obtain ⟨i, hi, hz0, hz1, hz2⟩ := info_parts Try_infoPart
    refine wp_app_gen s x 27 58 ho i zeroPart.agg 18 208 Try.underlying27 hi hz0 hz1 hz2 rfl (by decide) B v ps.length (ps.flatMap pcells) hs hown ⟨g, 0, none⟩ 1 1 hx (pcells p) rfl (fun j u hj => ?_) (fun u hu => ?_) (by unfold maxLen; omega) (by omega) hb fun v' w' a1 a2 a3 => h v' w' ?_ a2 a3
    · obtain ⟨hj2, rfl⟩ := p.arr_at j u hj
      have hadd : (⟨g, 0, none⟩ : Addr).add j = ⟨g, j, none⟩ := by unfold Addr.add; simp; exact fun h => h.symm
      rw [hadd]; exact hy j hj2
    · unfold pcells at hu
      rw [Array.all_eq_true_iff_forall_mem] at h1
      exact h1 u (by simpa using hu)
    · unfold OwnP
      rw [List.length_append, List.flatMap_append, List.flatMap_cons, List.flatMap_nil, List.append_nil]
      exact a1
theorem OwnP_drew {w : World} {B : Nat} {v : Value} {r : List PartD} (h : OwnP w B v r) : OwnP w.drew B v r := h
theorem OwnP_alloc {w : World} {B : Nat} {v : Value} {r : List PartD} (h : OwnP w B v r) (o : Obj) : OwnP (w.alloc o) B v r := World.ownsRow.alloc h o
theorem lit_part (w : World) (p : PartD) (j : Nat) (hj : j < 18) : (w.alloc (.cells p.arr 58)).cell? ⟨w.heap.size, j, none⟩ = some (p.cell j) := by
  have : (w.alloc (.cells p.arr 58)).cell? ⟨w.heap.size, j, none⟩ = p.arr[j]? := by simp
  rw [this]; exact arr_get p hj
theorem saw_one (n : Nat) (x : Int) : (sawPt n x).arr.all (·.oneCell') = true := by simp [PartD.arr, sawPt, sawRest, Value.oneCell']
theorem saw_all (l : List Int) (t : Nat) : ∀ p ∈ sawPts l t, p.arr.all (·.oneCell') = true := fun p hp => by
  simp only [sawPts, List.mem_map] at hp
  obtain ⟨i, _, rfl⟩ := hp
  exact saw_one _ _

/-- the cutting plan that is being made -/
structure RepS (w : World) (X : Nat) (k : Int) (pv : Value) (ss : List ByteArray) : Prop where
  blk : w.heap[X]? = some (.cells #[.string ⟨#[88]⟩, .int .i64 k, pv] 24 (0, 0))
  own : OwnZ w (X + 1) pv ss
section
variable {w w' : World} {X : Nat} {k : Int} {pv : Value} {ss : List ByteArray}
theorem RepS.lt (h : RepS w X k pv ss) : X + 1 ≤ w.heap.size := lt_of_block h.blk
theorem RepS.below (h : RepS w X k pv ss) (hb : Below w.heap.size w w') : RepS w' X k pv ss := ⟨by rw [hb.block X (lt_of_block h.blk)]; exact h.blk, h.own.below hb⟩
theorem RepS.drew (h : RepS w X k pv ss) : RepS w.drew X k pv ss := ⟨h.blk, h.own⟩
theorem RepS.alloc (h : RepS w X k pv ss) (o : Obj) : RepS (w.alloc o) X k pv ss := h.below ((Below.refl _ _).alloc (Nat.le_refl _) _)
theorem RepS.c0 (h : RepS w X k pv ss) : w.cell? ⟨X, 0, none⟩ = some (.string ⟨#[88]⟩) := by simp [World.cell?, h.blk]
theorem RepS.c1 (h : RepS w X k pv ss) : w.cell? ⟨X, 1, none⟩ = some (.int .i64 k) := by simp [World.cell?, h.blk]
theorem RepS.c2 (h : RepS w X k pv ss) : w.cell? ⟨X, 2, none⟩ = some pv := by simp [World.cell?, h.blk]
theorem RepS.fz (h : RepS w X k pv ss) (i : Nat) : w.frozen? ⟨X, i, none⟩ = false := by simp [World.frozen?, h.blk]
theorem RepS.grownBlk (h : RepS w X k pv ss) (hg : w.grownBy w' pv.ownBlock) : w'.heap[X]? = some (.cells #[.string ⟨#[88]⟩, .int .i64 k, pv] 24 (0, 0)) := by
  rw [hg.block X (lt_of_block h.blk) (fun e => by have := (h.own.lt X e.symm).1; omega)]; exact h.blk
theorem RepS.after (h : RepS w X k pv ss) (hg : w.grownBy w' pv.ownBlock) : w'.cell? ⟨X, 2, none⟩ = some pv ∧ w'.frozen? ⟨X, 2, none⟩ = false :=
  ⟨by simp [World.cell?, h.grownBlk hg], by simp [World.frozen?, h.grownBlk hg]⟩
theorem RepS.push (h : RepS w X k pv ss) {pv' : Value} {ss' : List ByteArray} (hg : w.grownBy w' pv.ownBlock) (ho : OwnZ w' (X + 1) pv' ss') : RepS (w'.setCell ⟨X, 2, none⟩ pv') X k pv' ss' := by
  refine ⟨?_, ?_⟩
  · have := h.grownBlk hg
    simp [World.setCell, Array.getElem?_modify, this]
  · have ho' : w'.ownsRow (X + 1) 9 1 pv' ss'.length (ss'.map Value.string) := ho
    refine World.ownsRow.kept ho' (row := some X) ⟨rfl, rfl, rfl, by simp [World.setCell], fun j hj hn => Below.heap_setCell _ _ _ _ (fun e => hn (by simp [e]))⟩ ?_
    cases e : pv'.ownBlock with
    | none => exact .inl rfl
    | some g => exact .inr (fun e2 => by simp at e2; have := (ho'.lt g e).1; omega)
end
theorem step_app_str {ops : Array Oper} {o : Oper} {a : Act} {K : Act → World → Prop} {Q : Exit → Act → World → Prop} {w : World} {E : Prop} (hw : Region.wanted o (yielded ops a.tmps) = true) (s x : Operand)
    (ho : o.op = .call { callee := .builtin .append, args := #[s, x], argTypes := #[22, 22] }) (B : Nat) (v : Value) (ss : List ByteArray) (hs : a.eval s = v) (hown : OwnZ w B v ss)
    (g c : Nat) (y : ByteArray) (hx : a.eval x = .slice (some ⟨g, 0, none⟩) 1 c) (hy : w.cell? ⟨g, 0, none⟩ = some (.string y)) (hlen : ss.length ≤ 1000000) (hb : B ≤ w.heap.size)
    (h : ∀ g' cp w', OwnZ w' B (.slice (some ⟨g', 0, none⟩) (ss.length + 1) cp) (ss ++ [y]) → w.grownBy w' v.ownBlock → (some g' = v.ownBlock ∨ g' = w.heap.size) → K (a.put o.dst (.slice (some ⟨g', 0, none⟩) (ss.length + 1) cp)) w') : if Region.wanted o (yielded ops a.tmps) = true then Oper.wp Try.prog o a w K Q else E := by
  rw [if_pos hw]
  refine wp_app_str s x ho B v ss hs hown g c y hx hy hlen hb fun v' w' h1 h2 h3 => ?_
  have h1' : w'.ownsRow B 9 1 v' (ss ++ [y]).length ((ss ++ [y]).map Value.string) := h1
  rcases h1'.2 with ⟨rfl, hn⟩ | ⟨g', cap, cur, rfl, _⟩
  · simp at hn
  · rw [List.length_append, List.length_singleton] at h3 ⊢
    have e1 : OwnZ w' B (.slice (some ⟨g', 0, none⟩) (ss.length + 1) cap) (ss ++ [y]) := by rw [List.length_append, List.length_singleton] at h1; exact h1
    refine h g' cap w' e1 h2 ?_
    rcases h3 with e | e
    · exact .inl e
    · simp [Value.ownBlock] at e; exact .inr e
theorem lit_str (w : World) (y : ByteArray) : (w.alloc (.cells #[.string y] 9)).cell? ⟨w.heap.size, 0, none⟩ = some (.string y) := by simp
theorem OwnZ_drew {w : World} {B : Nat} {v : Value} {r : List ByteArray} (h : OwnZ w B v r) : OwnZ w.drew B v r := h
theorem OwnZ_alloc {w : World} {B : Nat} {v : Value} {r : List ByteArray} (h : OwnZ w B v r) (o : Obj) : OwnZ (w.alloc o) B v r := World.ownsRow.alloc h o

set_option maxRecDepth 100000 in
set_option maxHeartbeats 4000000 in
theorem saws_law (v : Value) (l : List Int) (s k : Int) (w : World) (h : SI w v l) : Calls Try.prog 10 #[v, .int .i64 s, .int .i64 k] w (Law w) := by
  have H := Lib.hid h
  obtain ⟨a, cap, rfl, h1, h2, h3⟩ := h
  have H3 := Lib.hid h3
  clear h3
  have hm : l.length ≤ 9223372036854775807 := by unfold maxLen at h2; omega
  by_cases hl : 9 < l.length
  · have hlb : decide ((9 : Int) < l.length) = true := by rw [decide_eq_true_eq]; omega
    go_enter Try.func10, Try.ntmps10
    go_wp2_with fail
    refine (awake_any _).mono ?_
    rintro e w2 ⟨rfl, hb⟩
    go_wp2_with fail
    go_ret
    exact ⟨rfl, hb⟩
  have hlb : decide ((9 : Int) < l.length) = false := by rw [decide_eq_false_iff_not]; omega
  have h9 : l.length ≤ 9 := by omega
  have HB9 := Lib.hid (best9 (s := s) (k := k) h9)
  go_enter Try.func10, Try.ntmps10
  go_wp2_with fail
  refine (Best_any _ l s k _ H.out).mono ?_
  rintro e w1 ⟨r1, rfl, hs, hb⟩
  have HB1 := Lib.hid hb
  have HS1 := Lib.hid hs
  rw [HB9.out]
  clear hb hs
  by_cases hr : rightE l s k = 0
  rotate_left
  · have e1 : (rightE l s k != 0) = true := by simpa using hr
    clear hr
    go_wp2_with fail
    refine (awake_any _).mono ?_
    rintro e w5 ⟨rfl, hb⟩
    go_wp2_with fail
    go_ret
    exact law_of rfl HB1.out hb
  have HG := Lib.hid (rightE_zero.1 hr)
  have e1 : (rightE l s k != 0) = false := by rw [hr]; rfl
  have HR := Lib.hid (best_right HG.out)
  rw [bestL_good (by rw [HB9.out]; exact hr)] at HS1
  rw [hr]
  clear hr
  have HNM : Hid (∀ i, i < 9 → (w1.alloc (.cells #[.string ⟨#[80, 48]⟩, .string ⟨#[80, 49]⟩, .string ⟨#[80, 50]⟩, .string ⟨#[80, 51]⟩, .string ⟨#[80, 52]⟩, .string ⟨#[80, 53]⟩, .string ⟨#[80, 54]⟩, .string ⟨#[80, 55]⟩, .string ⟨#[80, 56]⟩] 9)).cell? ⟨w1.heap.size, i, none⟩ = some (.string (nameN i))) := fun i hi => by
    have : i = 0 ∨ i = 1 ∨ i = 2 ∨ i = 3 ∨ i = 4 ∨ i = 5 ∨ i = 6 ∨ i = 7 ∨ i = 8 := by omega
    rcases this with rfl | rfl | rfl | rfl | rfl | rfl | rfl | rfl | rfl <;> simp [nameN]
  have HBN := Lib.hid (below_alloc (Below.refl w1.heap.size w1) (.cells #[.string ⟨#[80, 48]⟩, .string ⟨#[80, 49]⟩, .string ⟨#[80, 50]⟩, .string ⟨#[80, 51]⟩, .string ⟨#[80, 52]⟩, .string ⟨#[80, 53]⟩, .string ⟨#[80, 54]⟩, .string ⟨#[80, 55]⟩, .string ⟨#[80, 56]⟩] 9))
  go_wp2_with fail
  generalize w1.alloc (.cells #[.string ⟨#[80, 48]⟩, .string ⟨#[80, 49]⟩, .string ⟨#[80, 50]⟩, .string ⟨#[80, 51]⟩, .string ⟨#[80, 52]⟩, .string ⟨#[80, 53]⟩, .string ⟨#[80, 54]⟩, .string ⟨#[80, 55]⟩, .string ⟨#[80, 56]⟩] 9) = wn at *
  have HBW := Lib.hid (ext_trans HB1.out HBN.out)
  have HSN := Lib.hid (HS1.out.keep HBN.out)
  go_loopw [10, 11] (fun t i wr => ∃ n : Nat, n ≤ l.length ∧ i = .int .i64 n ∧ Hid (Below wn.heap.size wn wr) ∧ Hid (OwnP wr wn.heap.size t (sawPts l n))) (fun _ i _ => l.length - (intOf i).toNat)
  case atStart => exact ⟨0, Nat.zero_le _, rfl, Below.refl _ _, OwnP_nil _ _⟩
  case round =>
    obtain ⟨n, hn, rfl, hbw, how⟩ := hrel
    by_cases hlt : n < l.length
    · obtain ⟨b, off, ha, hc⟩ := H3.out n hlt
      have hc00 := hc
      have hc := cell_keep hbw.out (cell_keep HBW.out hc)
      have hcn := cell_keep hbw.out (HNM.out n (by omega))
      try dsimp only at hc
      rw [ha]
      have HSC := Lib.hid (sawPts_succ l n)
      have hn9 : (n : Int) < 9 := by omega
      have hnl : (n : Int) < (l.length : Int) := by omega
      have hnc : (n : Int) < (cap : Int) := by omega
      have hn0 : (0 : Int) ≤ (n : Int) := by omega
      have hc0 := cell_keep HBW.out hc00
      have hn0 := HNM.out n (by omega)
      have hcd := cell_drew' hc
      have hnd := cell_drew' hcn
      have hsb := hbw.out.size
      have hB0 : Below wn.heap.size wn wr := hbw.out
      have HOWN := how.out
      have hrl' : ∀ q, u10.ownBlock = some q → wn.heap.size ≤ q := fun q hq => (World.ownsRow.lt how.out q hq).1
      try dsimp only at hc0
      obtain ⟨x, hx⟩ : ∃ x, gi l n = x := ⟨_, rfl⟩
      rw [hx] at hc hcd HSC hc0
      clear hx hc00 how hbw
      go_wp2_with fail
      go_region_held3 (fun w' => w'.cell? ⟨w1.heap.size, n, none⟩ = some (.string (nameN n)) ∧ w'.cell? ⟨b, off + n, none⟩ = some (.int .i64 x))
        (first | exact ⟨hnd, hcd⟩ | exact ⟨cell_alloc' hcn _, cell_alloc' hc _⟩ | exact ⟨cell_alloc' hnd _, cell_alloc' hcd _⟩ | exact ⟨cell_keep hbC hn0, cell_keep hbC hc0⟩)
        (first
          | (refine step_app_part ?_ (.tmp 39) (.tmp 49) rfl wn.heap.size u10 (sawPts l n) rfl ?_ wr.heap.size (sawPt n x) rfl ?_ ?_ ?_ ?_ ?_; rfl; (with_reducible repeat (first | exact HOWN | refine OwnP_drew ?_ | refine OwnP_alloc ?_ _)); (first | exact fun j hj => lit_part wr (sawPt n x) j hj | exact fun j hj => lit_part wr.drew (sawPt n x) j hj); exact saw_one n x; (rw [sawPts_length]; omega); (simp; omega); intro tC wC hoC hgC hatC; have hbC : Below wn.heap.size wn wC := (by first | (with_reducible exact (hB0.drew.alloc hsb _).grown hgC (by simp; omega) hrl') | (with_reducible exact ((hB0.alloc hsb _).drew).grown hgC (by simp; omega) hrl') | (with_reducible exact ((hB0.alloc hsb _)).grown hgC (by simp; omega) hrl'))))
      all_goals
        have HBC := Lib.hid hbC
        have HOC := Lib.hid hoC
        clear hbC hoC hgC hatC hnd hcd hc hcn hc0 hn0 HOWN hrl' hB0
        go_wp2_with fail
        go_roundw
        case rel => exact ⟨n + 1, by omega, by go_num, HBC, by rw [HSC.out]; exact HOC⟩
        case measure => simp [intOf]; omega
    · obtain rfl : n = l.length := by omega
      have HPS := Lib.hid (how.out.sp (saw_all l l.length))
      have HB2 := Lib.hid (ext_trans HBW.out hbw.out)
      have HS2 := Lib.hid (HSN.out.keep hbw.out)
      have HN2 : Hid (∀ i, i < 9 → wr.cell? ⟨w1.heap.size, i, none⟩ = some (.string (nameN i))) := fun i hi => cell_keep hbw.out (HNM.out i hi)
      have HL2 := Lib.hid (H.out.keep HB2.out)
      clear hbw how
      obtain ⟨vs, ⟨ar, cr, er, n1, n2, R3⟩, R4⟩ := HS2.out
      have HR3 := Lib.hid R3
      have HR4 := Lib.hid R4
      have hbl := bestP_length l s k
      have hll := least_len l s k
      rw [hbl] at er n1
      rw [hbl] at HR3 HR4
      obtain ⟨M, hM⟩ : ∃ M, leastV l s k = M := ⟨_, rfl⟩
      rw [hM] at er n1 hll HR3 HR4 hbl
      have hM64 : M ≤ 9223372036854775807 := by omega
      have HBL := Lib.hid hbl
      subst er
      clear R3 R4 hM hbl HS2 HS1 HSN
      go_wp2_with fail
      obtain ⟨wp, rfl⟩ : ∃ w' : World, w' = wr := ⟨_, rfl⟩
      go_loopg [12, 13, 14, 15, 16, 17] M (fun g i _ _ _ _ _ wx => ∃ j : Nat, j ≤ M ∧ i = .int .i64 j ∧ g = M - j ∧ Hid (Below wp.heap.size wp wx))
      case atStart => exact ⟨0, Nat.zero_le _, rfl, by omega, Below.refl _ _⟩
      case round =>
        obtain ⟨wx, rfl⟩ : ∃ w' : World, w' = wr := ⟨_, rfl⟩
        obtain ⟨j, hj, rfl, rfl, hbx⟩ := hrel
        by_cases hjm : j < M
        · obtain ⟨br, orr, har, hcr⟩ := HR3.out j hjm
          obtain ⟨aj, cj, ej, k1, k2, hrow⟩ := HR4.out j hjm
          rw [ej] at hcr
          have hcr := cell_keep hbx.out hcr
          subst har
          have hjl : j < (bestP l s k).length := by rw [HBL.out]; exact hjm
          have hrr := HR.out.rows _ (ri_mem hjl)
          have hrng : ∀ x ∈ ri (bestP l s k) j, 0 ≤ x ∧ x < l.length := fun x hx => HR.out.rng x (List.mem_flatten.2 ⟨_, ri_mem hjl, hx⟩)
          have hrnd : (ri (bestP l s k) j).Nodup := List.nodup_iff_pairwise_ne.2 ((List.pairwise_flatten.1 (List.nodup_iff_pairwise_ne.1 HR.out.nd)).1 _ (ri_mem hjl))
          have HOK := Lib.hid (saw_ok HG.out h9 hrng hrnd hrr.1 hrr.2)
          have hrl : (ri (bestP l s k) j).length ≤ 9 := by have := nodup_boundI hrnd hrng; omega
          have HROW := Lib.hid (fun q (hq : q < (ri (bestP l s k) j).length) => hrow q hq)
          have HRNG := Lib.hid hrng
          obtain ⟨row, hrw⟩ : ∃ row, ri (bestP l s k) j = row := ⟨_, rfl⟩
          rw [hrw] at HOK HROW HRNG hrl hcr k1
          have hq64 : row.length ≤ 9223372036854775807 := by omega
          have hjM : (j : Int) < (M : Int) := by omega
          have hjc : (j : Int) < (cr : Int) := by omega
          have hgs := HG.out.stock
          have hgk := HG.out.kerf
          have HREP : Hid (RepS (wx.alloc (.cells #[.string ⟨#[88]⟩, .int .i64 k, .slice none 0 0] 24)) wx.heap.size k (.slice none 0 0) (sawIds (row.take 0))) := ⟨(by show (wx.heap.push _)[wx.heap.size]? = _; rw [Array.getElem?_push_size]), OwnZ_nil _ _⟩
          have HBA : Hid (Below wx.heap.size wx (wx.alloc (.cells #[.string ⟨#[88]⟩, .int .i64 k, .slice none 0 0] 24))) := (Below.refl _ _).alloc (Nat.le_refl _) _
          have hu0 : s - usedOf l k (row.take 0) - k = s := by simp [usedOf]
          have HU0 := Lib.hid hu0
          clear ej hrow hjl hrr hrng hrnd hrw hu0
          go_wp2_with fail
          go_loopg [14, 15] row.length (fun g u p wy => ∃ q : Nat, q ≤ row.length ∧ p = .int .i64 q ∧ g = row.length - q ∧ u = .int .i64 (s - usedOf l k (row.take q) - k) ∧ Hid (Below wx.heap.size wx wy) ∧ Hid (∃ pv, RepS wy wx.heap.size k pv (sawIds (row.take q))))
          case atStart => exact ⟨0, Nat.zero_le _, rfl, by omega, by rw [HU0.out], HBA.out, _, HREP.out⟩
          case round =>
            obtain ⟨wy, rfl⟩ : ∃ w' : World, w' = wr := ⟨_, rfl⟩
            obtain ⟨q, hq, rfl, rfl, rfl, hby, hrep⟩ := hrel
            obtain ⟨pv, hrep⟩ := hrep.out
            have hcr0 := hcr
            have hcr := cell_keep hby.out hcr
            by_cases hql : q < row.length
            · obtain ⟨bq, oq, haq, hcq⟩ := HROW.out q hql
              have hcq0 := cell_keep hbx.out hcq
              have hcq := cell_keep hby.out hcq0
              try dsimp only at hcq0
              try dsimp only at hcq
              subst haq
              have hx := HRNG.out _ (gi_mem hql)
              obtain ⟨x, hxx⟩ : ∃ x : Nat, gi row q = (x : Int) := ⟨(gi row q).toNat, by omega⟩
              rw [hxx] at hcq hx hcq0
              have hxl : x < l.length := by omega
              obtain ⟨b, off, ha, hc⟩ := H3.out x hxl
              have hc0 := cell_keep hbx.out (cell_keep HB2.out hc)
              have hc := cell_keep hby.out hc0
              subst ha
              have hcn := cell_keep hby.out (cell_keep hbx.out (HN2.out x (by omega)))
              try dsimp only at hc
              try dsimp only at hc0
              have hgl := HG.out.side _ (gi_mem hxl)
              have hus := used_succ (l := l) (k := k) hql
              rw [hxx] at hus
              have hub := used_bound HG.out (row := row.take q) (fun y hy => HRNG.out y (List.mem_of_mem_take hy))
              have hql9 : (row.take q).length ≤ 9 := by simp; omega
              have HIDS : Hid (sawIds (row.take (q + 1)) = sawIds (row.take q) ++ [nameN x]) := by show _ = _; rw [take_succ_gi hql, hxx]; simp [sawIds]
              have hil : (sawIds (row.take q)).length ≤ 9 := by simpa [sawIds] using hql9
              have HGL : glI l (x : Int) = gi l x := by simp [glI]
              rw [HGL] at hus
              have HUS := Lib.hid hus
              obtain ⟨y, hy⟩ : ∃ y, gi l x = y := ⟨_, rfl⟩
              rw [hy] at hc hgl HUS hc0
              obtain ⟨us, huse⟩ : ∃ us, usedOf l k (row.take q) = us := ⟨_, rfl⟩
              rw [huse] at hub HUS ⊢
              clear hxx hy huse hus HGL
              go_wp2_with fail
              have hxI : (x : Int) < 9 := by omega
              have hxL : (x : Int) < (l.length : Int) := by omega
              have hx0 : (0 : Int) ≤ (x : Int) := by omega
              have hW := hrep
              have hsy := hby.out.size
              have hlt1 := hrep.lt
              have c2 := hrep.c2
              have f2 := hrep.fz 2
              go_cut [14, 15] (fun s14 s15 wz => s14 = .int .i64 (s - us - k) ∧ s15 = .int .i64 q ∧ Below wx.heap.size wx wz ∧ ∃ pv', RepS wz wx.heap.size k pv' (sawIds (row.take (q + 1))))
              case first =>
                have c2a := cell_alloc' c2 (.cells #[.string (nameN x)] 9)
                have hown := hrep.own
                go_region_law
                  (first
                    | (refine step_app_str ?_ (.tmp 90) (.tmp 101) rfl (wx.heap.size + 1) pv (sawIds (row.take q)) rfl ?_ wy.heap.size 1 (nameN x) rfl ?_ ?_ ?_ ?_; rfl; (first | exact OwnZ_alloc hown _ | exact OwnZ_drew (OwnZ_alloc hown _)); (first | exact lit_str _ _ | exact lit_str wy.drew _); omega; (simp; omega); intro gC cpC wC hoC hgC hatC; obtain ⟨cC, fC⟩ := RepS.after (by with_reducible first | exact hW.alloc _ | exact hW.drew.alloc _ | exact (hW.alloc _).drew) hgC))
                all_goals
                  have HP := RepS.push (by with_reducible first | exact hW.alloc _ | exact hW.drew.alloc _ | exact (hW.alloc _).drew) hgC hoC
                  have hbC : Below wx.heap.size wx wC := (by first | (with_reducible exact (hby.out.drew.alloc hsy _).grown hgC (by simp; omega) (fun g hg => by have := hown.lt g hg; omega)) | (with_reducible exact ((hby.out.alloc hsy _).drew).grown hgC (by simp; omega) (fun g hg => by have := hown.lt g hg; omega)) | (with_reducible exact (hby.out.alloc hsy _).grown hgC (by simp; omega) (fun g hg => by have := hown.lt g hg; omega)))
                  clear hoC hgC hatC cC fC c2a hown hW c2 f2
                  go_wp2_with fail
                  go_meet
                  rw [← HIDS.out] at HP
                  exact ⟨rfl, rfl, hbC.setCell (Nat.le_refl _) _, _, HP⟩
              case rest =>
                obtain ⟨rfl, rfl, hbz, pv', hrz⟩ := hcut
                have HBZ := Lib.hid hbz
                have HRZ := Lib.hid hrz
                clear hbz hrz hW c2 f2 hrep
                have hcr := cell_keep HBZ.out hcr0
                have hcq := cell_keep HBZ.out hcq0
                have hc := cell_keep HBZ.out hc0
                have e1 : IntKind.i64.wrap (s - us - k - y) = s - us - k - y := IntWalk.i64_in _ (by omega)
                have e2 : IntKind.i64.wrap (s - us - k - y - k) = s - us - k - y - k := IntWalk.i64_in _ (by omega)
                go_wp2_with fail
                go_roundg (row.length - (q + 1))
                case measure => omega
                case rel => exact ⟨q + 1, by omega, by go_num, rfl, by rw [HUS.out]; congr 1; omega, HBZ.out, _, HRZ.out⟩
            · obtain rfl : q = row.length := by omega
              rw [List.take_length] at hrep ⊢
              have HOWN := Lib.hid hrep.own.sl
              have HBY := Lib.hid (ext_trans hbx.out hby.out)
              have c0 := hrep.c0
              have c1 := hrep.c1
              have c2 := hrep.c2
              have HRP := Lib.hid (HPS.out.keep HBY.out)
              have HSA : Hid ((sawS k row).agg pv = .agg #[.string ⟨#[88]⟩, .int .i64 k, pv]) := rfl
              have HSB : Hid ((sawB s).agg = .agg #[.string ⟨#[88]⟩, .string ⟨#[83]⟩, .string ⟨#[65]⟩, .int .i64 s, .string ⟨#[]⟩]) := rfl
              clear hrep
              have e1 : (chkE (sawS k row) (sawB s) (sawPts l l.length) != 0) = false := by rw [HOK.out.1]; rfl
              have e2 : IntKind.i64.wrap (s - usedOf l k row - k) = s - usedOf l k row - k := by
                have := used_bound HG.out (row := row) HRNG.out
                exact IntWalk.i64_in _ (by omega)
              go_wp2_with fail
              rw [← HSA.out, ← HSB.out]
              refine (Offcut_any pv u10 (sawS k row) (sawB s) (sawPts l l.length) _ HOWN.out HRP.out (by show s ≤ _; omega)).mono ?_
              rintro e wq ⟨rfl, hb⟩
              have HBQ := Lib.hid (ext_trans HBY.out hb)
              rw [HOK.out.1, HOK.out.2]
              clear hb e1
              obtain ⟨u, hu⟩ : ∃ u, s - usedOf l k row - k = u := ⟨_, rfl⟩
              rw [hu]
              clear hu e2
              by_cases hu0 : u < 0
              · have e3 : max 0 u = 0 := by omega
                have e4 : max u 0 = 0 := by omega
                rw [e3]
                go_wp2_with fail
                go_roundg (M - (j + 1))
                case measure => omega
                case rel => exact ⟨j + 1, by omega, by go_num, rfl, HBQ⟩
              · have e3 : max 0 u = u := by omega
                have e4 : max u 0 = u := by omega
                rw [e3]
                go_wp2_with fail
                go_roundg (M - (j + 1))
                case measure => omega
                case rel => exact ⟨j + 1, by omega, by go_num, rfl, HBQ⟩
        · go_wp2_with fail
          refine (awake_any _).mono ?_
          rintro e w5 ⟨rfl, hb⟩
          go_wp2_with fail
          go_ret
          exact law_of rfl (HB2.out.trans (hbx.out.mono HB2.out.size)) hb
end Go.Proofs.Ytlgepggmgfnneaa

/- The arguments of a law, opened: slices of integers, rows of integers. -/
namespace Go.Proofs.Ytlgepggmgfnneaa
open Go.ChangeShapes Go.WideShapes Go.ChangeAt Go.RowKit Go.Deep

theorem own : ownKnob Try.prog.godebug = none := by kernel_rfl
theorem laidOut : laidOutB Try.prog = true := by kernel_rfl
theorem cells_ints : Try.prog.cellsOf 36 = 1 := by kernel_rfl
theorem cells_int : Try.prog.cellsOf 3 = 1 := by kernel_rfl

/-- cells from an address on, so that the address is that of a plain cell -/
theorem Sl_of {w : World} {a : Addr} {n cap : Nat} {C : Nat → Value} (h1 : n ≤ cap) (h2 : cap ≤ maxLen) (h : ∀ i, i < n → w.cell? (a.add i) = some (C i)) : Sl w (.slice (some a) n cap) n C := by
  refine ⟨some a, cap, rfl, h1, h2, fun i hi => ?_⟩
  obtain ⟨b, off, spot⟩ := a
  have h0 := h 0 (by omega)
  have hs : spot = none := by simpa [Addr.add] using World.cell?_spot h0
  subst hs
  refine ⟨b, off, rfl, ?_⟩
  have := h i hi
  rwa [show (⟨b, off, none⟩ : Addr).add i = ⟨b, off + i, none⟩ by unfold Addr.add; split <;> simp_all] at this

theorem SI_of {w : World} {a : Addr} {n cap : Nat} {zs : List Int} (h1 : n ≤ cap) (h2 : cap ≤ maxLen) (hz : zs.length = cap) (h : ∀ i, i < cap → w.cell? (a.add i) = some (.int .i64 (zs.getD i 0))) : SI w (.slice (some a) n cap) (zs.take n) := by
  have hl : (zs.take n).length = n := by simp; omega
  unfold SI
  rw [hl]
  exact Sl_of h1 h2 fun i hi => by rw [h i (by omega), gi_take hi]; rfl

variable {H : Type} {enc : TypeId × Value → H} {W : World}

theorem ints_arg {a : Option Addr} {n c : Nat} {d : DataW H} {p : List MemPlace} (h : DataW.Trod enc Try.prog W 0 (fun _ => true) true 36 (.slice a n c) d p) :
    ∃ xs, SI W (.slice a n c) xs ∧ ∀ x ∈ xs, (Lit.int .i64 x).wf = true := by
  obtain ⟨fuel, hf⟩ := h
  rcases open_ints Try.underlying36 Try.underlying3 (by kernel_rfl) hf with ⟨hcs, _⟩ | ⟨x, l, c', zs, hcs, _, hl, hm, hz, _, hcell, hwz⟩
  · simp [Value.cells] at hcs
    obtain ⟨rfl, rfl, rfl⟩ := hcs
    exact ⟨[], SI_nil _, by simp⟩
  · simp [Value.cells] at hcs
    obtain ⟨rfl, rfl, rfl⟩ := hcs
    have hz' : zs.length = c := by simpa using hz
    exact ⟨zs.take n, SI_of hl hm hz' (fun i hi => hcell i (by omega)), fun x hx => hwz x (List.mem_of_mem_take hx)⟩

theorem rows_arg {a : Option Addr} {n c : Nat} {d : DataW H} {p : List MemPlace} (h : DataW.Trod enc Try.prog W 0 (fun _ => true) true 40 (.slice a n c) d p) :
    ∃ rs, SS W (.slice a n c) rs ∧ ∀ r ∈ rs, ∀ x ∈ r, (Lit.int .i64 x).wf = true := by
  obtain ⟨fuel, hf⟩ := h
  rcases open_int_rows Try.underlying40 Try.underlying36 Try.underlying3 cells_ints cells_int hf with ⟨hcs, _⟩ | ⟨x, l, c', A, L, C, Z, hcs, _, hl, hm, _, hx⟩
  · simp [Value.cells] at hcs
    obtain ⟨rfl, rfl, rfl⟩ := hcs
    exact ⟨[], SS_nil _, by simp⟩
  · simp [Value.cells] at hcs
    obtain ⟨rfl, rfl, rfl⟩ := hcs
    have hlen : ((List.range n).map fun r => (Z r).take (L r)).length = n := by simp
    refine ⟨(List.range n).map fun r => (Z r).take (L r), ⟨fun r => .slice (A r) (L r) (C r), ?_, fun r hr => ?_⟩, ?_⟩
    · rw [hlen]
      exact Sl_of hl hm fun i hi => (hx i (by omega)).1
    · rw [hlen] at hr
      obtain ⟨_, e1, e2, e3, _, e5, e6⟩ := hx r (by omega)
      have er : ri ((List.range n).map fun r => (Z r).take (L r)) r = (Z r).take (L r) := by simp [ri, hr]
      rw [er]
      show SI W (.slice (A r) (L r) (C r)) _
      cases hA : A r with
      | none =>
        have := e5 hA
        have hL : L r = 0 := by omega
        rw [this, hL, List.take_zero]
        exact SI_nil _
      | some a' => exact SI_of e1 e2 e3 (e6 a' hA).2
    · intro r hr x hx'
      simp only [List.mem_map, List.mem_range] at hr
      obtain ⟨i, hi, rfl⟩ := hr
      exact (hx i (by omega)).2.2.2.2.1 x (List.mem_of_mem_take hx')
end Go.Proofs.Ytlgepggmgfnneaa

/- The statement BarsSaws: for every input the law returns true, and each argument reads afterwards as it did. -/
namespace Go.Proofs.Ytlgepggmgfnneaa.barsSawsDone
open Go.ChangeShapes Go.WideShapes Go.ChangeAt Go.RowKit

set_option maxRecDepth 100000 in
theorem lifted (os : Os) (started : os.Started) (H : Type) (enc : TypeId × Value → H) :
    ReturnsInHanded {} Try.checked os 10 .any (Rows.barsSawsSpec.pre6 enc Try.prog Try.f10 Rows.barsSawsRow.domain false) (Rows.barsSawsSpec.post enc Try.prog Try.f10 false true false false) := by
  refine returnsInHanded_of_change (C := Try.checked) own started (by kernel_rfl) Try.func10
    (ChangeSpec.witness6 (enc := enc) (C := Try.checked) false ⟨#[], #[.slice none 0 0, .int .i64 0, .int .i64 0], []⟩ 8 (by kernel_rfl) (by kernel_rfl) (by kernel_rfl) (by kernel_rfl)) ?_
  intro W base args ds gs before hval0 hW _ _
  have hval : ∀ (j : Nat) t v, Try.f10.params[j]? = some t → args[j]? = some v → Value.okWide Try.prog W .any base t v := hval0
  have hW' := hW
  obtain ⟨p, q, hA0, hV, rfl, _, _⟩ := hW
  have hA : DataW.TrodAll enc Try.prog W 0 (fun _ => true) true Try.f10.params.toList args.toList ds p := hA0
  rw [Try.params10] at hA hval
  obtain ⟨v0, vs0, d0, ds0, p0, q0, hargs, rfl, rfl, h0, r0⟩ := trodAll_cons hA
  obtain ⟨v1, vs1, d1, ds1, p1, q1, rfl, rfl, rfl, h1, r1⟩ := trodAll_cons r0
  obtain ⟨v2, vs2, d2, ds2, p2, q2, rfl, rfl, rfl, h2, r2⟩ := trodAll_cons r1
  obtain ⟨rfl, rfl, rfl⟩ := trodAll_nil r2
  obtain rfl : args = #[v0, v1, v2] := by cases args; simp_all
  obtain ⟨rfl, rfl⟩ := trodVars_none hV
  obtain ⟨a0, len0, cap0, rfl⟩ := okWide_slice Try.underlying36 (hval 0 36 v0 rfl rfl)
  have k0 := h0
  have lt0 : ∀ x ∈ p0, x.block < W.heap.size := by obtain ⟨m, hm⟩ := k0; exact DataW.trod_lt m _ _ _ hm
  obtain ⟨z0, w0, _⟩ := ints_arg k0
  obtain ⟨a1, rfl, rfl, rfl, w1⟩ := open_int Try.underlying3 (hval 1 3 v1 rfl rfl) h1
  obtain ⟨a2, rfl, rfl, rfl, w2⟩ := open_int Try.underlying3 (hval 2 3 v2 rfl rfl) h2
  clear hA0 hval0
  refine (saws_law _ z0 a1 a2 W w0).mono fun e W' ⟨he, bel⟩ => ?_
  subst he
  exact ⟨_, rfl, _, _, _, [], _, [], hW', trodAll_mk1 (shut_bool Try.underlying4 _), (trodAll_cons_mk (Below.trod laidOut (by kernel_rfl) (of_decide_eq_true (by kernel_rfl)) k0 bel lt0) (trodAll_cons_mk (shut_int Try.underlying3 w1) (trodAll_cons_mk (shut_int Try.underlying3 w2) trodAll_mk0))), rfl, bel.frame _, fun h => by cases h⟩

theorem over : Rows.barsSawsRow.holds Try.pinned (OpenSpec.ofChange Rows.barsSawsSpec) :=
  OpenClaim.holds_of_wide 10 Try.f10 rfl rfl rfl rfl rfl rfl rfl ⟨rfl, rfl, rfl, rfl, rfl⟩ rfl rfl rfl rfl rfl (by kernel_rfl) Try.func10 (by kernel_rfl)
    (of_decide_eq_true (by kernel_rfl)) (by unfold Func.isWrapper; first | (rw [if_pos (by decide +kernel)]; kernel_rfl) | (rw [if_neg (by decide +kernel)]; exact ⟨rfl, rfl⟩))
    (fun os started H enc _ => lifted os started H enc)

/-- THE STATEMENT -/
theorem proved : Rows.BarsSawsSaid := over
end Go.Proofs.Ytlgepggmgfnneaa.barsSawsDone
