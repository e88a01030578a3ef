/- The statement BarsOrder: for every input the law returns true, and each argument reads afterwards as it did. -/
import Derived.Test.YtlgepggmgfnneaaRowSpec
import Derived.Test.YtlgepggmgfnneaaBarLB
import Derived.Test.YtlgepggmgfnneaaBarW
import Derived.Test.YtlgepggmgfnneaaBase
import Derived.Test.YtlgepggmgfnneaaRows
import Derived.ProofKit
import Derived.OpenShut
import Derived.ChangeOld
import Derived.Below
import Derived.Deep.Matrix

/- First fit makes a right plan; least numbers of bars of lists that are turned round, or shorter; in plain Lean. -/
namespace Go.Proofs.Ytlgepggmgfnneaa

theorem ordG_nodup (l : List Int) : (ordG l).Nodup := by
  have : ∀ k, k ≤ l.length → (selB (befG l) l.length k).Nodup ∧ ∀ x ∈ selB (befG l) l.length k, 0 ≤ x ∧ x < l.length := by
    intro k
    induction k with
    | zero => intro _; exact ⟨by simp [selB], fun x hx => by simp [selB] at hx⟩
    | succ k ih =>
      intro hk
      obtain ⟨h1, h2⟩ := ih (by omega)
      rw [selB]
      rcases nextB_spec (bef_G l) (selB (befG l) l.length k) l.length with ⟨_, h3⟩ | ⟨h3, h4, h5, _⟩
      · exfalso
        have := List.Nodup.length_le_of_subset (range_nodup l.length) (l₂ := selB (befG l) l.length k) (fun x hx => by
          rw [List.mem_map] at hx
          obtain ⟨j, hj, rfl⟩ := hx
          exact h3 j (List.mem_range.1 hj))
        rw [selB_length] at this
        simp at this
        omega
      · refine ⟨?_, fun x hx => ?_⟩
        · rw [List.nodup_append]
          exact ⟨h1, by simp, fun a ha b hb e => by simp at hb; subst hb; subst e; exact h5 ha⟩
        · rw [List.mem_append, List.mem_singleton] at hx
          rcases hx with hx | rfl
          · exact h2 x hx
          · exact ⟨h3, h4⟩
  exact (this l.length (Nat.le_refl _)).1

theorem flatten_set {rs : List (List Int)} {t : Nat} {x : Int} (h : t < rs.length) : (rs.set t (ri rs t ++ [x])).flatten.Perm (rs.flatten ++ [x]) := by
  have e : rs = rs.take t ++ (ri rs t :: rs.drop (t + 1)) := by rw [ri_lt h, ← List.drop_eq_getElem_cons h, List.take_append_drop]
  have e2 : rs.set t (ri rs t ++ [x]) = rs.take t ++ ((ri rs t ++ [x]) :: rs.drop (t + 1)) := by
    rw [List.set_eq_take_append_cons_drop, if_pos h]
  rw [e2]
  conv => rhs; rw [e]
  simp only [List.flatten_append, List.flatten_cons, List.append_assoc]
  refine List.Perm.append_left _ (List.Perm.append_left _ ?_)
  exact List.perm_append_comm

def sumR (l : List Int) (k : Int) (row : List Int) : Int := (row.map fun x => glI l x + k).sum
theorem sumR_app (l k row x) : sumR l k (row ++ [x]) = sumR l k row + (glI l x + k) := by simp [sumR]
structure GI (l : List Int) (s k : Int) (n : Nat) (st : Bars) : Prop where
  perm : st.1.flatten.Perm ((ordG l).take n)
  len : st.2.length = st.1.length
  free : ∀ i, i < st.1.length → gi st.2 i = s + k - sumR l k (ri st.1 i)
  ne : ∀ i, i < st.1.length → ri st.1 i ≠ []
theorem gi_plan {l : List Int} {s k : Int} : ∀ n, n ≤ l.length → GI l s k n (planG l s k n) := by
  intro n
  induction n with
  | zero => intro _; exact ⟨by simp [planG], rfl, fun i hi => by simp [planG] at hi, fun i hi => by simp [planG] at hi⟩
  | succ n ih =>
    intro hn
    have h := ih (by omega)
    have hts : (ordG l).take (n + 1) = (ordG l).take n ++ [gi (ordG l) n] := take_succ_gi (by rw [ordG_length]; omega)
    rw [planG_succ]
    generalize planG l s k n = st at h ⊢
    obtain ⟨rs, fr⟩ := st
    obtain ⟨h1, h2, h3, h4⟩ := h
    try dsimp only at h1 h2 h3 h4
    generalize gi (ordG l) n = x at *
    rcases findI_cases (fun m => decide (glI l x + k ≤ m)) fr with ⟨hx, _⟩ | ⟨t, hx, ht, _, _⟩
    · rw [stepG_new (st := (rs, fr)) (by show findI _ fr < 0; rw [hx]; omega)]
      refine ⟨?_, by simp [h2], fun i hi => ?_, fun i hi => ?_⟩
      · rw [hts, List.flatten_append]
        simpa using h1.append_right [x]
      · dsimp only at hi ⊢
        rw [List.length_append, List.length_singleton] at hi
        by_cases e : i < rs.length
        · rw [gi_append_left (by omega), ri_append_left e]; exact h3 i e
        · obtain rfl : i = rs.length := by omega
          rw [ri_append_one]
          have : gi (fr ++ [s + k - (glI l x + k)]) rs.length = s + k - (glI l x + k) := by rw [← h2, gi_append_one]
          rw [this]; simp [sumR]
      · dsimp only at hi ⊢
        rw [List.length_append, List.length_singleton] at hi
        by_cases e : i < rs.length
        · rw [ri_append_left e]; exact h4 i e
        · obtain rfl : i = rs.length := by omega
          rw [ri_append_one]; simp
    · rw [stepG_old (st := (rs, fr)) (t := t) hx]
      have htr : t < rs.length := by omega
      refine ⟨?_, by simp [h2], fun i hi => ?_, fun i hi => ?_⟩
      · rw [hts]
        exact (flatten_set htr).trans (h1.append_right [x])
      · dsimp only at hi ⊢
        rw [List.length_set] at hi
        rw [gi_setB ht, ri_setR htr]
        by_cases e : i = t
        · subst e
          simp only [if_true]
          rw [sumR_app, h3 i hi]; omega
        · rw [if_neg e, if_neg e]; exact h3 i hi
      · dsimp only at hi ⊢
        rw [List.length_set] at hi
        rw [ri_setR htr]
        split
        · simp
        · exact h4 i hi
theorem greedy_right {l : List Int} {s k : Int} (h : GoodB l s k) : RightP (planG l s k l.length).1 l s k := by
  have g := gi_plan (l := l) (s := s) (k := k) l.length (Nat.le_refl _)
  have f := fit_plan h l.length (Nat.le_refl _)
  have hp := g.perm
  rw [List.take_of_length_le (by rw [ordG_length]; exact Nat.le_refl _)] at hp
  refine ⟨fun row hrow => ?_, fun x hx => ?_, ?_, ?_⟩
  · obtain ⟨i, hi, rfl⟩ := mem_ri hrow
    have a := g.free i hi
    have b := f.free i (by rw [g.len]; exact hi)
    refine ⟨g.ne i hi, ?_⟩
    show sumR l k _ - k ≤ s
    omega
  · exact ordG_mem (hp.mem_iff.1 hx)
  · exact hp.nodup_iff.2 (ordG_nodup l)
  · rw [hp.length_eq, ordG_length]
theorem greedy_least {l : List Int} {s k : Int} (h : GoodB l s k) : leastV l s k ≤ (planG l s k l.length).1.length := right_least h (greedy_right h)

/-! lists turned round, and shorter -/
theorem load_append {xs ys : List Int} {ls ms : List Nat} (h : ls.length = xs.length) (b : Nat) : load (xs ++ ys) (ls ++ ms) b = load xs ls b + load ys ms b := by
  induction xs generalizing ls with
  | nil => have : ls = [] := List.eq_nil_of_length_eq_zero (by simpa using h)
           subst this; simp [load_nil]
  | cons x xs ih =>
    cases ls with
    | nil => simp at h
    | cons q ls =>
      rw [List.cons_append, List.cons_append, load_cons, load_cons, ih (by simpa using h)]; omega
theorem load_reverse {xs : List Int} {ls : List Nat} (h : ls.length = xs.length) (b : Nat) : load xs.reverse ls.reverse b = load xs ls b := by
  induction xs generalizing ls with
  | nil => have : ls = [] := List.eq_nil_of_length_eq_zero (by simpa using h)
           subst this; rfl
  | cons x xs ih =>
    cases ls with
    | nil => simp at h
    | cons q ls =>
      have hl : ls.length = xs.length := by simpa using h
      rw [List.reverse_cons, List.reverse_cons, load_append (by simpa using hl), ih hl, load_cons, load_cons, load_nil]; omega
theorem packs_reverse {c : Int} {nd : List Int} {m : Nat} (h : Packs c nd m) : Packs c nd.reverse m := by
  obtain ⟨ls, h1, h2, h3⟩ := h
  exact ⟨ls.reverse, by simp [h1], fun q hq => h2 q (by simpa using hq), fun b => by rw [load_reverse h1]; exact h3 b⟩
theorem packs_tail {c x : Int} {nd : List Int} {m : Nat} (hx : 0 ≤ x) (h : Packs c (x :: nd) m) : Packs c nd m := by
  obtain ⟨ls, h1, h2, h3⟩ := h
  cases ls with
  | nil => simp at h1
  | cons q ls =>
    refine ⟨ls, by simpa using h1, fun r hr => h2 r (by simp [hr]), fun b => ?_⟩
    have := h3 b
    rw [load_cons] at this
    split at this <;> omega
theorem packs_cons {c x : Int} {nd : List Int} {m : Nat} (hx : x ≤ c) (h : Packs c nd m) : Packs c (x :: nd) (m + 1) := by
  obtain ⟨ls, h1, h2, h3⟩ := h
  refine ⟨m :: ls, by simp [h1], fun r hr => ?_, fun b => ?_⟩
  · rcases List.mem_cons.1 hr with rfl | hr
    · omega
    · have := h2 r hr; omega
  · rw [load_cons]
    by_cases e : m = b
    · subst e
      rw [load_out (fun hm => by have := h2 m hm; omega)]; simp; exact hx
    · rw [if_neg e]; have := h3 b; omega
theorem ndL_reverse (l k) : ndL l.reverse k = (ndL l k).reverse := by simp [ndL]
theorem rightE_reverse (l : List Int) (s k : Int) : rightE l.reverse s k = rightE l s k := by
  have e1 : allB l.reverse = allB l := by unfold allB; rw [List.any_reverse]
  unfold rightE
  rw [List.length_reverse, e1, List.any_reverse]
theorem good_reverse {l : List Int} {s k : Int} (h : GoodB l s k) : GoodB l.reverse s k := rightE_zero.1 (by rw [rightE_reverse]; exact rightE_zero.2 h)
theorem least_reverse {l : List Int} {s k : Int} (h : GoodB l s k) : leastV l.reverse s k = leastV l s k := by
  have a := bestS_packs (good_need h)
  have b := bestS_packs (good_need (good_reverse h))
  have a' := packs_reverse a
  have b' := packs_reverse b
  rw [← ndL_reverse] at a'
  rw [← ndL_reverse, List.reverse_reverse] at b'
  exact Nat.le_antisymm (bestS_least (good_need (good_reverse h)) a') (bestS_least (good_need h) b')
theorem good_tail {x : Int} {l : List Int} {s k : Int} (h : GoodB (x :: l) s k) : GoodB l s k := ⟨by have := h.len; simp at this; omega, fun y hy => h.side y (by simp [hy]), h.stock, h.kerf⟩
theorem least_tail {x : Int} {l : List Int} {s k : Int} (h : GoodB (x :: l) s k) : leastV l s k ≤ leastV (x :: l) s k ∧ leastV (x :: l) s k ≤ leastV l s k + 1 := by
  have e : ndL (x :: l) k = (x + k) :: ndL l k := rfl
  have hx := (good_need h).nn (x + k) (by rw [e]; simp)
  have a := bestS_packs (good_need h)
  have b := bestS_packs (good_need (good_tail h))
  constructor
  · refine bestS_least (good_need (good_tail h)) ?_
    have := a
    rw [e] at this
    exact packs_tail hx.1 this
  · refine bestS_least (good_need h) ?_
    rw [e]
    exact packs_cons hx.2 b
end Go.Proofs.Ytlgepggmgfnneaa

/- The laws BarsRight, BarsOrder. -/
namespace Go.Proofs.Ytlgepggmgfnneaa
open Go.RowKit

theorem SS.slice {w : World} {v : Value} {rs : List (List Int)} (h : SS w v rs) : ∃ a c, v = .slice a rs.length c ∧ rs.length ≤ c := by
  obtain ⟨vs, ⟨a, c, e, h1, _⟩, _⟩ := h; exact ⟨a, c, e, h1⟩
theorem best9 {l : List Int} {s k : Int} (h : l.length ≤ 9) : bestE l s k = rightE l s k := by unfold bestE; rw [if_neg (by omega)]

set_option maxRecDepth 100000 in
set_option maxHeartbeats 4000000 in
theorem right_law (v : Value) (l : List Int) (s k : Int) (w : World) (h : SI w v l) : Calls Try.prog 7 #[v, .int .i64 s, .int .i64 k] w (Law w) := by
  have H := Lib.hid h
  obtain ⟨a, cap, rfl, h1, h2, h3⟩ := h
  clear h3
  have hm : l.length ≤ 9223372036854775807 := by unfold maxLen at h2; omega
  by_cases hl : 9 < l.length
  · have hlb : decide ((9 : Int) < l.length) = true := by rw [decide_eq_true_eq]; omega
    go_enter Try.func7, Try.ntmps7
    go_wp2_with fail
    refine (awake_any _).mono ?_
    rintro e w2 ⟨rfl, hb⟩
    go_wp2_with fail
    go_ret
    exact ⟨rfl, hb⟩
  have hlb : decide ((9 : Int) < l.length) = false := by rw [decide_eq_false_iff_not]; omega
  have HB9 := Lib.hid (best9 (s := s) (k := k) (by omega : l.length ≤ 9))
  go_enter Try.func7, Try.ntmps7
  go_wp2_with fail
  refine (Greedy_any _ l s k _ H.out).mono ?_
  rintro e w1 ⟨r1, rfl, hs, hb⟩
  have HB1 := Lib.hid hb
  have HS1 := Lib.hid hs
  clear hb hs
  go_wp2_with fail
  refine (Best_any _ l s k _ (H.out.keep HB1.out)).mono ?_
  rintro e w2 ⟨r2, rfl, hs, hb⟩
  have HB2 := Lib.hid (ext_trans HB1.out hb)
  have HS2 := Lib.hid (HS1.out.keep hb)
  have HT2 := Lib.hid hs
  clear hb hs
  rw [HB9.out]
  by_cases hr : rightE l s k = 0
  · have HG := Lib.hid (rightE_zero.1 hr)
    have e1 : (rightE l s k != 0) = false := by rw [hr]; rfl
    have HGR : Hid (RightP (greedyL l s k) l s k) := by show RightP _ _ _ _; rw [greedyL_good hr]; exact greedy_right HG.out
    have HBR : Hid (RightP (bestL l s k) l s k) := by show RightP _ _ _ _; rw [bestL_good (by rw [HB9.out]; exact hr)]; exact best_right HG.out
    rw [hr]
    clear hr
    go_wp2_with fail
    refine (lright_any _ _ _ l s k _ HS2.out (H.out.keep HB2.out) HG.out).mono ?_
    rintro e w3 ⟨⟨b, rfl, hiff⟩, hb⟩
    have hbt : b = true := hiff.2 HGR.out
    subst hbt
    have HB3 := Lib.hid (ext_trans HB2.out hb)
    have HT3 := Lib.hid (HT2.out.keep hb)
    clear hb hiff
    go_wp2_with fail
    refine (lright_any _ _ _ l s k _ HT3.out (H.out.keep HB3.out) HG.out).mono ?_
    rintro e w4 ⟨⟨b, rfl, hiff⟩, hb⟩
    have hbt : b = true := hiff.2 HBR.out
    subst hbt
    have HB4 := Lib.hid (ext_trans HB3.out hb)
    clear hb hiff
    go_wp2_with fail
    refine (awake_any _).mono ?_
    rintro e w5 ⟨rfl, hb⟩
    go_wp2_with fail
    go_ret
    exact law_of rfl HB4.out hb
  · have e1 : (rightE l s k != 0) = true := by simpa using hr
    have e2 : (rightE l s k == rightE l s k) = true := by rw [beq_iff_eq]
    obtain ⟨a1, c1, e3, _⟩ := HS2.out.slice
    obtain ⟨a2, c2, e4, _⟩ := HT2.out.slice
    rw [greedyL_bad hr] at e3
    rw [bestL_bad (by rw [HB9.out]; exact hr)] at e4
    subst e3 e4
    clear hr
    go_wp2_with fail
    refine (awake_any _).mono ?_
    rintro e w5 ⟨rfl, hb⟩
    go_wp2_with fail
    go_ret
    exact law_of rfl HB2.out hb
end Go.Proofs.Ytlgepggmgfnneaa

/- The law BarsOrder. -/
namespace Go.Proofs.Ytlgepggmgfnneaa
open Go.RowKit

theorem take_rev_succ {l : List Int} {m : Nat} (h : m < l.length) : l.reverse.take (m + 1) = l.reverse.take m ++ [gi l (l.length - 1 - m)] := by
  rw [List.take_succ_eq_append_getElem (by simpa using h), gi_lt (by omega), List.getElem_reverse]
theorem least_drop1 {l : List Int} {s k : Int} (h0 : 0 < l.length) (h : GoodB l s k) : GoodB (l.drop 1) s k ∧ leastV (l.drop 1) s k ≤ leastV l s k ∧ leastV l s k ≤ leastV (l.drop 1) s k + 1 := by
  cases l with
  | nil => simp at h0
  | cons x l => exact ⟨good_tail h, least_tail h⟩

set_option maxRecDepth 100000 in
set_option maxHeartbeats 4000000 in
theorem order_law (v : Value) (l : List Int) (s k : Int) (w : World) (h : SI w v l) : Calls Try.prog 9 #[v, .int .i64 s, .int .i64 k] w (Law w) := by
  have H := Lib.hid h
  obtain ⟨a, cap, rfl, h1, h2, h3⟩ := h
  have H3 := Lib.hid h3
  clear h3
  have hm : l.length ≤ 9223372036854775807 := by unfold maxLen at h2; omega
  by_cases hl : 9 < l.length ∨ l.length = 0
  · have hlb : decide ((9 : Int) < l.length) = true ∨ ((l.length : Int) == 0) = true := by rcases hl with h | h; left; rw [decide_eq_true_eq]; omega; right; rw [beq_iff_eq]; omega
    clear hl
    go_enter Try.func9, Try.ntmps9
    rcases hlb with hlb | hlb
    all_goals
      go_wp2_with fail
      all_goals
        refine (awake_any _).mono ?_
        rintro e w2 ⟨rfl, hb⟩
        go_wp2_with fail
        go_ret
        exact ⟨rfl, hb⟩
  have hlb : decide ((9 : Int) < l.length) = false := by rw [decide_eq_false_iff_not]; omega
  have hlc : ((l.length : Int) == 0) = false := by rw [beq_eq_false_iff_ne]; omega
  have h0 : 0 < l.length := by omega
  have h9 : l.length ≤ 9 := by omega
  clear hl
  have HBE := Lib.hid (best9 (s := s) (k := k) h9)
  have HBR := Lib.hid ((best9 (s := s) (k := k) (l := l.reverse) (by simpa using h9)).trans (rightE_reverse l s k))
  have HBT := Lib.hid (best9 (s := s) (k := k) (l := l.drop 1) (by simp; omega))
  go_enter Try.func9, Try.ntmps9
  go_wp2_with fail
  refine (Best_any _ l s k _ H.out).mono ?_
  rintro e w1 ⟨r1, rfl, hs, hb⟩
  have HB1 := Lib.hid hb
  have HS1 := Lib.hid hs
  rw [HBE.out]
  clear hb hs
  go_wp2_with fail
  go_loopw [9, 10] (fun r i wr => ∃ m : Nat, m ≤ l.length ∧ i = .int .i64 ((l.length : Int) - 1 - m) ∧ Hid (Below w1.heap.size w1 wr) ∧ Hid (OwnI wr w1.heap.size r (l.reverse.take m))) (fun _ i _ => (intOf i + 1).toNat)
  case atStart => exact ⟨0, Nat.zero_le _, by go_num, Below.refl _ _, OwnI_nil _ _⟩
  case round =>
    obtain ⟨m, hm2, rfl, hb3, ho3⟩ := hrel
    by_cases hlt2 : m < l.length
    · obtain ⟨n, hn, hn2⟩ : ∃ n : Nat, (l.length : Int) - 1 - m = (n : Int) ∧ l.length - 1 - m = n := ⟨l.length - 1 - m, by omega, rfl⟩
      have HN := Lib.hid hn
      have hnl : n < l.length := by omega
      obtain ⟨b4, o4, ha4, k4⟩ := H3.out n hnl
      have k4 := cell_keep hb3.out (cell_keep HB1.out k4)
      subst ha4
      have hge : decide ((0 : Int) ≤ (n : Int)) = true := by rw [decide_eq_true_eq]; omega
      have HTR := Lib.hid (take_rev_succ hlt2)
      rw [hn2] at HTR
      rw [hn]
      clear hn hn2
      have hlr : (l.reverse.take m).length ≤ 12 := by simp; omega
      have hsb := hb3.out.size
      go_wp2_with (at_builtin; refine wpList_app_int rfl (.tmp 38) (.tmp 43) rfl w1.heap.size _ _ (l.reverse.take m) [gi l n] rfl rfl (ho3.out.alloc _) (SI_one _ _ _) (by simp; omega) (by simp; omega) ?_)
      intro va wa hoa hga _
      have hba : Below w1.heap.size w1 wa := (hb3.out.alloc hsb _).grown hga (by simp; omega) (fun k hk => (World.ownsRow.lt ho3.out k hk).1)
      rw [← HTR.out] at hoa
      have HO := Lib.hid hoa
      have HBA := Lib.hid hba
      clear hoa hba hga
      go_wp2_with fail
      go_roundw
      case rel => exact ⟨m + 1, by omega, by first | (have := HN.out; rw [show (l.length : Int) - 1 - ((m + 1 : Nat) : Int) = (n : Int) - 1 by omega]) | go_num, HBA, HO⟩
      case measure => simp [intOf]
    · obtain ⟨z, hz, hz2⟩ : ∃ z : Int, (l.length : Int) - 1 - m = z ∧ z < 0 := ⟨_, rfl, by omega⟩
      have hge : decide ((0 : Int) ≤ z) = false := by rw [decide_eq_false_iff_not]; omega
      have ho3' := ho3.out
      rw [List.take_of_length_le (by simp; omega)] at ho3'
      have HO3 := Lib.hid ho3'.si
      have HB3 := Lib.hid (ext_trans HB1.out hb3.out)
      have HS3 := Lib.hid (HS1.out.keep hb3.out)
      rw [hz]
      clear hz hz2 ho3' ho3 hm2 hlt2
      go_wp2_with fail
      refine (Best_any _ l.reverse s k _ HO3.out).mono ?_
      rintro e w2 ⟨r2, rfl, hs, hb⟩
      have HB4 := Lib.hid (ext_trans HB3.out hb)
      have HS4 := Lib.hid (HS3.out.keep hb)
      have HT4 := Lib.hid hs
      rw [HBR.out]
      clear hb hs
      by_cases hr : rightE l s k = 0
      · have HG := Lib.hid (rightE_zero.1 hr)
        have HLR := Lib.hid (least_reverse HG.out)
        obtain ⟨hgd, hd1, hd2⟩ := least_drop1 h0 HG.out
        have HGD := Lib.hid hgd
        have HZ : Hid (rightE (l.drop 1) s k = 0) := rightE_zero.2 HGD.out
        obtain ⟨a1, c1, e1, _⟩ := HS4.out.slice
        obtain ⟨a2, c2, e2, _⟩ := HT4.out.slice
        rw [bestL_good (by rw [HBE.out]; exact hr), bestP_length] at e1
        rw [bestL_good (by rw [HBR.out]; exact hr), bestP_length, HLR.out] at e2
        subst e1 e2
        have hb12 := least_len l s k
        obtain ⟨M, hM⟩ : ∃ M, leastV l s k = M := ⟨_, rfl⟩
        rw [hM] at hd1 hd2 hb12 ⊢
        have e1 : (rightE l s k != 0) = false := by rw [hr]; rfl
        have e5 : ((M : Int) == (M : Int)) = true := by rw [beq_iff_eq]
        obtain ⟨b, off, ha, _⟩ := H3.out 0 h0
        subst ha
        have HDR := H.out
        rw [hr]
        clear hr hgd hM
        by_cases hc : 1 = cap
        · have hl1 : l.length = 1 := by omega
          have HDN : Hid (SI w (.slice (some ⟨b, off, none⟩) 0 0) (l.drop 1)) := by
            have := HDR.drop_nil (cap' := 0) (Nat.zero_le _) (some ⟨b, off, none⟩)
            rw [hl1] at this; exact this
          clear HDR
          subst hc
          have hc0 : (l.length : Int) - 1 = 0 := by omega
          go_wp2_with fail
          refine (Best_any _ (l.drop 1) s k _ (HDN.out.keep HB4.out)).mono ?_
          rintro e w3 ⟨r3, rfl, hs, hb⟩
          have HB5 := Lib.hid (ext_trans HB4.out hb)
          obtain ⟨a3, c3, e3, _⟩ := hs.slice
          rw [bestL_good (by rw [HBT.out]; exact HZ.out), bestP_length] at e3
          subst e3
          obtain ⟨M2, hM2⟩ : ∃ M2, leastV (l.drop 1) s k = M2 := ⟨_, rfl⟩
          rw [hM2] at hd1 hd2 ⊢
          rw [HBT.out, HZ.out]
          have e6 : decide (M2 ≤ M) = true := by rw [decide_eq_true_eq]; exact hd1
          have e7 : decide ((M : Int) ≤ (M2 : Int) + 1) = true := by rw [decide_eq_true_eq]; omega
          clear hM2 hs hb
          go_wp2_with fail
          refine (awake_any _).mono ?_
          rintro e w5 ⟨rfl, hb⟩
          go_wp2_with fail
          go_ret
          exact law_of rfl HB5.out hb
        · have hc1 : 1 < cap := by omega
          have HDN := Lib.hid (HDR.drop 1 h0)
          clear HDR hc
          go_wp2_with fail
          refine (Best_any _ (l.drop 1) s k _ (HDN.out.keep HB4.out)).mono ?_
          rintro e w3 ⟨r3, rfl, hs, hb⟩
          have HB5 := Lib.hid (ext_trans HB4.out hb)
          obtain ⟨a3, c3, e3, _⟩ := hs.slice
          rw [bestL_good (by rw [HBT.out]; exact HZ.out), bestP_length] at e3
          subst e3
          obtain ⟨M2, hM2⟩ : ∃ M2, leastV (l.drop 1) s k = M2 := ⟨_, rfl⟩
          rw [hM2] at hd1 hd2 ⊢
          rw [HBT.out, HZ.out]
          have e6 : decide (M2 ≤ M) = true := by rw [decide_eq_true_eq]; exact hd1
          have e7 : decide ((M : Int) ≤ (M2 : Int) + 1) = true := by rw [decide_eq_true_eq]; omega
          clear hM2 hs hb
          go_wp2_with fail
          refine (awake_any _).mono ?_
          rintro e w5 ⟨rfl, hb⟩
          go_wp2_with fail
          go_ret
          exact law_of rfl HB5.out hb
      · have e1 : (rightE l s k != 0) = true := by simpa using hr
        have e2 : (rightE l s k == rightE l s k) = true := by rw [beq_iff_eq]
        clear hr
        go_wp2_with fail
        refine (awake_any _).mono ?_
        rintro e w5 ⟨rfl, hb⟩
        go_wp2_with fail
        go_ret
        exact law_of rfl HB4.out hb
end Go.Proofs.Ytlgepggmgfnneaa

/- The arguments of a law, opened: slices of integers, rows of integers. -/
namespace Go.Proofs.Ytlgepggmgfnneaa
open Go.ChangeShapes Go.WideShapes Go.ChangeAt Go.RowKit Go.Deep

theorem own : ownKnob Try.prog.godebug = none := by kernel_rfl
theorem laidOut : laidOutB Try.prog = true := by kernel_rfl
theorem cells_ints : Try.prog.cellsOf 36 = 1 := by kernel_rfl
theorem cells_int : Try.prog.cellsOf 3 = 1 := by kernel_rfl

/-- cells from an address on, so that the address is that of a plain cell -/
theorem Sl_of {w : World} {a : Addr} {n cap : Nat} {C : Nat → Value} (h1 : n ≤ cap) (h2 : cap ≤ maxLen) (h : ∀ i, i < n → w.cell? (a.add i) = some (C i)) : Sl w (.slice (some a) n cap) n C := by
  refine ⟨some a, cap, rfl, h1, h2, fun i hi => ?_⟩
  obtain ⟨b, off, spot⟩ := a
  have h0 := h 0 (by omega)
  have hs : spot = none := by simpa [Addr.add] using World.cell?_spot h0
  subst hs
  refine ⟨b, off, rfl, ?_⟩
  have := h i hi
  rwa [show (⟨b, off, none⟩ : Addr).add i = ⟨b, off + i, none⟩ by unfold Addr.add; split <;> simp_all] at this

theorem SI_of {w : World} {a : Addr} {n cap : Nat} {zs : List Int} (h1 : n ≤ cap) (h2 : cap ≤ maxLen) (hz : zs.length = cap) (h : ∀ i, i < cap → w.cell? (a.add i) = some (.int .i64 (zs.getD i 0))) : SI w (.slice (some a) n cap) (zs.take n) := by
  have hl : (zs.take n).length = n := by simp; omega
  unfold SI
  rw [hl]
  exact Sl_of h1 h2 fun i hi => by rw [h i (by omega), gi_take hi]; rfl

variable {H : Type} {enc : TypeId × Value → H} {W : World}

theorem ints_arg {a : Option Addr} {n c : Nat} {d : DataW H} {p : List MemPlace} (h : DataW.Trod enc Try.prog W 0 (fun _ => true) true 36 (.slice a n c) d p) :
    ∃ xs, SI W (.slice a n c) xs ∧ ∀ x ∈ xs, (Lit.int .i64 x).wf = true := by
  obtain ⟨fuel, hf⟩ := h
  rcases open_ints Try.underlying36 Try.underlying3 (by kernel_rfl) hf with ⟨hcs, _⟩ | ⟨x, l, c', zs, hcs, _, hl, hm, hz, _, hcell, hwz⟩
  · simp [Value.cells] at hcs
    obtain ⟨rfl, rfl, rfl⟩ := hcs
    exact ⟨[], SI_nil _, by simp⟩
  · simp [Value.cells] at hcs
    obtain ⟨rfl, rfl, rfl⟩ := hcs
    have hz' : zs.length = c := by simpa using hz
    exact ⟨zs.take n, SI_of hl hm hz' (fun i hi => hcell i (by omega)), fun x hx => hwz x (List.mem_of_mem_take hx)⟩

theorem rows_arg {a : Option Addr} {n c : Nat} {d : DataW H} {p : List MemPlace} (h : DataW.Trod enc Try.prog W 0 (fun _ => true) true 40 (.slice a n c) d p) :
    ∃ rs, SS W (.slice a n c) rs ∧ ∀ r ∈ rs, ∀ x ∈ r, (Lit.int .i64 x).wf = true := by
  obtain ⟨fuel, hf⟩ := h
  rcases open_int_rows Try.underlying40 Try.underlying36 Try.underlying3 cells_ints cells_int hf with ⟨hcs, _⟩ | ⟨x, l, c', A, L, C, Z, hcs, _, hl, hm, _, hx⟩
  · simp [Value.cells] at hcs
    obtain ⟨rfl, rfl, rfl⟩ := hcs
    exact ⟨[], SS_nil _, by simp⟩
  · simp [Value.cells] at hcs
    obtain ⟨rfl, rfl, rfl⟩ := hcs
    have hlen : ((List.range n).map fun r => (Z r).take (L r)).length = n := by simp
    refine ⟨(List.range n).map fun r => (Z r).take (L r), ⟨fun r => .slice (A r) (L r) (C r), ?_, fun r hr => ?_⟩, ?_⟩
    · rw [hlen]
      exact Sl_of hl hm fun i hi => (hx i (by omega)).1
    · rw [hlen] at hr
      obtain ⟨_, e1, e2, e3, _, e5, e6⟩ := hx r (by omega)
      have er : ri ((List.range n).map fun r => (Z r).take (L r)) r = (Z r).take (L r) := by simp [ri, hr]
      rw [er]
      show SI W (.slice (A r) (L r) (C r)) _
      cases hA : A r with
      | none =>
        have := e5 hA
        have hL : L r = 0 := by omega
        rw [this, hL, List.take_zero]
        exact SI_nil _
      | some a' => exact SI_of e1 e2 e3 (e6 a' hA).2
    · intro r hr x hx'
      simp only [List.mem_map, List.mem_range] at hr
      obtain ⟨i, hi, rfl⟩ := hr
      exact (hx i (by omega)).2.2.2.2.1 x (List.mem_of_mem_take hx')
end Go.Proofs.Ytlgepggmgfnneaa

/- The statement BarsOrder: for every input the law returns true, and each argument reads afterwards as it did. -/
namespace Go.Proofs.Ytlgepggmgfnneaa.barsOrderDone
open Go.ChangeShapes Go.WideShapes Go.ChangeAt Go.RowKit

set_option maxRecDepth 100000 in
theorem lifted (os : Os) (started : os.Started) (H : Type) (enc : TypeId × Value → H) :
    ReturnsInHanded {} Try.checked os 9 .any (Rows.barsOrderSpec.pre6 enc Try.prog Try.f9 Rows.barsOrderRow.domain false) (Rows.barsOrderSpec.post enc Try.prog Try.f9 false true false false) := by
  refine returnsInHanded_of_change (C := Try.checked) own started (by kernel_rfl) Try.func9
    (ChangeSpec.witness6 (enc := enc) (C := Try.checked) false ⟨#[], #[.slice none 0 0, .int .i64 0, .int .i64 0], []⟩ 8 (by kernel_rfl) (by kernel_rfl) (by kernel_rfl) (by kernel_rfl)) ?_
  intro W base args ds gs before hval0 hW _ _
  have hval : ∀ (j : Nat) t v, Try.f9.params[j]? = some t → args[j]? = some v → Value.okWide Try.prog W .any base t v := hval0
  have hW' := hW
  obtain ⟨p, q, hA0, hV, rfl, _, _⟩ := hW
  have hA : DataW.TrodAll enc Try.prog W 0 (fun _ => true) true Try.f9.params.toList args.toList ds p := hA0
  rw [Try.params9] at hA hval
  obtain ⟨v0, vs0, d0, ds0, p0, q0, hargs, rfl, rfl, h0, r0⟩ := trodAll_cons hA
  obtain ⟨v1, vs1, d1, ds1, p1, q1, rfl, rfl, rfl, h1, r1⟩ := trodAll_cons r0
  obtain ⟨v2, vs2, d2, ds2, p2, q2, rfl, rfl, rfl, h2, r2⟩ := trodAll_cons r1
  obtain ⟨rfl, rfl, rfl⟩ := trodAll_nil r2
  obtain rfl : args = #[v0, v1, v2] := by cases args; simp_all
  obtain ⟨rfl, rfl⟩ := trodVars_none hV
  obtain ⟨a0, len0, cap0, rfl⟩ := okWide_slice Try.underlying36 (hval 0 36 v0 rfl rfl)
  have k0 := h0
  have lt0 : ∀ x ∈ p0, x.block < W.heap.size := by obtain ⟨m, hm⟩ := k0; exact DataW.trod_lt m _ _ _ hm
  obtain ⟨z0, w0, _⟩ := ints_arg k0
  obtain ⟨a1, rfl, rfl, rfl, w1⟩ := open_int Try.underlying3 (hval 1 3 v1 rfl rfl) h1
  obtain ⟨a2, rfl, rfl, rfl, w2⟩ := open_int Try.underlying3 (hval 2 3 v2 rfl rfl) h2
  clear hA0 hval0
  refine (order_law _ z0 a1 a2 W w0).mono fun e W' ⟨he, bel⟩ => ?_
  subst he
  exact ⟨_, rfl, _, _, _, [], _, [], hW', trodAll_mk1 (shut_bool Try.underlying4 _), (trodAll_cons_mk (Below.trod laidOut (by kernel_rfl) (of_decide_eq_true (by kernel_rfl)) k0 bel lt0) (trodAll_cons_mk (shut_int Try.underlying3 w1) (trodAll_cons_mk (shut_int Try.underlying3 w2) trodAll_mk0))), rfl, bel.frame _, fun h => by cases h⟩

theorem over : Rows.barsOrderRow.holds Try.pinned (OpenSpec.ofChange Rows.barsOrderSpec) :=
  OpenClaim.holds_of_wide 9 Try.f9 rfl rfl rfl rfl rfl rfl rfl ⟨rfl, rfl, rfl, rfl, rfl⟩ rfl rfl rfl rfl rfl (by kernel_rfl) Try.func9 (by kernel_rfl)
    (of_decide_eq_true (by kernel_rfl)) (by unfold Func.isWrapper; first | (rw [if_pos (by decide +kernel)]; kernel_rfl) | (rw [if_neg (by decide +kernel)]; exact ⟨rfl, rfl⟩))
    (fun os started H enc _ => lifted os started H enc)

/-- THE STATEMENT -/
theorem proved : Rows.BarsOrderSaid := over
end Go.Proofs.Ytlgepggmgfnneaa.barsOrderDone
