/- The search of layer 37 finds the first shortest sequence, in plain Lean. -/
import Derived.Test.YtehbnckdllbmgaaGreatDoorLowSpec
set_option linter.unusedSimpArgs false
set_option linter.unusedVariables false
namespace Go.Proofs.YtehbnckdllbmgaaGreatDoor

theorem nodup_sub : ∀ (a b : List Int), a.Nodup → (∀ x ∈ a, x ∈ b) → a.length ≤ b.length
  | [], b, _, _ => Nat.zero_le _
  | x :: a, b, hd, h => by
    rw [List.nodup_cons] at hd
    have hx := h x (by simp)
    have h1 := nodup_sub a (b.erase x) hd.2 (fun y hy => by
      have hne : y ≠ x := by rintro rfl; exact hd.1 hy
      exact (List.mem_erase_of_ne hne).2 (h y (by simp [hy])))
    have h2 := List.length_erase_of_mem hx
    have h3 : 0 < b.length := List.length_pos_of_mem hx
    simp only [List.length_cons]
    omega

/-- a comes before b, by the first place where they differ -/
def LexLt (a b : List Int) : Prop := ∃ i, i < a.length ∧ i < b.length ∧ (∀ k, k < i → gi a k = gi b k) ∧ gi a i < gi b i
/-- st is at least as good as the sequence l -/
def AsGood (p : List (List Int)) (st : St) (l : List Int) : Prop := st.found = true ∧ (st.span < lenV p l ∨ (st.span = lenV p l ∧ (st.order = l ∨ LexLt st.order l)))
def Whole (p : List (List Int)) (l : List Int) : Prop := rightB p.length l = true ∧ l.length = p.length
/-- what is kept of a state -/
def Sound (p : List (List Int)) (st : St) : Prop := st.found = true → Whole p st.order ∧ lenV p st.order = st.span
/-- st' follows st -/
def Follows (p : List (List Int)) (st st' : St) : Prop := ∀ l, AsGood p st l → AsGood p st' l
/-- a sequence that goes on from a beginning -/
def Goes (p : List (List Int)) (pre l : List Int) : Prop := Whole p l ∧ l.take pre.length = pre
/-- the sequence of the state comes before all that go on from pre -/
def Ahead (st : St) (pre : List Int) : Prop := st.found = true → LexLt st.order pre

theorem LexLt.ext {a pre l : List Int} (h : LexLt a pre) (hl : l.take pre.length = pre) : LexLt a l := by
  obtain ⟨i, h1, h2, h3, h4⟩ := h
  have hle : pre.length ≤ l.length := by
    have : (l.take pre.length).length = pre.length := by rw [hl]
    simp at this; omega
  have hg : ∀ k, k < pre.length → gi pre k = gi l k := fun k hk => by
    have : gi (l.take pre.length) k = gi l k := gi_take hk
    rw [hl] at this; exact this
  exact ⟨i, h1, by omega, fun k hk => by rw [h3 k hk, hg k (by omega)], by rw [← hg i h2]; exact h4⟩

structure Step (p : List (List Int)) (pre : List Int) (st st' : St) : Prop where
  sound : Sound p st'
  follows : Follows p st st'
  good : ∀ l, Goes p pre l → AsGood p st' l
  found : st'.found = true
  /-- what it holds was there, or goes on from pre -/
  from_ : (st.found = true ∧ st'.order = st.order) ∨ Goes p pre st'.order

theorem leaf_step {p : List (List Int)} {st : St} {pre : List Int} (hs : Sound p st) (hw : Whole p pre) (ha : Ahead st pre) : Step p pre st (leaf p st pre) := by
  have only : ∀ l, Goes p pre l → l = pre := fun l h => by
    have h1 := h.1.2
    have h2 := hw.2
    rw [← h.2, h2, ← h1, List.take_length]
  by_cases h : st.found = false ∨ lenV p pre < st.span
  · rw [leaf_hit h]
    refine ⟨fun _ => ⟨hw, rfl⟩, fun l hl => ?_, fun l hl => ?_, rfl, .inr ⟨hw, List.take_length ..⟩⟩
    · obtain ⟨h1, h2⟩ := hl
      rcases h with h | h
      · rw [h] at h1; cases h1
      · exact ⟨rfl, .inl (by simp only; omega)⟩
    · rw [only l hl]
      exact ⟨rfl, .inr ⟨rfl, .inl rfl⟩⟩
  · rw [leaf_miss h]
    have hf : st.found = true := by cases e : st.found; exact absurd (.inl e) h; rfl
    have hlt : ¬ lenV p pre < st.span := fun k => h (.inr k)
    refine ⟨hs, fun l hl => hl, fun l hl => ?_, hf, .inl ⟨hf, rfl⟩⟩
    rw [only l hl]
    refine ⟨hf, ?_⟩
    by_cases e : st.span = lenV p pre
    · exact .inr ⟨e, .inr (ha hf)⟩
    · exact .inl (by omega)

theorem pruned_step {p : List (List Int)} (hg : Good p) (hp : 0 < p.length) {st : St} {pre : List Int} (hs : Sound p st) (h : pruned p st pre = true) (ha : Ahead st pre) : Step p pre st st := by
  simp only [pruned, Bool.and_eq_true] at h
  obtain ⟨hf, h⟩ := h
  rw [List.any_eq_true] at h
  obtain ⟨s, hsl, hb⟩ := h
  simp only [List.mem_range, decide_eq_true_eq] at hsl hb
  refine ⟨hs, fun l hl => hl, fun l hl => ⟨hf, ?_⟩, hf, .inl ⟨hf, rfl⟩⟩
  have hk : pre.length ≤ l.length := by
    have : (l.take pre.length).length = pre.length := by rw [hl.2]
    simp at this; omega
  have := bound_le hg hl.1.1 hl.1.2 hp hsl hk
  rw [hl.2] at this
  by_cases e : st.span = lenV p l
  · exact .inr ⟨e, .inr ((ha hf).ext hl.2)⟩
  · exact .inl (by omega)

theorem LexLt.snoc {a pre : List Int} (h : LexLt a pre) (j : Int) : LexLt a (pre ++ [j]) := by
  obtain ⟨i, h1, h2, h3, h4⟩ := h
  exact ⟨i, h1, by simp; omega, fun k hk => by rw [h3 k hk, gi_append_left (by omega)], by rw [gi_append_left h2]; exact h4⟩
theorem gi_pre {l pre : List Int} (hl : l.take pre.length = pre) {k : Nat} (hk : k < pre.length) : gi l k = gi pre k := by
  have : gi (l.take pre.length) k = gi l k := gi_take hk
  rw [hl] at this; exact this.symm
theorem pre_le {l pre : List Int} (hl : l.take pre.length = pre) : pre.length ≤ l.length := by
  have : (l.take pre.length).length = pre.length := by rw [hl]
  simp at this; omega
theorem lex_child {l pre : List Int} {i j : Int} (hl : l.take (pre ++ [i]).length = pre ++ [i]) (h : i < j) : LexLt l (pre ++ [j]) := by
  have h1 := pre_le hl
  simp only [List.length_append, List.length_singleton] at h1
  refine ⟨pre.length, by omega, by simp, fun k hk => ?_, ?_⟩
  · rw [gi_pre hl (by simp; omega), gi_append_left hk, gi_append_left hk]
  · rw [gi_pre hl (by simp), gi_append_one, gi_append_one]; exact h

/-- the jobs before J that are not in pre -/
def cnt (pre : List Int) (J : Nat) : Nat := ((rangeI J).filter fun x => !pre.any fun y => x == y).length
theorem cnt_succ (pre : List Int) (J : Nat) : cnt pre (J + 1) = cnt pre J + if (pre.any fun y => (J : Int) == y) = true then 0 else 1 := by
  unfold cnt
  rw [rangeI_succ, List.filter_append, List.length_append]
  congr 1
  cases h : pre.any fun y => (J : Int) == y <;> simp [List.filter_cons, h]
/-- the states of a search with f jobs left -/
def nodes : Nat → Nat
  | 0 => 0
  | f + 1 => 1 + (f + 1) * nodes f

/-- after the tries of the jobs before J -/
structure Tried (p : List (List Int)) (pre : List Int) (J : Nat) (st st' : St) : Prop where
  sound : Sound p st'
  follows : Follows p st st'
  good : ∀ l, Goes p pre l → gi l pre.length < J → AsGood p st' l
  from_ : (st'.found = st.found ∧ st'.order = st.order) ∨ (st'.found = true ∧ Goes p pre st'.order ∧ gi st'.order pre.length < J)

theorem goes_child {p : List (List Int)} {pre l : List Int} (h : Goes p pre l) (hlt : pre.length < p.length) : ∃ j : Nat, j < p.length ∧ gi l pre.length = j ∧ (pre.any fun y => (j : Int) == y) = false ∧ Goes p (pre ++ [(j : Int)]) l := by
  have hk : pre.length < l.length := by rw [h.1.2]; exact hlt
  have hj := rightB_job h.1.1 hk
  refine ⟨(gi l pre.length).toNat, hj.2.2, by omega, ?_, h.1, ?_⟩
  · have hr := h.1.1
    simp only [rightB, decide_eq_true_eq] at hr
    have := (hr _ hk).2.2
    rw [h.2] at this
    rw [show ((gi l pre.length).toNat : Int) = gi l pre.length by omega]
    exact this
  · rw [List.length_append, List.length_singleton, take_succ_gi hk, h.2]
    congr 2
    omega
theorem goes_of_child {p : List (List Int)} {pre l : List Int} {j : Int} (h : Goes p (pre ++ [j]) l) : Goes p pre l ∧ gi l pre.length = j := by
  have hl := pre_le h.2
  simp only [List.length_append, List.length_singleton] at hl
  refine ⟨⟨h.1, ?_⟩, ?_⟩
  · have : (l.take (pre ++ [j]).length).take pre.length = pre := by rw [h.2, List.take_left]
    rw [List.take_take] at this
    simpa using this
  · rw [gi_pre h.2 (by simp), gi_append_one]

theorem expl_step {p : List (List Int)} (hg : Good p) (hp : 0 < p.length) : ∀ (f : Nat) (st : St) (pre : List Int) (st' : St), pre.length + f = p.length → rightB p.length pre = true → Sound p st → Ahead st pre → expl p f st pre = some st' → Step p pre st st' := by
  intro f
  induction f with
  | zero =>
    intro st pre st' hl hpre hs ha he
    rw [expl_zero] at he
    cases he
    exact leaf_step hs ⟨hpre, by omega⟩ ha
  | succ f ih =>
    intro st pre st' hl hpre hs ha he
    cases hpr : pruned p st pre with
    | true =>
      rw [expl_pruned hpr] at he
      cases he
      exact pruned_step hg hp hs hpr ha
    | false =>
      by_cases h0 : st.left = 0
      · rw [expl_none hpr h0] at he; cases he
      · rw [expl_tries hpr h0] at he
        have key : ∀ (J : Nat) (sJ : St), J ≤ p.length → tries (tryJob p f pre) J (spend st) = some sJ → Tried p pre J st sJ := by
          intro J
          induction J with
          | zero =>
            intro sJ _ e
            simp only [tries] at e
            cases e
            exact ⟨hs, fun l h => h, fun l h1 h2 => by
              have := pre_le h1.2
              have hk : pre.length < l.length := by rw [h1.1.2]; omega
              have := rightB_job h1.1.1 hk
              omega, .inl ⟨rfl, rfl⟩⟩
          | succ J ihJ =>
            intro sJ hJ e
            simp only [tries] at e
            cases g : tries (tryJob p f pre) J (spend st) with
            | none => rw [g] at e; cases e
            | some s1 =>
              rw [g] at e
              have T := ihJ s1 (by omega) g
              cases hany : pre.any fun y => (J : Int) == y with
              | true =>
                have e : tryJob p f pre s1 J = some sJ := e
                rw [tryJob_has hany] at e
                cases e
                refine ⟨T.sound, T.follows, fun l h1 h2 => T.good l h1 ?_, ?_⟩
                · obtain ⟨j, hj, e1, e2, _⟩ := goes_child h1 (by omega)
                  have : j ≠ J := by rintro rfl; rw [hany] at e2; cases e2
                  omega
                · rcases T.from_ with h | ⟨h1, h2, h3⟩
                  · exact .inl h
                  · exact .inr ⟨h1, h2, by omega⟩
              | false =>
                have e : tryJob p f pre s1 J = some sJ := e
                rw [tryJob_new hany] at e
                have ha1 : Ahead s1 (pre ++ [(J : Int)]) := by
                  intro hf1
                  rcases T.from_ with ⟨h1, h2⟩ | ⟨h1, h2, h3⟩
                  · rw [h2]; exact (ha (by rw [← h1]; exact hf1)).snoc _
                  · obtain ⟨j, hj, e1, e2, e3⟩ := goes_child h2 (by omega)
                    exact lex_child e3.2 (by omega)
                have S := ih s1 (pre ++ [(J : Int)]) sJ (by simp; omega) (rightB_snoc hpre (by omega) hany) T.sound ha1 e
                refine ⟨S.sound, fun l h => S.follows l (T.follows l h), fun l h1 h2 => ?_, ?_⟩
                · obtain ⟨j, hj, e1, e2, e3⟩ := goes_child h1 (by omega)
                  by_cases ej : j = J
                  · subst ej; exact S.good l e3
                  · exact S.follows l (T.good l h1 (by omega))
                · rcases S.from_ with ⟨h1, h2⟩ | h
                  · rcases T.from_ with ⟨k1, k2⟩ | ⟨k1, k2, k3⟩
                    · exact .inl ⟨by rw [S.found, ← k1, h1], by rw [h2, k2]⟩
                    · exact .inr ⟨S.found, by rw [h2]; exact k2, by rw [h2]; omega⟩
                  · have := goes_of_child h
                    exact .inr ⟨S.found, this.1, by rw [this.2]; omega⟩
        have T := key p.length st' (Nat.le_refl _) he
        have hgood : ∀ l, Goes p pre l → AsGood p st' l := fun l h => T.good l h (by
          obtain ⟨j, hj, e1, _⟩ := goes_child h (by omega)
          omega)
        have hex : ∃ l, Goes p pre l := by
          clear key T he hgood hpr ih
          have : ∀ (m : Nat) (pre : List Int), pre.length + m = p.length → rightB p.length pre = true → ∃ l, Goes p pre l := by
            intro m
            induction m with
            | zero => intro pre h1 h2; exact ⟨pre, ⟨h2, by omega⟩, List.take_length ..⟩
            | succ m ihm =>
              intro pre h1 h2
              have hx : ∃ j : Nat, j < p.length ∧ (pre.any fun y => (j : Int) == y) = false := by
                apply Decidable.byContradiction
                intro hno
                have hall : ∀ j : Nat, j < p.length → (j : Int) ∈ pre := fun j hj => by
                  apply Decidable.byContradiction
                  intro hn
                  refine hno ⟨j, hj, ?_⟩
                  rw [List.any_eq_false]
                  intro y hy
                  simp; rintro rfl; exact hn hy
                have h3 : (rangeI p.length).length ≤ pre.length := by
                  have hsub : ∀ x ∈ rangeI p.length, x ∈ pre := fun x hx => by
                    have := mem_rangeI.1 hx
                    have := hall x.toNat (by omega)
                    rwa [show ((x.toNat : Nat) : Int) = x by omega] at this
                  exact nodup_sub _ _ (rangeI_nodup _) hsub
                rw [rangeI_length] at h3
                omega
              obtain ⟨j, hj, hn⟩ := hx
              obtain ⟨l, hl⟩ := ihm (pre ++ [(j : Int)]) (by simp; omega) (rightB_snoc h2 hj hn)
              exact ⟨l, (goes_of_child hl).1⟩
          exact this (f + 1) pre hl hpre
        obtain ⟨l0, hl0⟩ := hex
        refine ⟨T.sound, T.follows, hgood, (hgood l0 hl0).1, ?_⟩
        rcases T.from_ with ⟨h1, h2⟩ | ⟨h1, h2, _⟩
        · exact .inl ⟨by rw [← h1]; exact (hgood l0 hl0).1, h2⟩
        · exact .inr h2

theorem cnt_le {n : Nat} {pre : List Int} (h : rightB n pre = true) : cnt pre n + pre.length ≤ n := by
  have hd : (pre ++ (rangeI n).filter fun x => !pre.any fun y => x == y).Nodup := by
    rw [List.nodup_append]
    refine ⟨rightB_nodup h, (rangeI_nodup n).sublist List.filter_sublist, fun a ha b hb e => ?_⟩
    subst e
    rw [List.mem_filter] at hb
    have := hb.2
    simp only [Bool.not_eq_true', List.any_eq_false] at this
    exact this a ha (by simp)
  have := nodup_bound n _ hd (fun x hx => by
    rcases List.mem_append.1 hx with hx | hx
    · obtain ⟨k, hk, rfl⟩ := mem_gi hx
      have := rightB_job h hk; omega
    · exact mem_rangeI.1 (List.mem_filter.1 hx).1)
  rw [List.length_append] at this
  unfold cnt
  omega
theorem cnt_mono (pre : List Int) (J : Nat) : cnt pre J ≤ cnt pre (J + 1) := by rw [cnt_succ]; omega
theorem cnt_mono' (pre : List Int) {J K : Nat} (h : J ≤ K) : cnt pre J ≤ cnt pre K := by
  induction K with
  | zero => obtain rfl : J = 0 := by omega
            exact Nat.le_refl _
  | succ K ih =>
    by_cases e : J = K + 1
    · subst e; exact Nat.le_refl _
    · exact Nat.le_trans (ih (by omega)) (cnt_mono pre K)
/-- with steps enough the search ends -/
theorem expl_enough {p : List (List Int)} : ∀ (f : Nat) (st : St) (pre : List Int), pre.length + f = p.length → rightB p.length pre = true → nodes f ≤ st.left → ∃ st', expl p f st pre = some st' ∧ st.left ≤ st'.left + nodes f := by
  intro f
  induction f with
  | zero => intro st pre _ _ _; exact ⟨_, expl_zero .., by rw [leaf_left]; omega⟩
  | succ f ih =>
    intro st pre hl hpre hn
    cases hpr : pruned p st pre with
    | true => exact ⟨st, expl_pruned hpr, by omega⟩
    | false =>
      have h0 : st.left ≠ 0 := by simp only [nodes] at hn; omega
      have hc := cnt_le hpre
      have hcf : cnt pre p.length ≤ f + 1 := by omega
      have key : ∀ J, J ≤ p.length → ∃ sJ, tries (tryJob p f pre) J (spend st) = some sJ ∧ st.left ≤ sJ.left + 1 + cnt pre J * nodes f := by
        intro J
        induction J with
        | zero => intro _; exact ⟨spend st, rfl, by simp only [spend]; omega⟩
        | succ J ihJ =>
          intro hJ
          obtain ⟨s1, e1, h1⟩ := ihJ (by omega)
          cases hany : pre.any fun y => (J : Int) == y with
          | true =>
            refine ⟨s1, by rw [tries_succ e1]; exact tryJob_has hany, ?_⟩
            rw [cnt_succ, hany]; simpa using h1
          | false =>
            have hcs := cnt_succ pre J
            rw [hany] at hcs
            simp only [Bool.false_eq_true, if_false] at hcs
            have hm := cnt_mono' pre hJ
            have hmul : (cnt pre J + 1) * nodes f ≤ (f + 1) * nodes f := Nat.mul_le_mul_right _ (by omega)
            have hx : (cnt pre J + 1) * nodes f = cnt pre J * nodes f + nodes f := Nat.succ_mul _ _
            simp only [nodes] at hn
            obtain ⟨s2, e2, h2⟩ := ih s1 (pre ++ [(J : Int)]) (by simp; omega) (rightB_snoc hpre (by omega) hany) (by omega)
            refine ⟨s2, by rw [tries_succ e1, tryJob_new hany]; exact e2, ?_⟩
            rw [hcs, hx]
            omega
      obtain ⟨sJ, e, h⟩ := key p.length (Nat.le_refl _)
      refine ⟨sJ, by rw [expl_tries hpr h0]; exact e, ?_⟩
      have hmul : cnt pre p.length * nodes f ≤ (f + 1) * nodes f := Nat.mul_le_mul_right _ hcf
      simp only [nodes]
      omega
theorem nodes_le {f : Nat} (h : f ≤ 6) : nodes f ≤ 100000 := by
  have : f = 0 ∨ f = 1 ∨ f = 2 ∨ f = 3 ∨ f = 4 ∨ f = 5 ∨ f = 6 := by omega
  rcases this with rfl | rfl | rfl | rfl | rfl | rfl | rfl <;> decide
end Go.Proofs.YtehbnckdllbmgaaGreatDoor
