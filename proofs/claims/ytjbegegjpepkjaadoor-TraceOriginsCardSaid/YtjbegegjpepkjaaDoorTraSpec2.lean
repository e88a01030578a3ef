/- Check and Origin of a register of links, in plain Lean. -/
import Derived.Test.YtjbegegjpepkjaaDoorTraSpec
namespace Go.Proofs.YtjbegegjpepkjaaDoor

/-- each link is what Add adds behind those before it -/
def Reg (l : List Lnk) : Prop := ∀ (k : Nat) x, l[k]? = some x → addE (l.take k) x.item x.frm x.heat x.tm = 0 ∧ x.hash = (newL (l.take k) x.item x.frm x.heat x.tm).hash
theorem Reg.nil : Reg [] := by intro k x h; simp at h
theorem Reg.take {l : List Lnk} (h : Reg l) (n : Nat) : Reg (l.take n) := by
  intro k x hk
  have hl := (List.getElem?_eq_some_iff.1 hk).1
  simp only [List.length_take] at hl
  rw [List.getElem?_take, if_pos (by omega)] at hk
  rw [List.take_take, show min k n = k by omega]
  exact h k x hk
theorem Reg.snoc {l : List Lnk} {x : Lnk} (h : Reg l) (e : addE l x.item x.frm x.heat x.tm = 0) (g : x.hash = (newL l x.item x.frm x.heat x.tm).hash) : Reg (l ++ [x]) := by
  intro k y hk
  by_cases hlt : k < l.length
  · rw [List.getElem?_append_left hlt] at hk
    rw [List.take_append_of_le_length (by omega)]
    exact h k y hk
  · have hl := (List.getElem?_eq_some_iff.1 hk).1
    simp at hl
    have hkl : k = l.length := by omega
    subst hkl
    rw [List.getElem?_append_right (Nat.le_refl _)] at hk
    simp at hk
    subst hk
    rw [List.take_left]
    exact ⟨e, g⟩
theorem newL_eq {l : List Lnk} {x : Lnk} (g : x.hash = (newL l x.item x.frm x.heat x.tm).hash) : newL l x.item x.frm x.heat x.tm = x := by
  cases x; unfold newL at g ⊢; simp only [Lnk.mk.injEq, true_and]; exact g.symm
theorem Reg.prop {l : List Lnk} (h : Reg l) : RegP l := by
  have key : ∀ n, n ≤ l.length → RegP (l.take n) := by
    intro n
    induction n with
    | zero => intro _; rw [List.take_zero]; exact RegP.nil
    | succ n ih =>
      intro hn
      have hk : l[n]? = some l[n] := List.getElem?_eq_getElem (by omega)
      obtain ⟨e, g⟩ := h n _ hk
      rw [List.take_succ_eq_append_getElem (by omega), ← newL_eq g]
      exact (ih (by omega)).add e
  have := key l.length (Nat.le_refl _)
  rwa [List.take_length] at this
theorem Reg.addL {l : List Lnk} (h : Reg l) (item frm heat : List UInt8) (tm : Int) : Reg (addL l item frm heat tm) := by
  unfold Proofs.YtjbegegjpepkjaaDoor.addL
  split
  · rename_i e; exact h.snoc e rfl
  · exact h
theorem chkE_step {l r : List Lnk} {x : Lnk} (e : addE l x.item x.frm x.heat x.tm = 0) (g : x.hash = (newL l x.item x.frm x.heat x.tm).hash) : chkE l (x :: r) = chkE (l ++ [x]) r := by
  rw [chkE, if_pos e, if_pos g.symm]
theorem chkE_take {l : List Lnk} (h : Reg l) : ∀ n, n ≤ l.length → ∀ r, chkE [] (l.take n ++ r) = chkE (l.take n) r := by
  intro n
  induction n with
  | zero => intro _ r; simp
  | succ n ih =>
    intro hn r
    have hk : l[n]? = some l[n] := List.getElem?_eq_getElem (by omega)
    obtain ⟨e, g⟩ := h n _ hk
    rw [List.take_succ_eq_append_getElem (by omega), List.append_assoc, ih (by omega), List.singleton_append, chkE_step e g]
/-- a register's links are accepted -/
theorem Reg.check {l : List Lnk} (h : Reg l) : checkL l = 0 := by
  have := chkE_take h l.length (Nat.le_refl _) []
  rw [List.take_length, List.append_nil] at this
  unfold checkL
  rw [this, chkE]
theorem reg_of_chk : ∀ (r l : List Lnk), Reg l → chkE l r = 0 → Reg (l ++ r) := by
  intro r
  induction r with
  | nil => intro l h _; rwa [List.append_nil]
  | cons x r ih =>
    intro l h hc
    rw [chkE] at hc
    by_cases e : addE l x.item x.frm x.heat x.tm = 0
    · rw [if_pos e] at hc
      by_cases g : (newL l x.item x.frm x.heat x.tm).hash = x.hash
      · rw [if_pos g] at hc
        have := ih (l ++ [x]) (h.snoc e g.symm) hc
        rwa [List.append_assoc] at this
      · rw [if_neg g] at hc; omega
    · rw [if_neg e] at hc; exact absurd hc e
theorem reg_of_check {l : List Lnk} (h : checkL l = 0) : Reg l := reg_of_chk l [] Reg.nil h
/-- another hash is refused -/
theorem wrong_hash {l : List Lnk} (h : Reg l) {k : Nat} {x : Lnk} (hk : l[k]? = some x) {c : Nat} (hc : c ≠ x.hash) : checkL (l.set k { x with hash := c }) = 16 := by
  obtain ⟨e, g⟩ := h k x hk
  obtain ⟨hlt, hx⟩ := List.getElem?_eq_some_iff.1 hk
  unfold checkL
  rw [List.set_eq_take_append_cons_drop, if_pos hlt, chkE_take h k (by omega), chkE]
  rw [if_pos (show addE (l.take k) x.item x.frm x.heat x.tm = 0 from e)]
  have e2 : (newL (l.take k) x.item x.frm x.heat x.tm).hash = x.hash := g.symm
  show (if (newL (l.take k) x.item x.frm x.heat x.tm).hash = c then _ else (16 : Int)) = 16
  rw [e2, if_neg (Ne.symm hc)]

/-! origin -/
theorem orgs_more {l : List Lnk} (h : RegP l) : ∀ (k : Nat) (x : Lnk), l[k]? = some x → ∀ n m, k ≤ n → k ≤ m → orgs l n x = orgs l m x := by
  intro k
  induction k using Nat.strongRecOn with
  | _ k ih =>
    intro x hx n m hn hm
    by_cases hf : x.frm = []
    · have : ∀ n, orgs l n x = [x] := by intro n; cases n with | zero => rfl | succ n => rw [orgs, if_pos hf]
      rw [this, this]
    · obtain ⟨i, y, hik, hy, hit, _⟩ := h.frm k x hx hf
      have hfy : fnd l x.frm = some y := by rw [← hit]; exact h.fnd_at hy
      obtain ⟨n, rfl⟩ : ∃ n', n = n' + 1 := ⟨n - 1, by omega⟩
      obtain ⟨m, rfl⟩ : ∃ m', m = m' + 1 := ⟨m - 1, by omega⟩
      rw [orgs, orgs, if_neg hf, if_neg hf, hfy]
      dsimp only
      rw [ih i hik y hy n m (by omega) (by omega)]
structure OrgP (l : List Lnk) (k : Nat) (x : Lnk) (o : List Lnk) : Prop where
  head : o.head? = some x
  len : o.length ≤ k + 1
  last : ∃ z, o.getLast? = some z ∧ z.frm = []
  mem : ∀ y ∈ o, y ∈ l
  heat : ∀ y ∈ o, y.heat = x.heat
  step : ∀ (j : Nat) a b, o[j]? = some a → o[j + 1]? = some b → b.item = a.frm ∧ b.tm ≤ a.tm
/-- THE STAGE'S THEOREM: one heat, times that do not increase, an end at a heat -/
theorem orgs_ok {l : List Lnk} (h : RegP l) : ∀ (k : Nat) (x : Lnk), l[k]? = some x → ∀ n, k ≤ n → OrgP l k x (orgs l n x) := by
  intro k
  induction k using Nat.strongRecOn with
  | _ k ih =>
    intro x hx n hn
    by_cases hf : x.frm = []
    · have : orgs l n x = [x] := by cases n with | zero => rfl | succ n => rw [orgs, if_pos hf]
      rw [this]
      refine ⟨rfl, by simp, ⟨x, rfl, hf⟩, by simpa using List.mem_of_getElem? hx, by simp, fun j a b h1 h2 => ?_⟩
      have := (List.getElem?_eq_some_iff.1 h2).1
      simp at this
    · obtain ⟨i, y, hik, hy, hit, hh, ht⟩ := h.frm k x hx hf
      have hfy : fnd l x.frm = some y := by rw [← hit]; exact h.fnd_at hy
      obtain ⟨n, rfl⟩ : ∃ n', n = n' + 1 := ⟨n - 1, by omega⟩
      rw [orgs, if_neg hf, hfy]
      dsimp only
      have P := ih i hik y hy n (by omega)
      have hne : orgs l n y ≠ [] := by intro e; have := P.head; rw [e] at this; cases this
      refine ⟨rfl, by have := P.len; simp; omega, ?_, ?_, ?_, ?_⟩
      · obtain ⟨z, hz, hzf⟩ := P.last
        exact ⟨z, by rw [List.getLast?_cons_of_ne_nil hne]; exact hz, hzf⟩
      · intro z hz
        rcases List.mem_cons.1 hz with rfl | hz
        · exact List.mem_of_getElem? hx
        · exact P.mem z hz
      · intro z hz
        rcases List.mem_cons.1 hz with rfl | hz
        · rfl
        · rw [P.heat z hz, hh]
      · intro j a b h1 h2
        cases j with
        | zero =>
          simp at h1 h2
          subst h1
          have := P.head
          rw [List.head?_eq_getElem?, h2] at this
          have := Option.some.inj this
          subst this
          exact ⟨hit, ht⟩
        | succ j =>
          rw [List.getElem?_cons_succ] at h1 h2
          exact P.step j a b h1 h2
end Go.Proofs.YtjbegegjpepkjaaDoor
