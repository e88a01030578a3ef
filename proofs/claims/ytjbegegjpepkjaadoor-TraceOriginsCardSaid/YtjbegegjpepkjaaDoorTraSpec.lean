/- The register of links (trace), in plain Lean: what Add, Origin and Check answer. -/
import Derived.Test.YtjbegegjpepkjaaDoorIdSpec
import Derived.Lib.ItoaNum
namespace Go.Proofs.YtjbegegjpepkjaaDoor

structure Lnk where
  item : List UInt8
  frm : List UInt8
  heat : List UInt8
  tm : Int
  hash : Nat
instance : DecidableEq Lnk := fun a b => decidable_of_iff (a.item = b.item ∧ a.frm = b.frm ∧ a.heat = b.heat ∧ a.tm = b.tm ∧ a.hash = b.hash) (by cases a; cases b; simp)

/-- FNV-1a, 64 bits -/
def fnvL (l : List UInt8) : Nat := l.foldl (fun n c => (n ^^^ c.toNat) * 1099511628211 % 18446744073709551616) 14695981039346656037
def hexD (n : Nat) : UInt8 := if n < 10 then UInt8.ofNat (48 + n) else UInt8.ofNat (87 + n)
def hexL (n : Nat) : List UInt8 := (List.range 16).map fun i => hexD (n / 16 ^ (15 - i) % 16)
/-- the text that is hashed -/
def linkT (item frm heat : List UInt8) (tm : Int) (org : Nat) : List UInt8 := item ++ 10 :: (frm ++ 10 :: (heat ++ 10 :: (Lib.decDigits tm.toNat ++ 10 :: hexL org)))
def fnd (l : List Lnk) (x : List UInt8) : Option Lnk := l.find? fun y => y.item == x
def orgH (l : List Lnk) (frm : List UInt8) : Nat := match fnd l frm with
  | some y => y.hash
  | none => 0
/-- the error of adding -/
def addE (l : List Lnk) (item frm heat : List UInt8) (tm : Int) : Int :=
  if idB item = false ∨ (frm ≠ [] ∧ idB frm = false) ∨ nameB heat = false then 6 else
  if tm < 0 ∨ 1048576 < tm then 15 else
  if (fnd l item).isSome then 7 else
  if frm = [] then (if l.length < 4096 then 0 else 12) else
  match fnd l frm with
  | none => 8
  | some y => if tm < y.tm then 15 else if heat ≠ y.heat then 31 else if l.length < 4096 then 0 else 12
def newL (l : List Lnk) (item frm heat : List UInt8) (tm : Int) : Lnk := ⟨item, frm, heat, tm, fnvL (linkT item frm heat tm (orgH l frm))⟩
def addL (l : List Lnk) (item frm heat : List UInt8) (tm : Int) : List Lnk := if addE l item frm heat tm = 0 then l ++ [newL l item frm heat tm] else l
/-- check: link by link -/
def chkE : List Lnk → List Lnk → Int
  | _, [] => 0
  | l, x :: r => if addE l x.item x.frm x.heat x.tm = 0 then (if (newL l x.item x.frm x.heat x.tm).hash = x.hash then chkE (l ++ [x]) r else 16) else addE l x.item x.frm x.heat x.tm
def checkL (l : List Lnk) : Int := chkE [] l
/-- the origin, back to the heat -/
def orgs (l : List Lnk) : Nat → Lnk → List Lnk
  | 0, x => [x]
  | n + 1, x => if x.frm = [] then [x] else match fnd l x.frm with
    | some y => x :: orgs l n y
    | none => [x]

/-- what holds of every register -/
structure RegP (l : List Lnk) : Prop where
  id : ∀ (k : Nat) x, l[k]? = some x → idB x.item = true
  uniq : ∀ (i j : Nat) x y, l[i]? = some x → l[j]? = some y → x.item = y.item → i = j
  frm : ∀ (k : Nat) x, l[k]? = some x → x.frm ≠ [] → ∃ (i : Nat) (y : Lnk), i < k ∧ l[i]? = some y ∧ y.item = x.frm ∧ y.heat = x.heat ∧ y.tm ≤ x.tm
theorem RegP.nil : RegP [] := ⟨by simp, by simp, by simp⟩
theorem idB_nil : idB [] = false := by decide
theorem fnd_mem {l : List Lnk} {x : List UInt8} {y : Lnk} (h : fnd l x = some y) : y ∈ l ∧ y.item = x := by
  unfold fnd at h
  exact ⟨List.mem_of_find?_eq_some h, by simpa using List.find?_some h⟩
theorem fnd_none {l : List Lnk} {x : List UInt8} (h : fnd l x = none) : ∀ y ∈ l, y.item ≠ x := by
  intro y hy e
  unfold fnd at h
  rw [List.find?_eq_none] at h
  exact h y hy (by simpa using e)
theorem RegP.fnd_at {l : List Lnk} (h : RegP l) {i : Nat} {y : Lnk} (hi : l[i]? = some y) : fnd l y.item = some y := by
  cases hf : fnd l y.item with
  | none => exact absurd rfl (fnd_none hf y (List.mem_of_getElem? hi))
  | some z =>
    obtain ⟨hz, e⟩ := fnd_mem hf
    obtain ⟨j, hj⟩ := List.getElem?_of_mem hz
    have := h.uniq j i z y hj hi e
    subst this
    rw [hj] at hi
    rw [Option.some.inj hi]
theorem RegP.no_empty {l : List Lnk} (h : RegP l) : fnd l [] = none := by
  cases hf : fnd l [] with
  | none => rfl
  | some z =>
    obtain ⟨hz, e⟩ := fnd_mem hf
    obtain ⟨j, hj⟩ := List.getElem?_of_mem hz
    have := h.id j z hj
    rw [e, idB_nil] at this; cases this
theorem addE_zero {l : List Lnk} {item frm heat : List UInt8} {tm : Int} (h : addE l item frm heat tm = 0) :
    idB item = true ∧ fnd l item = none ∧ l.length < 4096 ∧ (frm ≠ [] → ∃ y, fnd l frm = some y ∧ y.heat = heat ∧ y.tm ≤ tm) := by
  unfold addE at h
  by_cases h1 : idB item = false ∨ (frm ≠ [] ∧ idB frm = false) ∨ nameB heat = false
  · rw [if_pos h1] at h; omega
  rw [if_neg h1] at h
  by_cases h2 : tm < 0 ∨ 1048576 < tm
  · rw [if_pos h2] at h; omega
  rw [if_neg h2] at h
  by_cases h3 : (fnd l item).isSome
  · rw [if_pos h3] at h; omega
  rw [if_neg h3] at h
  have hi : idB item = true := by cases e : idB item with | true => rfl | false => exact absurd (.inl e) h1
  have hn : fnd l item = none := by cases e : fnd l item with | none => rfl | some y => rw [e] at h3; exact absurd rfl h3
  by_cases h4 : frm = []
  · rw [if_pos h4] at h
    by_cases h5 : l.length < 4096
    · exact ⟨hi, hn, h5, fun h => absurd h4 h⟩
    · rw [if_neg h5] at h; omega
  · rw [if_neg h4] at h
    cases hf : fnd l frm with
    | none => rw [hf] at h; dsimp only at h; omega
    | some y =>
      rw [hf] at h
      dsimp only at h
      by_cases h5 : tm < y.tm
      · rw [if_pos h5] at h; omega
      rw [if_neg h5] at h
      by_cases h6 : heat ≠ y.heat
      · rw [if_pos h6] at h; omega
      rw [if_neg h6] at h
      by_cases h7 : l.length < 4096
      · exact ⟨hi, hn, h7, fun _ => ⟨y, rfl, by simpa using Eq.symm (Classical.not_not.1 h6), by omega⟩⟩
      · rw [if_neg h7] at h; omega
theorem RegP.add {l : List Lnk} (h : RegP l) {item frm heat : List UInt8} {tm : Int} (e : addE l item frm heat tm = 0) : RegP (l ++ [newL l item frm heat tm]) := by
  obtain ⟨hi, hn, _, hf⟩ := addE_zero e
  have at_ : ∀ (k : Nat) x, (l ++ [newL l item frm heat tm])[k]? = some x → (l[k]? = some x ∧ k < l.length) ∨ (k = l.length ∧ x = newL l item frm heat tm) := by
    intro k x hk
    by_cases hlt : k < l.length
    · rw [List.getElem?_append_left hlt] at hk; exact .inl ⟨hk, hlt⟩
    · rw [List.getElem?_append_right (by omega)] at hk
      right
      have : k - l.length = 0 := by
        have := (List.getElem?_eq_some_iff.1 hk).1
        simp at this; omega
      rw [this] at hk
      simp at hk
      exact ⟨by omega, hk.symm⟩
  refine ⟨fun k x hk => ?_, fun i j x y hx hy exy => ?_, fun k x hk hne => ?_⟩
  · rcases at_ k x hk with ⟨h1, _⟩ | ⟨_, rfl⟩
    · exact h.id k x h1
    · exact hi
  · rcases at_ i x hx with ⟨h1, l1⟩ | ⟨e1, rfl⟩ <;> rcases at_ j y hy with ⟨h2, l2⟩ | ⟨e2, rfl⟩
    · exact h.uniq i j x y h1 h2 exy
    · exact absurd exy (fnd_none hn x (List.mem_of_getElem? h1))
    · exact absurd exy.symm (fnd_none hn y (List.mem_of_getElem? h2))
    · omega
  · rcases at_ k x hk with ⟨h1, l1⟩ | ⟨e1, rfl⟩
    · obtain ⟨i, y, hik, hy, r⟩ := h.frm k x h1 hne
      exact ⟨i, y, hik, by rw [List.getElem?_append_left (by omega)]; exact hy, r⟩
    · obtain ⟨y, hy, hh, ht⟩ := hf hne
      obtain ⟨hm, hit⟩ := fnd_mem hy
      obtain ⟨i, hi'⟩ := List.getElem?_of_mem hm
      have hil := (List.getElem?_eq_some_iff.1 hi').1
      exact ⟨i, y, by omega, by rw [List.getElem?_append_left hil]; exact hi', hit, hh, ht⟩
theorem RegP.addL {l : List Lnk} (h : RegP l) (item frm heat : List UInt8) (tm : Int) : RegP (addL l item frm heat tm) := by
  unfold Proofs.YtjbegegjpepkjaaDoor.addL
  split
  · rename_i e; exact h.add e
  · exact h
end Go.Proofs.YtjbegegjpepkjaaDoor
