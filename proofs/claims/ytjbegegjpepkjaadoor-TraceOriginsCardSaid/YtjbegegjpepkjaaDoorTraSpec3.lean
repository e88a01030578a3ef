/- The full register (TraceFull), in plain Lean. -/
import Derived.Test.YtjbegegjpepkjaaDoorTraSpec2
namespace Go.Proofs.YtjbegegjpepkjaaDoor

def chF (n : Nat) : UInt8 := UInt8.ofNat (97 + n)
def idF (i : Nat) : List UInt8 := [97, chF (i / 512), chF (i / 32 % 16), chF (i / 2 % 16), chF (i % 2)]
def frmF (i : Nat) : List UInt8 := if i = 0 then [] else idF (min (i - 1) 3)
def linksF : Nat → List Lnk
  | 0 => []
  | i + 1 => addL (linksF i) (idF i) (frmF i) [72] i
theorem chF_nat {n : Nat} (h : n < 26) : (chF n).toNat = 97 + n := by unfold chF; rw [UInt8.toNat_ofNat']; omega
theorem chF_let {n : Nat} (h : n < 26) : letC (chF n) = true := by
  have := chF_nat h
  unfold letC
  simp only [this, Bool.or_eq_true, Bool.and_eq_true, decide_eq_true_eq]
  omega
theorem let_ok {c : UInt8} (h : letC c = true) : okC c = true := by unfold okC; rw [h]; rfl
theorem nameF {i : Nat} (h : i < 8192) : nameB (idF i) = true := by
  have a1 := chF_let (n := i / 512) (by omega)
  have a2 := chF_let (n := i / 32 % 16) (by omega)
  have a3 := chF_let (n := i / 2 % 16) (by omega)
  have a4 := chF_let (n := i % 2) (by omega)
  have a0 : letC 97 = true := by decide
  unfold nameB idF
  simp [let_ok a1, let_ok a2, let_ok a3, let_ok a4, let_ok a0, a0]
theorem idF_ok {i : Nat} (h : i < 8192) : idB (idF i) = true := by
  have hn := nameF h
  rw [idB_names, cut_plain (nameB_dot hn)]
  unfold namesB
  have hn2 := hn
  unfold idF at hn2 ⊢
  simp [hn2, joinL]
theorem idF_inj {i j : Nat} (hi : i < 8192) (hj : j < 8192) (h : idF i = idF j) : i = j := by
  unfold idF at h
  simp only [List.cons.injEq, and_true, true_and] at h
  obtain ⟨h1, h2, h3, h4⟩ := h
  have h1 := congrArg UInt8.toNat h1
  have h2 := congrArg UInt8.toNat h2
  have h3 := congrArg UInt8.toNat h3
  have h4 := congrArg UInt8.toNat h4
  rw [chF_nat (by omega), chF_nat (by omega)] at h1 h2 h3 h4
  omega
structure FullP (i : Nat) (l : List Lnk) : Prop where
  len : l.length = min i 4096
  mem : ∀ x ∈ l, ∃ j, j < i ∧ x.item = idF j ∧ x.heat = [72] ∧ x.tm = j
  all : ∀ j, j < i → j < 4096 → ∃ x ∈ l, x.item = idF j
theorem FullP.err {i : Nat} {l : List Lnk} (h : FullP i l) (hi : i < 8192) : addE l (idF i) (frmF i) [72] i = if i < 4096 then 0 else 12 := by
  have hid := idF_ok hi
  have hnone : fnd l (idF i) = none := by
    cases hf : fnd l (idF i) with
    | none => rfl
    | some y =>
      obtain ⟨hm, e⟩ := fnd_mem hf
      obtain ⟨j, hj, e2, _⟩ := h.mem y hm
      have := idF_inj hi (by omega) (e.symm.trans e2)
      omega
  have hlen := h.len
  have hif : (if l.length < 4096 then (0 : Int) else 12) = if i < 4096 then 0 else 12 := by
    by_cases h1 : i < 4096
    · rw [if_pos h1, if_pos (by omega)]
    · rw [if_neg h1, if_neg (by omega)]
  unfold addE
  by_cases h0 : i = 0
  · have hf : frmF i = [] := by unfold frmF; rw [if_pos h0]
    rw [hf, if_neg (by rw [hid]; simp; decide), if_neg (by omega), hnone, if_neg (by simp), if_pos rfl, hif]
  · have hf : frmF i = idF (min (i - 1) 3) := by unfold frmF; rw [if_neg h0]
    have hne : frmF i ≠ [] := by rw [hf]; unfold idF; simp
    have hfo : idB (frmF i) = true := by rw [hf]; exact idF_ok (by omega)
    obtain ⟨x, hx, hxi⟩ := h.all (min (i - 1) 3) (by omega) (by omega)
    obtain ⟨y, hy⟩ : ∃ y, fnd l (frmF i) = some y := by
      cases hq : fnd l (frmF i) with
      | some y => exact ⟨y, rfl⟩
      | none => exact absurd (hxi.trans hf.symm) (fnd_none hq x hx)
    obtain ⟨hm, e⟩ := fnd_mem hy
    obtain ⟨j, hj, e2, e3, e4⟩ := h.mem y hm
    have hj2 := idF_inj (by omega) (by omega) ((hf.symm.trans e.symm).trans e2)
    rw [if_neg (by rw [hid, hfo]; simp; decide), if_neg (by omega), hnone, if_neg (by simp), if_neg hne, hy]
    dsimp only
    rw [if_neg (by rw [e4]; omega), if_neg (by rw [e3]; simp), hif]
theorem FullP.next {i : Nat} {l : List Lnk} (h : FullP i l) (hi : i < 8192) : FullP (i + 1) (addL l (idF i) (frmF i) [72] i) := by
  have he := h.err hi
  have hlen := h.len
  unfold addL
  by_cases h1 : i < 4096
  · rw [if_pos h1] at he
    rw [if_pos he]
    refine ⟨by simp; omega, ?_, ?_⟩
    · intro x hx
      rcases List.mem_append.1 hx with hx | hx
      · obtain ⟨j, hj, r⟩ := h.mem x hx; exact ⟨j, by omega, r⟩
      · rw [List.mem_singleton] at hx; subst hx
        exact ⟨i, by omega, rfl, rfl, rfl⟩
    · intro j hj hj2
      by_cases e : j = i
      · subst e; exact ⟨_, List.mem_append_right _ (List.mem_singleton_self _), rfl⟩
      · obtain ⟨x, hx, r⟩ := h.all j (by omega) hj2
        exact ⟨x, List.mem_append_left _ hx, r⟩
  · rw [if_neg h1] at he
    rw [if_neg (by rw [he]; omega)]
    refine ⟨by omega, ?_, ?_⟩
    · intro x hx; obtain ⟨j, hj, r⟩ := h.mem x hx; exact ⟨j, by omega, r⟩
    · intro j hj hj2; exact h.all j (by omega) hj2
theorem linksF_ok : ∀ i, i ≤ 8192 → FullP i (linksF i) := by
  intro i
  induction i with
  | zero => intro _; exact ⟨rfl, by simp [linksF], by omega⟩
  | succ i ih => intro h; exact (ih (by omega)).next (by omega)
end Go.Proofs.YtjbegegjpepkjaaDoor
