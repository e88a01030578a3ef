/- The builtin append of one row onto rows that the call owns. -/
import Derived.Test.YtlgepggmgfnneaaApp
namespace Go.Proofs.Ytlgepggmgfnneaa
open Go.RowKit

theorem wpList_app_row {ops : Array Oper} {rest : List Oper} {o : Oper} {a : Act} {Q : Exit → Act → World → Prop} {w : World} (hgd : o.guard = none) (s x : Operand)
    (ho : o.op = .call { callee := .builtin .append, args := #[s, x], argTypes := #[40, 40] })
    (B : Nat) (t v : Value) (rs : List (List Int)) (r : List Int) (e : TypeId) (hs : a.eval s = t) (hx : a.eval x = .slice (some ⟨w.heap.size, 0, none⟩) 1 1)
    (hown : OwnT w B t rs) (hr : OwnI w B v r) (h1c : v.oneCell' = true) (hlen : rs.length ≤ 1000000) (hb : B ≤ w.heap.size)
    (h : ∀ t' w', OwnT w' B t' (rs ++ [r]) → (w.alloc (.cells #[v] e)).grownBy w' t.ownBlock → (∀ k, t.ownBlock = some k → B ≤ k) → wpList Try.prog ops Q rest (a.put o.dst t') w') :
    wpList Try.prog ops Q (o :: rest) a (w.alloc (.cells #[v] e)) := by
  obtain ⟨i, hi, hz0, hz1, hz2⟩ := info_parts Try_infoInts
  obtain ⟨vs, ht1, ht2⟩ := hown
  refine wpList_append_own _ hgd s x 40 ho B 36 i (.slice none 0 0) 1 24 Try.underlying40 hi hz0 hz1 hz2 rfl (by decide) t rs.length vs hs (ht1.alloc _) ⟨w.heap.size, 0, none⟩ 1 1 [v] hx rfl (one_new _ _ _) (one_ok _ h1c) (by unfold maxLen; omega) (by omega) (by simp; omega) ?_
  intro t' w' hown' hgrow _
  exact h t' w' (OwnT.push (w1 := w.alloc (.cells #[v] e)) ht1 ht2 hr ((Below.refl _ _).alloc (Nat.le_refl _) _) hgrow hown') hgrow (fun k hk => (ht1.lt k hk).1)
end Go.Proofs.Ytlgepggmgfnneaa
