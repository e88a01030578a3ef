/- Slices of elements of whatever type that a call owns: the builtin append, reading back; strings. -/
import Derived.Test.YtlmfcigabojbmaaGreatDoorApp
import Derived.Laws.Rows
import Derived.Laws.Tables
set_option linter.unusedSimpArgs false
set_option linter.unusedVariables false
namespace Go.Proofs.YtlmfcigabojbmaaGreatDoor
open Go.RowKit

/-- the builtin append onto a row that the call owns -/
theorem wp_app_gen {o : Oper} {a : Act} {K : Act → World → Prop} {Q : Exit → Act → World → Prop} {w : World} (s x : Operand) (t e : TypeId)
    (ho : o.op = .call { callee := .builtin .append, args := #[s, x], argTypes := #[t, t] }) (i : TypeInfo) (z : Value) (size bytes : Nat) (ht : Tryz.prog.underlying t = some (.slice e)) (hi : Tryz.prog.info? e = some i) (hz : i.zero = some z)
    (hsize : i.size = size) (hby : i.bytes = bytes) (hzs : z.cells.size = size) (hsz : 0 < size)
    (B : Nat) (v : Value) (n : Nat) (xs : List Value) (hs : a.eval s = v) (hown : w.ownsRow B e size v n xs)
    (ad : Addr) (m c : Nat) (hx : a.eval x = .slice (some ad) m c) (news : List Value) (hl : news.length = m * size) (hnews : ∀ j u, news[j]? = some u → w.cell? (ad.add j) = some u) (h1 : ∀ u ∈ news, u.oneCell' = true)
    (h63 : n + m ≤ maxLen) (hbytes : (n + m) * bytes ≤ 140737488355328) (hb : B ≤ w.heap.size)
    (h : ∀ v' w', w'.ownsRow B e size v' (n + m) (xs ++ news) → w.grownBy w' v.ownBlock → (v'.ownBlock = v.ownBlock ∨ v'.ownBlock = some w.heap.size) → K (a.put o.dst v') w') : o.wp Tryz.prog a w K Q := by
  obtain ⟨v', w', hr, h2, h3, _, h4⟩ := run_append_own_at (P := Tryz.prog) w B t o.type e i z size bytes ht hi hz hsize hby hzs hsz v n xs hown ad m c news hl hnews h1 h63 hbytes hb
  unfold Oper.wp execOp
  simp only [ho, resolve, invoke, builtin, Sem.run_bind, Sem.run_pure, Result.andThen_ok, List.map_toArray, List.map_cons, List.map_nil, hs, hx, hr]
  exact h v' w' h2 h3 h4

/-! rows of elements of some cells each -/
theorem flat_len {T : Type} (f : T → List Value) {n : Nat} (hf : ∀ x, (f x).length = n) (xs : List T) : (xs.flatMap f).length = xs.length * n := by
  induction xs with
  | nil => simp
  | cons x xs ih => rw [List.flatMap_cons, List.length_append, ih, hf, List.length_cons, Nat.add_mul]; omega
theorem flat_get {T : Type} (f : T → List Value) {n : Nat} (hf : ∀ x, (f x).length = n) : ∀ (xs : List T) (i j : Nat) (h : i < xs.length), j < n → (xs.flatMap f)[i * n + j]? = (f xs[i])[j]? := by
  intro xs
  induction xs with
  | nil => intro i j h; simp at h
  | cons x xs ih =>
    intro i j h hj
    rw [List.flatMap_cons]
    cases i with
    | zero => rw [List.getElem?_append_left (by rw [hf]; omega)]; simp
    | succ i =>
      have hi : i < xs.length := by simpa using h
      have he : (i + 1) * n + j = (f x).length + (i * n + j) := by rw [hf, Nat.add_mul]; omega
      rw [he, List.getElem?_append_right (by omega), Nat.add_sub_cancel_left, ih i j hi hj]; simp
theorem own_flat_form {T : Type} {f : T → List Value} {sz : Nat} {w : World} {B : Nat} {e : TypeId} {v : Value} {xs : List T} (h : w.ownsRow B e sz v xs.length (xs.flatMap f)) :
    (v = .slice none 0 0 ∧ xs = []) ∨ ∃ g cap, v = .slice (some ⟨g, 0, none⟩) xs.length cap ∧ B ≤ g ∧ g < w.heap.size ∧ xs.length ≤ cap ∧ cap ≤ maxLen ∧ ∀ j, j < xs.length * sz → w.cell? ⟨g, j, none⟩ = (xs.flatMap f)[j]? := by
  have h0 := h
  rcases h.2 with ⟨rfl, hn⟩ | ⟨g, cap, cur, rfl, hb, hg, hn, hm, hs, ht⟩
  · exact .inl ⟨rfl, List.eq_nil_of_length_eq_zero hn⟩
  · exact .inr ⟨g, cap, rfl, hb, lt_of_block hg, hn, hm, fun j hj => h0.cellAt j hj⟩

/-! strings -/
def zi (ss : List ByteArray) (k : Nat) : ByteArray := ss.getD k .empty
theorem Tryz_infoStr : (Tryz.prog.info? 9).map (fun i => (i.zero, i.size, i.bytes)) = some (some (.string ⟨#[]⟩), 1, 16) := by kernel_rfl
def OwnZ (w : World) (B : Nat) (v : Value) (ss : List ByteArray) : Prop := w.ownsRow B 9 1 v ss.length (ss.map Value.string)
theorem OwnZ_nil (w : World) (B : Nat) : OwnZ w B (.slice none 0 0) [] := World.ownsRow_nil _ _ _ _
theorem OwnZ.below {w w' : World} {B : Nat} {v : Value} {r : List ByteArray} (h : OwnZ w B v r) (hb : Below w.heap.size w w') : OwnZ w' B v r := owns_below h hb
theorem OwnZ.lt {w : World} {B : Nat} {v : Value} {r : List ByteArray} (h : OwnZ w B v r) (k : Nat) (hk : v.ownBlock = some k) : B ≤ k ∧ k < w.heap.size := World.ownsRow.lt h k hk
theorem OwnZ.sl {w : World} {B : Nat} {v : Value} {ss : List ByteArray} (h : OwnZ w B v ss) : Sl w v ss.length fun i => .string (zi ss i) := by
  obtain ⟨a, cap, rfl, h1, h2, h3⟩ := Sl_of_owns h
  refine ⟨a, cap, rfl, h1, h2, fun i hi => ?_⟩
  obtain ⟨b, off, ha, hc⟩ := h3 i hi
  refine ⟨b, off, ha, ?_⟩
  rw [hc]
  simp [zi, hi]
/-- one string more -/
theorem wp_app_str {o : Oper} {a : Act} {K : Act → World → Prop} {Q : Exit → Act → World → Prop} {w : World} (s x : Operand)
    (ho : o.op = .call { callee := .builtin .append, args := #[s, x], argTypes := #[30, 30] }) (B : Nat) (v : Value) (ss : List ByteArray) (hs : a.eval s = v) (hown : OwnZ w B v ss)
    (g c : Nat) (y : ByteArray) (hx : a.eval x = .slice (some ⟨g, 0, none⟩) 1 c) (hy : w.cell? ⟨g, 0, none⟩ = some (.string y)) (hlen : ss.length ≤ 2000000) (hb : B ≤ w.heap.size)
    (h : ∀ v' w', OwnZ w' B v' (ss ++ [y]) → w.grownBy w' v.ownBlock → (v'.ownBlock = v.ownBlock ∨ v'.ownBlock = some w.heap.size) → K (a.put o.dst v') w') : o.wp Tryz.prog a w K Q := by
  obtain ⟨i, hi, hz0, hz1, hz2⟩ := info_parts Tryz_infoStr
  refine wp_app_gen s x 30 9 ho i (.string ⟨#[]⟩) 1 16 Tryz.underlying30 hi hz0 hz1 hz2 rfl (by decide) B v ss.length (ss.map Value.string) hs hown ⟨g, 0, none⟩ 1 c hx [.string y] rfl (fun j u hj => ?_) (fun u hu => ?_) (by unfold maxLen; omega) (by omega) hb fun v' w' h1 h2 h3 => h v' w' ?_ h2 h3
  · match j, hj with
    | 0, hj => simp at hj; subst hj; simpa [Addr.add] using hy
  · simp at hu; subst hu; rfl
  · unfold OwnZ
    rw [List.length_append, List.map_append]
    exact h1
end Go.Proofs.YtlmfcigabojbmaaGreatDoor
