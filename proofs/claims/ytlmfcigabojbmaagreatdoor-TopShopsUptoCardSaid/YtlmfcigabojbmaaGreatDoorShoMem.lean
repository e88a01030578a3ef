/- Jobs in memory (printed by wip/gen_shomem.py). -/
import Derived.Test.YtlmfcigabojbmaaGreatDoorDokMem
import Derived.Maps.OwnSet
import Derived.Maps.OwnOps
import Derived.Maps.Views
import Derived.Test.YtlmfcigabojbmaaGreatDoorShoO
import Derived.Test.YtlmfcigabojbmaaGreatDoorIdC
set_option linter.unusedSimpArgs false
set_option linter.unusedVariables false

/- Maps with strings for keys: what they hold, by a list of entries. -/
namespace Go.Proofs.YtlmfcigabojbmaaGreatDoor
open Go.RowKit Go.Maps

/-- an element reads as itself -/
def heldR : Value → Option (DataW Value × List MemPlace) := fun v => some (.held v, [])
abbrev KV := List (List UInt8 × Value)
def hasE (E : KV) (s : List UInt8) : Bool := E.any fun p => p.1 == s
def getE (E : KV) (s : List UInt8) (z : Value) : Value := (E.find? fun p => p.1 == s).elim z (·.2)
structure VD (D : DataW Value) (E : KV) : Prop where
  tidy : Tidy D
  at_ : ∀ s z, D.atKey (.string s) (.held z) = .held (getE E s z)
  has : ∀ s, Maps.has D (.string s) = hasE E s
  len : Maps.size D = E.length
  nd : (E.map (·.1)).Nodup
theorem VD.nil : VD (.map []) [] := ⟨tidy_empty, fun _ _ => rfl, fun _ => rfl, rfl, List.nodup_nil⟩
theorem has_mem {E : KV} {s : List UInt8} : hasE E s = true ↔ s ∈ E.map (·.1) := by
  unfold hasE
  rw [List.any_eq_true, List.mem_map]
  exact ⟨fun ⟨p, h1, h2⟩ => ⟨p, h1, eq_of_beq h2⟩, fun ⟨p, h1, h2⟩ => ⟨p, h1, beq_iff_eq.2 h2⟩⟩
theorem not_has {E : KV} {s : List UInt8} : hasE E s = false ↔ s ∉ E.map (·.1) := by rw [← has_mem]; simp
theorem keyLit {s : List UInt8} : WideAt.IsKeyLit (.string s) := by constructor
theorem lit_ne {s t : List UInt8} (h : s ≠ t) : (Lit.string s) ≠ .string t := fun e => h (by cases e; rfl)
theorem VD.put {D : DataW Value} {E : KV} (h : VD D E) {s : List UInt8} (hn : hasE E s = false) (v : Value) : VD (D.put (.string s) (.held v)) (E ++ [(s, v)]) := by
  refine ⟨h.tidy.put keyLit _, fun t z => ?_, fun t => ?_, ?_, ?_⟩
  · by_cases e : t = s
    · subst e
      rw [atKey_put_same h.tidy.isMap keyLit]
      unfold getE
      rw [List.find?_append, List.find?_eq_none.2 (fun p hp => by
        intro e; have := not_has.1 hn; exact this (List.mem_map.2 ⟨p, hp, eq_of_beq e⟩))]
      simp
    · rw [atKey_put_other (lit_ne e), h.at_]
      unfold getE
      rw [List.find?_append]
      cases E.find? (fun p => p.1 == t) with
      | some p => rfl
      | none => simp [Ne.symm e]
  · by_cases e : t = s
    · subst e; rw [has_put_same h.tidy.isMap keyLit]; unfold hasE; simp
    · rw [has_put_other (lit_ne e), h.has]; unfold hasE; simp [Ne.symm e]
  · rw [size_put h.tidy, h.has, hn, if_neg (by decide), h.len]; simp
  · rw [List.map_append]
    exact List.nodup_append.2 ⟨h.nd, by simp, fun x hx y hy => by simp at hy; subst hy; intro e; subst e; exact not_has.1 hn hx⟩
theorem VD.del {D : DataW Value} {E : KV} (h : VD D E) {s : List UInt8} (hs : hasE E s = true) : VD (D.del (.string s)) (E.filter fun p => !(p.1 == s)) ∧ (E.filter fun p => !(p.1 == s)).length + 1 = E.length := by
  have hl := size_del (k := .string s) h.tidy
  rw [h.has, hs, if_pos rfl, h.len] at hl
  have hc : (E.filter fun p => !(p.1 == s)).length + 1 = E.length := by
    have nd := h.nd
    have hm := has_mem.1 hs
    clear hl hs h
    induction E with
    | nil => simp at hm
    | cons p E ih =>
      rw [List.map_cons, List.nodup_cons] at nd
      by_cases e : p.1 = s
      · have : E.filter (fun p => !(p.1 == s)) = E := List.filter_eq_self.2 fun q hq => by
          have : q.1 ≠ s := fun e2 => nd.1 (by rw [e, ← e2]; exact List.mem_map_of_mem hq)
          simp [this]
        rw [List.filter_cons, if_neg (by simp [e]), this]; rfl
      · rw [List.map_cons, List.mem_cons] at hm
        rw [List.filter_cons, if_pos (by simp [e])]
        have := ih nd.2 (hm.resolve_left (Ne.symm e))
        simp only [List.length_cons]; omega
  refine ⟨⟨h.tidy.del _, fun t z => ?_, fun t => ?_, by omega, ?_⟩, hc⟩
  · by_cases e : t = s
    · subst e
      rw [atKey_del_same]
      unfold getE
      rw [List.find?_filter, List.find?_eq_none.2 (fun p _ => by simp)]
      rfl
    · rw [atKey_del_other (lit_ne e), h.at_]
      unfold getE
      rw [List.find?_filter]
      have : (fun p : List UInt8 × Value => decide ((!(p.1 == s)) = true ∧ (p.1 == t) = true)) = fun p => p.1 == t := by
        funext p
        by_cases e2 : p.1 = t
        · simp [e2, e]
        · simp [e2]
      simp only [this]
  · by_cases e : t = s
    · subst e
      rw [has_del_same]; symm
      unfold hasE; rw [List.any_filter, List.any_eq_false]; intro p _; simp
    · rw [has_del_other (lit_ne e), h.has]
      unfold hasE
      rw [List.any_filter]
      congr 1
      funext p
      by_cases e2 : p.1 = t
      · simp [e2, e]
      · simp [e2]
  · exact (h.nd.sublist (List.Sublist.map _ List.filter_sublist))
/-- block b is a map (of at most n entries) that holds these -/
def VM (w : World) (b n : Nat) (E : KV) : Prop := ∃ D, w.ownsMap Tryz.prog 9 heldR b n D ∧ VD D E
theorem keyK : Keyed Tryz.prog 9 := string_keyed Tryz.underlying9
theorem key_of {s : List UInt8} (h : s.length ≤ maxLen) : keyOf Tryz.prog 9 (.string (bs s)) = some (.string s) := by
  have := Go.WideMaps.keyOf_string_mk (P := Tryz.prog) Tryz.underlying9 (s := bs s) (by rw [bs_size]; exact h)
  rwa [bs_list] at this
theorem VM.made (w : World) : VM (w.alloc (.map #[] 0)) w.heap.size 0 [] := ⟨.map [], World.ownsMap_made w _ _ _, .nil⟩
theorem VM.lt {w : World} {b n : Nat} {E : KV} (h : VM w b n E) : b < w.heap.size := by obtain ⟨D, h1, _⟩ := h; exact h1.lt
theorem VM.keep {w w' : World} {b n : Nat} {E : KV} (h : VM w b n E) (hb : Below w.heap.size w w') : VM w' b n E := by
  obtain ⟨D, ⟨es, clock, h1, r⟩, h2⟩ := h
  exact ⟨D, ⟨es, clock, by rw [hb.block b (Array.getElem?_eq_some_iff.1 h1).1]; exact h1, r⟩, h2⟩
theorem VM.kept {w w' : World} {b n : Nat} {E : KV} {row : Option Nat} (h : VM w b n E) (hg : w.grownBy w' row) (hne : some b ≠ row) : VM w' b n E := by
  obtain ⟨D, h1, h2⟩ := h; exact ⟨D, h1.kept hg hne, h2⟩
theorem VM.mono {w : World} {b n n' : Nat} {E : KV} (h : VM w b n E) (hn : n ≤ n') : VM w b n' E := by
  obtain ⟨D, h1, h2⟩ := h; exact ⟨D, h1.mono hn, h2⟩
theorem VM.setCell {w : World} {b n : Nat} {E : KV} (h : VM w b n E) {a : Addr} (ha : b ≠ a.block) (u : Value) : VM (w.setCell a u) b n E := by
  obtain ⟨D, h1, h2⟩ := h; exact ⟨D, h1.setCell ha u, h2⟩
theorem turned_below {B : Nat} {w0 w w' : World} {b : Nat} (hb : Below B w0 w) (ht : w.mapTurned w' b) (h : B ≤ b) : Below B w0 w' := hb.grown ht.grown (by obtain ⟨es, c, _, _, e, _⟩ := ht; have := (Array.getElem?_eq_some_iff.1 e).1; omega) (fun q hq => by cases hq; exact h)
section
variable {w : World} {b n : Nat} {E : KV} {s : List UInt8} {t e : TypeId}
theorem VM.look (h : VM w b n E) (ht : Tryz.prog.underlying t = some (.map 9 e)) {z : Value} (hz : (zeroValue e).run Tryz.prog w = .ok z w) (hs : s.length ≤ maxLen) :
    (Instr.lookup t (.map (some b)) (.string (bs s)) true).run Tryz.prog w = .ok (.tuple #[getE E s z, .bool (hasE E s)]) w := by
  obtain ⟨D, h1, h2⟩ := h
  obtain ⟨v, ps, hr, hv⟩ := h1.look_ok keyK ht hz (zd := .held z) (zp := []) rfl (key_of hs)
  rw [h2.at_, h2.has] at *
  have : v = getE E s z := by unfold heldR at hv; simpa using congrArg Prod.fst (Option.some.inj hv)
  rw [hr, this]
theorem VM.look1 (h : VM w b n E) (ht : Tryz.prog.underlying t = some (.map 9 e)) {z : Value} (hz : (zeroValue e).run Tryz.prog w = .ok z w) (hs : s.length ≤ maxLen) :
    (Instr.lookup t (.map (some b)) (.string (bs s)) false).run Tryz.prog w = .ok (getE E s z) w := by
  obtain ⟨D, h1, h2⟩ := h
  obtain ⟨v, ps, hr, hv⟩ := h1.lookup keyK ht hz (zd := .held z) (zp := []) rfl (key_of hs)
  rw [h2.at_] at hv
  have : v = getE E s z := by unfold heldR at hv; simpa using congrArg Prod.fst (Option.some.inj hv)
  rw [hr, this]
theorem VM.len (h : VM w b n E) (ht : Tryz.prog.underlying t = some (.map 9 e)) (ty : TypeId) : (Builtin.len_ #[t] ty #[.map (some b)]).run Tryz.prog w = .ok (.int .i64 E.length) w := by
  obtain ⟨D, h1, h2⟩ := h
  rw [h1.len ht ty, h2.len]
theorem VM.store (h : VM w b n E) (ht : Tryz.prog.underlying t = some (.map 9 e)) (hn : n < maxLen) (hs : s.length ≤ maxLen) (hh : hasE E s = false) (v : Value) :
    ∃ w', (Instr.mapUpdate t (.map (some b)) (.string (bs s)) v).run Tryz.prog w = .ok () w' ∧ VM w' b (n + 1) (E ++ [(s, v)]) ∧ w.mapTurned w' b := by
  obtain ⟨D, h1, h2⟩ := h
  obtain ⟨w', hr, h3, h4⟩ := h1.store keyK ht hn (key_of hs) (val := v) (d := .held v) (ps := []) rfl
  exact ⟨w', hr, ⟨_, h3, h2.put hh v⟩, h4⟩
theorem VM.drop (h : VM w b n E) (ht : Tryz.prog.underlying t = some (.map 9 e)) (hs : s.length ≤ maxLen) (hh : hasE E s = true) (ty : TypeId) :
    ∃ w', (Builtin.delete_ #[t, 9] ty #[.map (some b), .string (bs s)]).run Tryz.prog w = .ok (.tuple #[]) w' ∧ VM w' b n (E.filter fun p => !(p.1 == s)) ∧ w.mapTurned w' b := by
  obtain ⟨D, h1, h2⟩ := h
  obtain ⟨w', hr, h3, h4⟩ := h1.drop keyK ht (key_of hs) ty
  exact ⟨w', hr, ⟨_, h3, (h2.del hh).1⟩, h4⟩
theorem VM.nd (h : VM w b n E) : (E.map (·.1)).Nodup := by obtain ⟨D, _, h2⟩ := h; exact h2.nd
end
end Go.Proofs.YtlmfcigabojbmaaGreatDoor

/- Jobs in memory (printed by wip/gen_shomem.py). -/
namespace Go.Proofs.YtlmfcigabojbmaaGreatDoor
open Go.RowKit

/-- a job with the slice of those ahead of it -/
structure MW where
  w : Wrk
  av : Value
instance : Inhabited MW := ⟨⟨default, .slice none 0 0⟩⟩
def mri (l : List MW) (k : Nat) : MW := l.getD k default
def wl (l : List MW) : List Wrk := l.map (·.w)
theorem wl_len (l : List MW) : (wl l).length = l.length := by simp [wl]
/-- those slices read as what the jobs say -/
def Aft (w : World) (l : List MW) : Prop := ∀ m ∈ l, SZ w m.av (m.w.after.map bs)
theorem Aft.keep {w w' : World} {l : List MW} (h : Aft w l) (hb : Below w.heap.size w w') : Aft w' l := fun m hm => (h m hm).keep hb
theorem Aft.of {w : World} {l l' : List MW} (h : Aft w l) (hs : ∀ m ∈ l', m ∈ l) : Aft w l' := fun m hm => h m (hs m hm)
theorem zi_bs {l : List (List UInt8)} {k : Nat} (h : k < l.length) : zi (l.map bs) k = bs l[k] := by simp [zi, h]

/-! MW -/
def wkCells (x : MW) : List Value := [.string (bs x.w.id), .int .i64 x.w.hours, .int .i64 x.w.len, .int .i64 x.w.wid, x.av]
theorem wkCells_len (x : MW) : (wkCells x).length = 5 := rfl
theorem mri_lt {l : List MW} {k : Nat} (h : k < l.length) : mri l k = l[k] := by simp [mri, h]
theorem mri_mem {l : List MW} {k : Nat} (h : k < l.length) : mri l k ∈ l := by rw [mri_lt h]; exact List.getElem_mem h
theorem mem_mri {l : List MW} {x : MW} (h : x ∈ l) : ∃ k, k < l.length ∧ mri l k = x := by
  obtain ⟨k, hk, rfl⟩ := List.mem_iff_getElem.1 h; exact ⟨k, hk, mri_lt hk⟩
theorem take_mri {l : List MW} {k : Nat} (h : k < l.length) : l.take (k + 1) = l.take k ++ [mri l k] := by
  rw [List.take_succ_eq_append_getElem h, mri_lt h]
theorem mri_take {l : List MW} {k n : Nat} (h : k < n) : mri (l.take n) k = mri l k := by
  simp [mri, List.getElem?_take, h]
structure WkAt (w : World) (b off : Nat) (x : MW) : Prop where
  c0 : w.cell? ⟨b, off, none⟩ = some (.string (bs x.w.id))
  c1 : w.cell? ⟨b, off + 1, none⟩ = some (.int .i64 x.w.hours)
  c2 : w.cell? ⟨b, off + 2, none⟩ = some (.int .i64 x.w.len)
  c3 : w.cell? ⟨b, off + 3, none⟩ = some (.int .i64 x.w.wid)
  c4 : w.cell? ⟨b, off + 4, none⟩ = some (x.av)
theorem WkAt.keep {w w' : World} {b off : Nat} {x : MW} (h : WkAt w b off x) (hb : Below w.heap.size w w') : WkAt w' b off x := ⟨cell_keep hb h.c0, cell_keep hb h.c1, cell_keep hb h.c2, cell_keep hb h.c3, cell_keep hb h.c4⟩
/-- a slice that reads as such a list -/
def SWk (w : World) (v : Value) (l : List MW) : Prop :=
  ∃ a cap, v = .slice a l.length cap ∧ l.length ≤ cap ∧ cap ≤ maxLen ∧ ∀ i, i < l.length → ∃ b off, a = some ⟨b, off, none⟩ ∧ WkAt w b (off + i * 5) (mri l i)
theorem SWk.keep {w w' : World} {v : Value} {l : List MW} (h : SWk w v l) (hb : Below w.heap.size w w') : SWk w' v l := by
  obtain ⟨a, cap, rfl, h1, h2, h3⟩ := h
  exact ⟨a, cap, rfl, h1, h2, fun i hi => by obtain ⟨b, off, ha, hc⟩ := h3 i hi; exact ⟨b, off, ha, hc.keep hb⟩⟩
theorem SWk.len {w : World} {v : Value} {l : List MW} (h : SWk w v l) : l.length ≤ maxLen := by obtain ⟨a, cap, _, h1, h2, _⟩ := h; omega
theorem SWk_nil (w : World) : SWk w (.slice none 0 0) [] := ⟨none, 0, rfl, Nat.le_refl _, Nat.zero_le _, fun i hi => by simp at hi⟩
theorem SWk.form {w : World} {v : Value} {l : List MW} (h : SWk w v l) (hl : 1 ≤ l.length) : ∃ b off cap, v = .slice (some ⟨b, off, none⟩) l.length cap ∧ l.length ≤ cap ∧ cap ≤ maxLen ∧ b < w.heap.size ∧ ∀ i, i < l.length → WkAt w b (off + i * 5) (mri l i) := by
  obtain ⟨a, cap, rfl, h1, h2, h3⟩ := h
  obtain ⟨b, off, rfl, hc⟩ := h3 0 (by omega)
  refine ⟨b, off, cap, rfl, h1, h2, World.block_lt_of_cell? w _ hc.c0, fun i hi => ?_⟩
  obtain ⟨b', off', ha, hc'⟩ := h3 i hi
  have ha := Option.some.inj ha
  simp only [Addr.mk.injEq] at ha
  obtain ⟨rfl, rfl, _⟩ := ha
  exact hc'
theorem SWk.take {w : World} {a : Option Addr} {n cap : Nat} {l : List MW} (h : SWk w (.slice a n cap) l) (k : Nat) (hk : k ≤ l.length) : SWk w (.slice a k cap) (l.take k) := by
  obtain ⟨a', cap', he, h1, h2, h3⟩ := h
  simp at he
  obtain ⟨rfl, rfl, rfl⟩ := he
  have hl : (l.take k).length = k := by simp; omega
  refine ⟨a, cap, by rw [hl], by omega, h2, fun i hi => ?_⟩
  rw [hl] at hi
  obtain ⟨b, off, ha, hc⟩ := h3 i (by omega)
  exact ⟨b, off, ha, by rw [mri_take hi]; exact hc⟩
theorem SWk.at {w : World} {a : Option Addr} {n cap : Nat} {l : List MW} (h : SWk w (.slice a n cap) l) {i : Nat} (hi : i < l.length) : ∃ b off, a = some ⟨b, off, none⟩ ∧ WkAt w b (off + i * 5) (mri l i) := by
  obtain ⟨a', cap', he, h1, h2, h3⟩ := h
  simp at he
  obtain ⟨rfl, rfl, rfl⟩ := he
  exact h3 i hi
theorem SWk.n {w : World} {a : Option Addr} {n cap : Nat} {l : List MW} (h : SWk w (.slice a n cap) l) : n = l.length := by
  obtain ⟨a', cap', he, _⟩ := h
  simp at he
  exact he.2.1
def OwnWk (w : World) (B : Nat) (v : Value) (l : List MW) : Prop := w.ownsRow B 44 5 v l.length (l.flatMap wkCells)
theorem OwnWk_nil (w : World) (B : Nat) : OwnWk w B (.slice none 0 0) [] := World.ownsRow_nil _ _ _ _
theorem OwnWk.below {w w' : World} {B : Nat} {v : Value} {l : List MW} (h : OwnWk w B v l) (hb : Below w.heap.size w w') : OwnWk w' B v l := owns_below h hb
theorem OwnWk.alloc {w : World} {B : Nat} {v : Value} {l : List MW} (h : OwnWk w B v l) (o : Obj) : OwnWk (w.alloc o) B v l := World.ownsRow.alloc h o
theorem OwnWk.mono {w : World} {B B' : Nat} {v : Value} {l : List MW} (h : OwnWk w B v l) (hb : B' ≤ B) : OwnWk w B' v l := owns_mono h hb
theorem OwnWk.lt {w : World} {B : Nat} {v : Value} {l : List MW} (h : OwnWk w B v l) (k : Nat) (hk : v.ownBlock = some k) : B ≤ k ∧ k < w.heap.size := World.ownsRow.lt h k hk
theorem OwnWk.at {w : World} {B g n cap : Nat} {l : List MW} (h : OwnWk w B (.slice (some ⟨g, 0, none⟩) n cap) l) {i : Nat} (hi : i < l.length) : WkAt w g (i * 5) (mri l i) := by
  have h0 : w.ownsRow B 44 5 (.slice (some ⟨g, 0, none⟩) n cap) l.length (l.flatMap wkCells) := h
  rcases own_flat_form h0 with ⟨hn, _⟩ | ⟨g', cap', he, _, _, _, _, hc⟩
  · cases hn
  · simp at he
    obtain ⟨rfl, _, _⟩ := he
    have key : ∀ j, j < 5 → w.cell? ⟨g, i * 5 + j, none⟩ = (wkCells (mri l i))[j]? := fun j hj => by
      rw [hc (i * 5 + j) (by omega), flat_get wkCells wkCells_len l i j hi hj, mri_lt hi]
    exact ⟨key 0 (by omega), key 1 (by omega), key 2 (by omega), key 3 (by omega), key 4 (by omega)⟩
theorem OwnWk.s {w : World} {B : Nat} {v : Value} {l : List MW} (h : OwnWk w B v l) : SWk w v l := by
  rcases own_flat_form h with ⟨rfl, rfl⟩ | ⟨g, cap, rfl, _, _, hn, hm, _⟩
  · exact SWk_nil w
  · exact ⟨_, cap, rfl, hn, hm, fun i hi => ⟨g, 0, rfl, by rw [Nat.zero_add]; exact OwnWk.at h hi⟩⟩

end Go.Proofs.YtlmfcigabojbmaaGreatDoor
