/- The statement BarsChecks: for every input the law returns true, and each argument reads afterwards as it did. -/
import Derived.Test.YtlgepggmgfnneaaBarLB
import Derived.Test.YtlgepggmgfnneaaBarK
import Derived.Deep.RegionHeld3
import Derived.Test.YtlgepggmgfnneaaBase
import Derived.Test.YtlgepggmgfnneaaRows
import Derived.ProofKit
import Derived.OpenShut
import Derived.ChangeOld
import Derived.Below
import Derived.Deep.Matrix
import Derived.Deep.Slices
import Derived.ChangeArms
import Derived.Test.YtlgepggmgfnneaaBarE

/- The law BarsChecks. -/
namespace Go.Proofs.Ytlgepggmgfnneaa
open Go.RowKit

/-- the cells of a cutting plan, its bar and the parts -/
structure BoxC (w : World) (X : Nat) (s : SawD) (v : Value) (b : BarI) (vp : Value) : Prop where
  c0 : w.cell? ⟨X, 0, none⟩ = some (.string s.bar)
  c1 : w.cell? ⟨X, 1, none⟩ = some (.int .i64 s.kerf)
  c2 : w.cell? ⟨X, 2, none⟩ = some v
  c3 : w.cell? ⟨X, 3, none⟩ = some (.string b.id)
  c4 : w.cell? ⟨X, 4, none⟩ = some (.string b.sec)
  c5 : w.cell? ⟨X, 5, none⟩ = some (.string b.grade)
  c6 : w.cell? ⟨X, 6, none⟩ = some (.int .i64 b.len)
  c7 : w.cell? ⟨X, 7, none⟩ = some b.heat
  c8 : w.cell? ⟨X, 8, none⟩ = some vp
theorem BoxC.keep {w w' : World} {X : Nat} {s : SawD} {v vp : Value} {b : BarI} (h : BoxC w X s v b vp) (hb : Below w.heap.size w w') : BoxC w' X s v b vp :=
  ⟨cell_keep hb h.c0, cell_keep hb h.c1, cell_keep hb h.c2, cell_keep hb h.c3, cell_keep hb h.c4, cell_keep hb h.c5, cell_keep hb h.c6, cell_keep hb h.c7, cell_keep hb h.c8⟩

set_option maxRecDepth 100000 in
set_option maxHeartbeats 4000000 in
theorem checks_law (v vp : Value) (s : SawD) (b : BarI) (ps : List PartD) (w : World) (hs : SStr w v s.parts) (hp : SP w vp ps) (hbl : b.len ≤ 9223372036854775807) :
    Calls Try.prog 3 #[.agg #[.string s.bar, .int .i64 s.kerf, v, .string b.id, .string b.sec, .string b.grade, .int .i64 b.len, b.heat, vp]] w (Law w) := by
  have HS := Lib.hid hs
  have HP := Lib.hid hp
  have HA : Hid (.agg #[.string s.bar, .int .i64 s.kerf, v] = s.agg v) := rfl
  have HAB : Hid (.agg #[.string b.id, .string b.sec, .string b.grade, .int .i64 b.len, b.heat] = b.agg) := rfl
  have HBX : Hid (BoxC (w.alloc (.cells #[.string s.bar, .int .i64 s.kerf, v, .string b.id, .string b.sec, .string b.grade, .int .i64 b.len, b.heat, vp] 29)) w.heap.size s v b vp) := by
    constructor <;> simp
  have HB0 := Lib.hid ((Below.refl w.heap.size w).alloc (Nat.le_refl _) (.cells #[.string s.bar, .int .i64 s.kerf, v, .string b.id, .string b.sec, .string b.grade, .int .i64 b.len, b.heat, vp] 29))
  obtain ⟨a, cap, rfl, h1, h2, h3⟩ := hs
  obtain ⟨ap, capp, rfl, p1, p2, p3⟩ := hp
  clear h3 p3
  have hm : s.parts.length ≤ 9223372036854775807 := by unfold maxLen at h2; omega
  have hmp : ps.length ≤ 9223372036854775807 := by unfold maxLen at p2; omega
  by_cases hl : 60 < s.parts.length ∨ 60 < ps.length
  · have hlb : decide ((60 : Int) < s.parts.length) = true ∨ decide ((60 : Int) < ps.length) = true := by rcases hl with h | h; left; rw [decide_eq_true_eq]; omega; right; rw [decide_eq_true_eq]; omega
    clear hl
    go_enter Try.func3, Try.ntmps3
    rcases hlb with hlb | hlb
    all_goals
      go_wp2_with fail
      all_goals
        refine (awake_any _).mono ?_
        rintro e w2 ⟨rfl, hb⟩
        go_wp2_with fail
        go_ret
        exact law_of rfl HB0.out hb
  have hlb : decide ((60 : Int) < s.parts.length) = false := by rw [decide_eq_false_iff_not]; omega
  have hlc : decide ((60 : Int) < ps.length) = false := by rw [decide_eq_false_iff_not]; omega
  clear hl
  go_enter Try.func3, Try.ntmps3
  go_wp2_with fail
  generalize w.alloc (.cells #[.string s.bar, .int .i64 s.kerf, .slice a s.parts.length cap, .string b.id, .string b.sec, .string b.grade, .int .i64 b.len, b.heat, .slice ap ps.length capp] 29) = w0 at *
  rw [HA.out, HAB.out]
  refine (Offcut_any _ _ s b ps _ (HS.out.keep HB0.out) (HP.out.keep HB0.out) hbl).mono ?_
  rintro e w1 ⟨rfl, hb⟩
  have HB1 := Lib.hid (ext_trans HB0.out hb)
  have HX1 := Lib.hid (HBX.out.keep hb)
  clear hb
  obtain ⟨c0, c1, c2, c3, c4, c5, c6, c7, c8⟩ := HX1.out
  go_wp2_with fail
  rw [HA.out, HAB.out]
  refine (rOffcut_any _ _ s b ps _ (HS.out.keep HB1.out) (HP.out.keep HB1.out) hbl).mono ?_
  rintro e w2 ⟨rfl, hb⟩
  have HB2 := Lib.hid (ext_trans HB1.out hb)
  have HX2 := Lib.hid (HX1.out.keep hb)
  clear hb c0 c1 c2 c3 c4 c5 c6 c7 c8
  obtain ⟨c0, c1, c2, c3, c4, c5, c6, c7, c8⟩ := HX2.out
  have e1 : (offV s b ps == offV s b ps) = true := by rw [beq_iff_eq]
  have e2 : (chkE s b ps == chkE s b ps) = true := by rw [beq_iff_eq]
  go_wp2_with fail
  have HCK : Hid (∀ wz, Below w2.heap.size w2 wz → Calls Try.prog 14 #[.agg #[.string s.bar, .int .i64 s.kerf, .slice a s.parts.length cap], .agg #[.string b.id, .string b.sec, .string b.grade, .int .i64 b.len, b.heat], .slice ap ps.length capp] wz fun e w' => e = .returned (.int .i64 (chkE s b ps)) ∧ Below w2.heap.size w2 w') := fun wz hz => by
    rw [HA.out, HAB.out]
    exact (Check_any _ _ s b ps wz (HS.out.keep (HB2.out.trans (hz.mono HB2.out.size))) (HP.out.keep (HB2.out.trans (hz.mono HB2.out.size)))).mono fun e w' ⟨g1, g2⟩ => ⟨g1, ext_trans hz g2⟩
  have HRC : Hid (∀ wz, Below w2.heap.size w2 wz → Calls Try.prog 15 #[.agg #[.string s.bar, .int .i64 s.kerf, .slice a s.parts.length cap], .agg #[.string b.id, .string b.sec, .string b.grade, .int .i64 b.len, b.heat], .slice ap ps.length capp] wz fun e w' => e = .returned (.int .i64 (chkE s b ps)) ∧ Below w2.heap.size w2 w') := fun wz hz => by
    rw [HA.out, HAB.out]
    exact (rCheck_any _ _ s b ps wz (HS.out.keep (HB2.out.trans (hz.mono HB2.out.size))) (HP.out.keep (HB2.out.trans (hz.mono HB2.out.size)))).mono fun e w' ⟨g1, g2⟩ => ⟨g1, ext_trans hz g2⟩
  have HAW : Hid (∀ wz, Below w2.heap.size w2 wz → Calls Try.prog 11 #[] wz fun e w' => e = .returned (.bool true) ∧ Below w2.heap.size w2 w') := fun wz hz =>
    (awake_any wz).mono fun e w' ⟨g1, g2⟩ => ⟨g1, ext_trans hz g2⟩
  go_region_held3 (fun w' => w'.cell? ⟨w.heap.size, 0, none⟩ = some (.string s.bar) ∧ w'.cell? ⟨w.heap.size, 1, none⟩ = some (.int .i64 s.kerf) ∧ w'.cell? ⟨w.heap.size, 2, none⟩ = some (.slice a s.parts.length cap) ∧ w'.cell? ⟨w.heap.size, 3, none⟩ = some (.string b.id) ∧ w'.cell? ⟨w.heap.size, 4, none⟩ = some (.string b.sec) ∧ w'.cell? ⟨w.heap.size, 5, none⟩ = some (.string b.grade) ∧ w'.cell? ⟨w.heap.size, 6, none⟩ = some (.int .i64 b.len) ∧ w'.cell? ⟨w.heap.size, 7, none⟩ = some b.heat ∧ w'.cell? ⟨w.heap.size, 8, none⟩ = some (.slice ap ps.length capp))
    (first | exact ⟨c0, c1, c2, c3, c4, c5, c6, c7, c8⟩ | exact ⟨cell_keep hbu c0, cell_keep hbu c1, cell_keep hbu c2, cell_keep hbu c3, cell_keep hbu c4, cell_keep hbu c5, cell_keep hbu c6, cell_keep hbu c7, cell_keep hbu c8⟩ | exact ⟨cell_keep hby c0, cell_keep hby c1, cell_keep hby c2, cell_keep hby c3, cell_keep hby c4, cell_keep hby c5, cell_keep hby c6, cell_keep hby c7, cell_keep hby c8⟩ | exact ⟨cell_keep hbz c0, cell_keep hbz c1, cell_keep hbz c2, cell_keep hbz c3, cell_keep hbz c4, cell_keep hbz c5, cell_keep hbz c6, cell_keep hbz c7, cell_keep hbz c8⟩)
    (first
      | (go_at_call 14; refine (HCK.out _ (by first | exact hbz | exact Below.refl _ _ | exact below_drewN' (Below.refl _ _) 1)).mono ?_; rintro e wy ⟨rfl, hby⟩)
      | (go_at_call 15; refine (HRC.out _ (by first | exact hby | exact Below.refl _ _ | exact below_drewN' (Below.refl _ _) 1)).mono ?_; rintro e wz ⟨rfl, hbz⟩)
      | (go_at_call 11; refine (HAW.out _ (by first | exact hbz | exact hby)).mono ?_; rintro e wu ⟨rfl, hbu⟩))
  all_goals (go_wp2_with fail)
  all_goals
    go_ret
    exact ⟨rfl, HB2.out.trans (hbu.mono HB2.out.size)⟩
end Go.Proofs.Ytlgepggmgfnneaa

/- The arguments of a law, opened: slices of integers, rows of integers. -/
namespace Go.Proofs.Ytlgepggmgfnneaa
open Go.ChangeShapes Go.WideShapes Go.ChangeAt Go.RowKit Go.Deep

theorem own : ownKnob Try.prog.godebug = none := by kernel_rfl
theorem laidOut : laidOutB Try.prog = true := by kernel_rfl
theorem cells_ints : Try.prog.cellsOf 36 = 1 := by kernel_rfl
theorem cells_int : Try.prog.cellsOf 3 = 1 := by kernel_rfl

/-- cells from an address on, so that the address is that of a plain cell -/
theorem Sl_of {w : World} {a : Addr} {n cap : Nat} {C : Nat → Value} (h1 : n ≤ cap) (h2 : cap ≤ maxLen) (h : ∀ i, i < n → w.cell? (a.add i) = some (C i)) : Sl w (.slice (some a) n cap) n C := by
  refine ⟨some a, cap, rfl, h1, h2, fun i hi => ?_⟩
  obtain ⟨b, off, spot⟩ := a
  have h0 := h 0 (by omega)
  have hs : spot = none := by simpa [Addr.add] using World.cell?_spot h0
  subst hs
  refine ⟨b, off, rfl, ?_⟩
  have := h i hi
  rwa [show (⟨b, off, none⟩ : Addr).add i = ⟨b, off + i, none⟩ by unfold Addr.add; split <;> simp_all] at this

theorem SI_of {w : World} {a : Addr} {n cap : Nat} {zs : List Int} (h1 : n ≤ cap) (h2 : cap ≤ maxLen) (hz : zs.length = cap) (h : ∀ i, i < cap → w.cell? (a.add i) = some (.int .i64 (zs.getD i 0))) : SI w (.slice (some a) n cap) (zs.take n) := by
  have hl : (zs.take n).length = n := by simp; omega
  unfold SI
  rw [hl]
  exact Sl_of h1 h2 fun i hi => by rw [h i (by omega), gi_take hi]; rfl

variable {H : Type} {enc : TypeId × Value → H} {W : World}

theorem ints_arg {a : Option Addr} {n c : Nat} {d : DataW H} {p : List MemPlace} (h : DataW.Trod enc Try.prog W 0 (fun _ => true) true 36 (.slice a n c) d p) :
    ∃ xs, SI W (.slice a n c) xs ∧ ∀ x ∈ xs, (Lit.int .i64 x).wf = true := by
  obtain ⟨fuel, hf⟩ := h
  rcases open_ints Try.underlying36 Try.underlying3 (by kernel_rfl) hf with ⟨hcs, _⟩ | ⟨x, l, c', zs, hcs, _, hl, hm, hz, _, hcell, hwz⟩
  · simp [Value.cells] at hcs
    obtain ⟨rfl, rfl, rfl⟩ := hcs
    exact ⟨[], SI_nil _, by simp⟩
  · simp [Value.cells] at hcs
    obtain ⟨rfl, rfl, rfl⟩ := hcs
    have hz' : zs.length = c := by simpa using hz
    exact ⟨zs.take n, SI_of hl hm hz' (fun i hi => hcell i (by omega)), fun x hx => hwz x (List.mem_of_mem_take hx)⟩

theorem rows_arg {a : Option Addr} {n c : Nat} {d : DataW H} {p : List MemPlace} (h : DataW.Trod enc Try.prog W 0 (fun _ => true) true 40 (.slice a n c) d p) :
    ∃ rs, SS W (.slice a n c) rs ∧ ∀ r ∈ rs, ∀ x ∈ r, (Lit.int .i64 x).wf = true := by
  obtain ⟨fuel, hf⟩ := h
  rcases open_int_rows Try.underlying40 Try.underlying36 Try.underlying3 cells_ints cells_int hf with ⟨hcs, _⟩ | ⟨x, l, c', A, L, C, Z, hcs, _, hl, hm, _, hx⟩
  · simp [Value.cells] at hcs
    obtain ⟨rfl, rfl, rfl⟩ := hcs
    exact ⟨[], SS_nil _, by simp⟩
  · simp [Value.cells] at hcs
    obtain ⟨rfl, rfl, rfl⟩ := hcs
    have hlen : ((List.range n).map fun r => (Z r).take (L r)).length = n := by simp
    refine ⟨(List.range n).map fun r => (Z r).take (L r), ⟨fun r => .slice (A r) (L r) (C r), ?_, fun r hr => ?_⟩, ?_⟩
    · rw [hlen]
      exact Sl_of hl hm fun i hi => (hx i (by omega)).1
    · rw [hlen] at hr
      obtain ⟨_, e1, e2, e3, _, e5, e6⟩ := hx r (by omega)
      have er : ri ((List.range n).map fun r => (Z r).take (L r)) r = (Z r).take (L r) := by simp [ri, hr]
      rw [er]
      show SI W (.slice (A r) (L r) (C r)) _
      cases hA : A r with
      | none =>
        have := e5 hA
        have hL : L r = 0 := by omega
        rw [this, hL, List.take_zero]
        exact SI_nil _
      | some a' => exact SI_of e1 e2 e3 (e6 a' hA).2
    · intro r hr x hx'
      simp only [List.mem_map, List.mem_range] at hr
      obtain ⟨i, hi, rfl⟩ := hr
      exact (hx i (by omega)).2.2.2.2.1 x (List.mem_of_mem_take hx')
end Go.Proofs.Ytlgepggmgfnneaa

/- Arguments opened: structs with structs in them, slices of such structs; any type whose leaves have one cell each. -/
namespace Go.Proofs.Ytlgepggmgfnneaa
open Go.ChangeShapes Go.WideShapes Go.ChangeAt Go.RowKit Go.Deep

/-- the types of the cells of a type's fields, if they lie one behind the other -/
def fieldsOf (P : Program) (L : TypeId → Option (List TypeId)) : List Field → Nat → Option (List TypeId)
  | [], _ => some []
  | f :: r, off => if f.offset = off then
      match L f.type with
      | some l => if P.cellsOf f.type = l.length then (fieldsOf P L r (off + l.length)).map (l ++ ·) else none
      | none => none
    else none
def leavesOf (P : Program) : Nat → TypeId → Option (List TypeId)
  | 0, _ => none
  | n + 1, t => match P.underlying t with
    | some (.struct fs) => fieldsOf P (leavesOf P n) fs.toList 0
    | some _ => some [t]
    | none => none

section
variable {H : Type} {enc : TypeId × Value → H} {P : Program} {w : World} {base : Nat} {spare : Nat → Bool} {held : Bool}

theorem fields_trod {L : TypeId → Option (List TypeId)} {m : Nat} {cs : List Value}
    (hL : ∀ (t : TypeId) (ls : List TypeId) (cs' : List Value) (x : DataW H × List MemPlace), L t = some ls → DataW.trod enc P w base spare held m t cs' = some x → cs'.length = ls.length → ∀ (i : Nat) (t' : TypeId), ls[i]? = some t' → ∃ v n y, cs'[i]? = some v ∧ DataW.trod enc P w base spare held n t' [v] = some y) :
    ∀ (fs : List Field) (off : Nat) (ls : List TypeId), fieldsOf P L fs off = some ls → off + ls.length ≤ cs.length →
    (∀ (i : Nat) (f : Field), fs[i]? = some f → ∃ x, DataW.trod enc P w base spare held m f.type ((cs.drop f.offset).take (P.cellsOf f.type)) = some x) →
    ∀ (i : Nat) (t' : TypeId), ls[i]? = some t' → ∃ v n y, cs[off + i]? = some v ∧ DataW.trod enc P w base spare held n t' [v] = some y := by
  intro fs
  induction fs with
  | nil => intro off ls h _ _ i t' hi; simp only [fieldsOf, Option.some.injEq] at h; subst h; simp at hi
  | cons f r ih =>
    intro off ls h hlen hf i t' hi
    unfold fieldsOf at h
    by_cases ho : f.offset = off
    · rw [if_pos ho] at h
      cases hl : L f.type with
      | none => simp [hl] at h
      | some l =>
        rw [hl] at h
        simp only at h
        by_cases hc : P.cellsOf f.type = l.length
        · rw [if_pos hc] at h
          cases hr : fieldsOf P L r (off + l.length) with
          | none => simp [hr] at h
          | some lr =>
            rw [hr] at h
            simp only [Option.map_some, Option.some.injEq] at h
            subst h
            rw [List.length_append] at hlen
            by_cases hil : i < l.length
            · obtain ⟨x, hx⟩ := hf 0 f rfl
              rw [ho, hc] at hx
              rw [List.getElem?_append_left hil] at hi
              obtain ⟨v, n, y, hv, hy⟩ := hL f.type l _ x hl hx (by simp; omega) i t' hi
              refine ⟨v, n, y, ?_, hy⟩
              rw [List.getElem?_take, if_pos hil, List.getElem?_drop] at hv
              exact hv
            · rw [List.getElem?_append_right (by omega)] at hi
              obtain ⟨v, n, y, hv, hy⟩ := ih (off + l.length) lr hr (by omega) (fun j g hg => hf (j + 1) g (by simpa using hg)) (i - l.length) t' hi
              refine ⟨v, n, y, ?_, hy⟩
              rw [show off + i = off + l.length + (i - l.length) by omega]; exact hv
        · rw [if_neg hc] at h; cases h
    · rw [if_neg ho] at h; cases h

/-- the leaves of what was trod -/
theorem trod_leaves : ∀ (n : Nat) (t : TypeId) (ls : List TypeId), leavesOf P n t = some ls → ∀ (fuel : Nat) (cs : List Value) (x : DataW H × List MemPlace), DataW.trod enc P w base spare held fuel t cs = some x → cs.length = ls.length →
    ∀ (i : Nat) (t' : TypeId), ls[i]? = some t' → ∃ v m y, cs[i]? = some v ∧ DataW.trod enc P w base spare held m t' [v] = some y := by
  intro n
  induction n with
  | zero => intro t ls h; simp [leavesOf] at h
  | succ n ih =>
    intro t ls h fuel cs x hx hlen i t' hi
    unfold leavesOf at h
    split at h
    · rename_i fs hs
      obtain ⟨xs, m, _, _, _, hxl, hg⟩ := DataW.trod_struct hs hx
      have := fields_trod (enc := enc) (P := P) (w := w) (base := base) (spare := spare) (held := held) (L := leavesOf P n) (m := m) (cs := cs) (fun t ls cs' x h1 h2 h3 => ih t ls h1 m cs' x h2 h3) fs.toList 0 ls h (by omega) (fun j f hj => by
        have hj' : fs[j]? = some f := by simpa using hj
        have := hg j f hj'
        have hjl : j < fs.size := (Array.getElem?_eq_some_iff.1 hj').1
        exact ⟨_, this.trans (List.getElem?_eq_getElem (by omega))⟩) i t' hi
      rwa [Nat.zero_add] at this
    · simp only [Option.some.injEq] at h
      subst h
      match cs, hlen with
      | [v], _ =>
        match i, hi with
        | 0, hi => simp only [List.getElem?_cons_zero, Option.some.injEq] at hi; subst hi; exact ⟨v, fuel, x, rfl, hx⟩
    · cases h

/-- a struct by value: its cells -/
theorem open_leaves {n : Nat} {t : TypeId} {ls : List TypeId} {fs : Array Field} {r : Reach} {b0 : Nat} {v : Value} {d : DataW H} {p : List MemPlace} (hs : P.underlying t = some (.struct fs)) (hl : leavesOf P n t = some ls) (hC : P.cellsOf t = ls.length)
    (hv : Value.okWide P w r b0 t v) (h : DataW.Trod enc P w base spare held t v d p) :
    ∃ cs : Array Value, v = .agg cs ∧ cs.size = ls.length ∧ ∀ (i : Nat) (t' : TypeId), ls[i]? = some t' → ∃ u m y, cs[i]? = some u ∧ DataW.trod enc P w base spare held m t' [u] = some y := by
  obtain ⟨cs, rfl, hsz⟩ := okWide_struct hs hv
  obtain ⟨fuel, hf⟩ := h
  refine ⟨cs, rfl, hsz.trans hC, fun i t' hi => ?_⟩
  obtain ⟨u, m, y, h1, h2⟩ := trod_leaves n t ls hl fuel cs.toList (d, p) hf (by simpa using hsz.trans hC) i t' hi
  exact ⟨u, m, y, by simpa using h1, h2⟩

/-- n structs of k cells each: cell j of struct i holds C i j -/
def SR (w : World) (v : Value) (n k : Nat) (C : Nat → Nat → Value) : Prop :=
  ∃ a cap, v = .slice a n cap ∧ n ≤ cap ∧ cap ≤ maxLen ∧ ∀ i, i < n → ∃ b off, a = some ⟨b, off, none⟩ ∧ ∀ j, j < k → w.cell? ⟨b, off + i * k + j, none⟩ = some (C i j)

/-- a slice of structs -/
theorem open_rows {n : Nat} {t e : TypeId} {ls : List TypeId} {fuel : Nat} {cs : List Value} {x : DataW H × List MemPlace} (ht : P.underlying t = some (.slice e)) (hl : leavesOf P n e = some ls) (hC : P.cellsOf e = ls.length) (hpos : 0 < ls.length)
    (h : DataW.trod enc P w base spare held fuel t cs = some x) :
    ∃ (v : Value) (m : Nat) (C : Nat → Nat → Value), cs = [v] ∧ SR w v m ls.length C ∧ ∀ i, i < m → ∀ (j : Nat) (t' : TypeId), ls[j]? = some t' → ∃ q y, DataW.trod enc P w base spare held q t' [C i j] = some y := by
  rcases open_slice ht h with ⟨h0, _⟩ | ⟨a, len, cap, m, q, D, Pl, hcs, hb, hle, hm, hmm, hx, hi⟩
  · exact ⟨_, 0, fun _ _ => undef, h0, ⟨none, 0, rfl, Nat.le_refl _, Nat.zero_le _, fun i hi => by omega⟩, fun i hi => by omega⟩
  · have hlm : len ≤ m := by rw [hmm]; split <;> omega
    have key : ∀ i, i < m → ∀ (j : Nat) (t' : TypeId), ls[j]? = some t' → ∃ u q y, w.cell? (a.add (i * ls.length + j)) = some u ∧ DataW.trod enc P w base spare held q t' [u] = some y := by
      intro i him j t' hj
      obtain ⟨cs', hc, ht'⟩ := hi i him
      rw [hC] at hc
      obtain ⟨_, hcl, hat⟩ := World.cells?_some hc
      obtain ⟨u, q', y, h1, h2⟩ := trod_leaves n e ls hl q cs' _ ht' hcl j t' hj
      have hjl : j < ls.length := (List.getElem?_eq_some_iff.1 hj).1
      refine ⟨u, q', y, ?_, h2⟩
      rw [← Go.Deep.add_add, hat j hjl, h1]
    refine ⟨_, len, fun i j => (w.cell? (a.add (i * ls.length + j))).getD undef, hcs, ⟨some a, cap, rfl, hle, hm, fun i hil => ?_⟩, fun i hil j t' hj => ?_⟩
    · have k0 := key 0 (by omega) 0 _ (List.getElem?_eq_getElem hpos)
      obtain ⟨u0, _, _, h0, _⟩ := k0
      obtain ⟨b, off, spot⟩ := a
      have hsp : spot = none := by simpa [Addr.add] using World.cell?_spot h0
      subst hsp
      refine ⟨b, off, rfl, fun j hj => ?_⟩
      obtain ⟨u, _, _, hu, _⟩ := key i (by omega) j _ (List.getElem?_eq_getElem hj)
      have hadd : (⟨b, off, none⟩ : Addr).add (i * ls.length + j) = ⟨b, off + i * ls.length + j, none⟩ := by unfold Addr.add; simp [Nat.add_assoc]
      dsimp only
      rw [← hadd, hu]; rfl
    · obtain ⟨u, q', y, h1, h2⟩ := key i (by omega) j t' hj
      exact ⟨q', y, by dsimp only; rw [h1]; exact h2⟩
end

theorem SR.keep {w w' : World} {v : Value} {n k : Nat} {C : Nat → Nat → Value} (h : SR w v n k C) (hb : Below w.heap.size w w') : SR w' v n k C := by
  obtain ⟨a, cap, rfl, h1, h2, h3⟩ := h
  refine ⟨a, cap, rfl, h1, h2, fun i hi => ?_⟩
  obtain ⟨b, off, ha, hc⟩ := h3 i hi
  exact ⟨b, off, ha, fun j hj => cell_keep hb (hc j hj)⟩

section
variable {H : Type} {enc : TypeId × Value → H} {W : World}
theorem ints_trod {fuel : Nat} {v : Value} {x : DataW H × List MemPlace} (h : DataW.trod enc Try.prog W 0 (fun _ => true) true fuel 36 [v] = some x) : ∃ xs, SI W v xs ∧ ∀ x ∈ xs, (Lit.int .i64 x).wf = true := by
  rcases open_ints Try.underlying36 Try.underlying3 (by kernel_rfl) h with ⟨hcs, _⟩ | ⟨x, l, c', zs, hcs, _, hl, hm, hz, _, hcell, hwz⟩
  · simp at hcs
    subst hcs
    exact ⟨[], SI_nil _, by simp⟩
  · simp at hcs
    subst hcs
    have hz' : zs.length = c' := by simpa using hz
    exact ⟨zs.take l, SI_of hl hm hz' (fun i hi => hcell i (by omega)), fun x hx => hwz x (List.mem_of_mem_take hx)⟩
theorem int_trod {fuel : Nat} {t : TypeId} {v : Value} {x : DataW H × List MemPlace} {k : IntKind} (ht : Try.prog.underlying t = some (.int k)) (h : DataW.trod enc Try.prog W 0 (fun _ => true) true fuel t [v] = some x) : ∃ n, v = .int k n ∧ (Lit.int k n).wf = true := by
  obtain ⟨n, h1, _, h2⟩ := DataW.trod_int ht h
  simp at h1
  exact ⟨n, h1, h2⟩
theorem str_trod {fuel : Nat} {t : TypeId} {v : Value} {x : DataW H × List MemPlace} (ht : Try.prog.underlying t = some .string) (h : DataW.trod enc Try.prog W 0 (fun _ => true) true fuel t [v] = some x) : ∃ s, v = .string s ∧ s.size ≤ maxLen := by
  obtain ⟨n, h1, _, h2⟩ := DataW.trod_string ht h
  simp at h1
  exact ⟨n, h1, h2⟩
theorem slice_trod {fuel : Nat} {t e : TypeId} {v : Value} {x : DataW H × List MemPlace} (ht : Try.prog.underlying t = some (.slice e)) (h : DataW.trod enc Try.prog W 0 (fun _ => true) true fuel t [v] = some x) : ∃ a n c, v = .slice a n c := by
  rcases open_slice ht h with ⟨h0, _⟩ | ⟨a, len, cap, m, q, D, Pl, hcs, _⟩
  · simp at h0; exact ⟨_, _, _, h0⟩
  · simp at hcs; exact ⟨_, _, _, hcs⟩
end
end Go.Proofs.Ytlgepggmgfnneaa

/- The arguments of BarsLeast and BarsChecks, opened. -/
namespace Go.Proofs.Ytlgepggmgfnneaa
open Go.ChangeShapes Go.WideShapes Go.ChangeAt Go.RowKit Go.Deep

theorem leaves_plan : leavesOf Try.prog 3 47 = some [36, 3, 3, 45] := by kernel_rfl
theorem leaves_cut : leavesOf Try.prog 3 29 = some [9, 3, 22, 9, 9, 9, 3, 9, 27] := by kernel_rfl
def partLs : List TypeId := [9, 3, 3, 9, 9, 3, 49, 50, 9, 3, 3, 3, 3, 3, 3, 3, 3, 3]
theorem leaves_part : leavesOf Try.prog 4 58 = some partLs := by kernel_rfl

section
variable {H : Type} {enc : TypeId × Value → H} {W : World}
theorem u8s_trod {fuel : Nat} {v : Value} {x : DataW H × List MemPlace} (h : DataW.trod enc Try.prog W 0 (fun _ => true) true fuel 45 [v] = some x) :
    ∃ us : List Int, Sl W v us.length (fun i => .int .u8 (gi us i)) ∧ ∀ x ∈ us, 0 ≤ x ∧ x ≤ 255 := by
  rcases open_ints Try.underlying45 Try.underlying5 (by kernel_rfl) h with ⟨hcs, _⟩ | ⟨x, l, c', zs, hcs, _, hl, hm, hz, _, hcell, hwz⟩
  · simp at hcs
    subst hcs
    exact ⟨[], ⟨none, 0, rfl, Nat.le_refl _, Nat.zero_le _, fun i hi => by simp at hi⟩, by simp⟩
  · simp at hcs
    subst hcs
    have hz' : zs.length = c' := by simpa using hz
    have hlen : (zs.take l).length = l := by simp; omega
    refine ⟨zs.take l, ?_, fun x hx => ?_⟩
    · rw [hlen]
      exact Sl_of hl hm fun i hi => by rw [hcell i (by omega), gi_take hi]; rfl
    · have := hwz x (List.mem_of_mem_take hx)
      simp [Lit.wf, IntKind.min, IntKind.max, IntKind.signed, IntKind.bits] at this
      omega
theorem strs_trod {fuel : Nat} {v : Value} {x : DataW H × List MemPlace} (h : DataW.trod enc Try.prog W 0 (fun _ => true) true fuel 22 [v] = some x) :
    ∃ ss : List ByteArray, SStr W v ss ∧ ∀ x ∈ ss, x.size ≤ maxLen := by
  rcases open_strings Try.underlying22 Try.underlying9 (by kernel_rfl) h with ⟨hcs, _⟩ | ⟨x, l, c', zs, hcs, _, hl, hm, hz, _, hcell, hwz⟩
  · simp at hcs
    subst hcs
    exact ⟨[], ⟨none, 0, rfl, Nat.le_refl _, Nat.zero_le _, fun i hi => by simp at hi⟩, by simp⟩
  · simp at hcs
    subst hcs
    have hz' : zs.length = c' := by simpa using hz
    have hlen : (zs.take l).length = l := by simp; omega
    refine ⟨zs.take l, ?_, fun x hx => hwz x (List.mem_of_mem_take hx)⟩
    show Sl _ _ _ _
    rw [hlen]
    exact Sl_of hl hm fun i hi => by rw [hcell i (by omega)]; simp [si, List.getElem?_take, hi]
theorem parts_trod {fuel : Nat} {v : Value} {x : DataW H × List MemPlace} (h : DataW.trod enc Try.prog W 0 (fun _ => true) true fuel 27 [v] = some x) : ∃ ps : List PartD, SP W v ps := by
  obtain ⟨v', m, C, hcs, ⟨a, cap, rfl, h1, h2, h3⟩, hC⟩ := open_rows Try.underlying27 leaves_part (by kernel_rfl) (by decide) h
  simp at hcs
  subst hcs
  have hs : ∀ i, i < m → ∀ j, partLs[j]? = some 9 → ∃ s, C i j = .string s := fun i hi j hj => by
    obtain ⟨q, y, hq⟩ := hC i hi j _ hj; obtain ⟨s, e, _⟩ := str_trod Try.underlying9 hq; exact ⟨s, e⟩
  have hn : ∀ i, i < m → ∀ j, partLs[j]? = some 3 → ∃ s, C i j = .int .i64 s := fun i hi j hj => by
    obtain ⟨q, y, hq⟩ := hC i hi j _ hj; obtain ⟨s, e, _⟩ := int_trod Try.underlying3 hq; exact ⟨s, e⟩
  have hsl : ∀ i, i < m → ∀ j t e, Try.prog.underlying t = some (.slice e) → partLs[j]? = some t → ∃ a n c, C i j = .slice a n c := fun i hi j t e ht hj => by
    obtain ⟨q, y, hq⟩ := hC i hi j _ hj; exact slice_trod ht hq
  let P : Nat → PartD := fun i => ⟨match C i 0 with | .string s => s | _ => .empty, match C i 8 with | .string s => s | _ => .empty, match C i 4 with | .string s => s | _ => .empty, match C i 2 with | .int .i64 n => n | _ => 0, match C i 9 with | .int .i64 n => n | _ => 0, C i⟩
  have hP : ∀ i, i < m → (P i).arr.all (·.oneCell') = true ∧ ∀ j, j < 18 → (P i).cell j = C i j := by
    intro i hi
    obtain ⟨s0, e0⟩ := hs i hi 0 rfl
    obtain ⟨n1, e1⟩ := hn i hi 1 rfl
    obtain ⟨n2, e2⟩ := hn i hi 2 rfl
    obtain ⟨s3, e3⟩ := hs i hi 3 rfl
    obtain ⟨s4, e4⟩ := hs i hi 4 rfl
    obtain ⟨n5, e5⟩ := hn i hi 5 rfl
    obtain ⟨a6, b6, c6, e6⟩ := hsl i hi 6 _ _ Try.underlying49 rfl
    obtain ⟨a7, b7, c7, e7⟩ := hsl i hi 7 _ _ Try.underlying50 rfl
    obtain ⟨s8, e8⟩ := hs i hi 8 rfl
    obtain ⟨n9, e9⟩ := hn i hi 9 rfl
    obtain ⟨n10, e10⟩ := hn i hi 10 rfl
    obtain ⟨n11, e11⟩ := hn i hi 11 rfl
    obtain ⟨n12, e12⟩ := hn i hi 12 rfl
    obtain ⟨n13, e13⟩ := hn i hi 13 rfl
    obtain ⟨n14, e14⟩ := hn i hi 14 rfl
    obtain ⟨n15, e15⟩ := hn i hi 15 rfl
    obtain ⟨n16, e16⟩ := hn i hi 16 rfl
    obtain ⟨n17, e17⟩ := hn i hi 17 rfl
    constructor
    · simp [P, PartD.arr, e1, e3, e5, e6, e7, e10, e11, e12, e13, e14, e15, e16, e17, Value.oneCell']
    · intro j hj
      have : j = 0 ∨ j = 1 ∨ j = 2 ∨ j = 3 ∨ j = 4 ∨ j = 5 ∨ j = 6 ∨ j = 7 ∨ j = 8 ∨ j = 9 ∨ j = 10 ∨ j = 11 ∨ j = 12 ∨ j = 13 ∨ j = 14 ∨ j = 15 ∨ j = 16 ∨ j = 17 := by omega
      rcases this with rfl | rfl | rfl | rfl | rfl | rfl | rfl | rfl | rfl | rfl | rfl | rfl | rfl | rfl | rfl | rfl | rfl | rfl <;> simp [P, PartD.cell, e0, e2, e4, e8, e9]
  refine ⟨(List.range m).map P, a, cap, by simp, by simpa using h1, h2, fun i hi => ?_⟩
  have hi' : i < m := by simpa using hi
  have ep : pi ((List.range m).map P) i = P i := by simp [pi, hi']
  rw [ep]
  obtain ⟨b, off, ha, hc⟩ := h3 i hi'
  exact ⟨(hP i hi').1, b, off, ha, fun j hj => by rw [(hP i hi').2 j hj]; exact hc j hj⟩

theorem plan_arg {r : Reach} {b0 : Nat} {v : Value} {d : DataW H} {p : List MemPlace} (hv : Value.okWide Try.prog W r b0 47 v) (h : DataW.Trod enc Try.prog W 0 (fun _ => true) true 47 v d p) :
    ∃ (u vw : Value) (l us : List Int) (s k : Int), v = .agg #[u, .int .i64 s, .int .i64 k, vw] ∧ SI W u l ∧ Sl W vw us.length (fun i => .int .u8 (gi us i)) ∧ ∀ x ∈ us, 0 ≤ x ∧ x ≤ 255 := by
  obtain ⟨cs, rfl, hsz, hx⟩ := open_leaves Try.underlying47 leaves_plan (by kernel_rfl) hv h
  obtain ⟨u0, m0, y0, c0, t0⟩ := hx 0 _ rfl
  obtain ⟨u1, m1, y1, c1, t1⟩ := hx 1 _ rfl
  obtain ⟨u2, m2, y2, c2, t2⟩ := hx 2 _ rfl
  obtain ⟨u3, m3, y3, c3, t3⟩ := hx 3 _ rfl
  obtain ⟨l, hl, _⟩ := ints_trod t0
  obtain ⟨s, rfl, _⟩ := int_trod Try.underlying3 t1
  obtain ⟨k, rfl, _⟩ := int_trod Try.underlying3 t2
  obtain ⟨us, hu, hu2⟩ := u8s_trod t3
  refine ⟨u0, u3, l, us, s, k, ?_, hl, hu, hu2⟩
  obtain ⟨cl⟩ := cs
  match cl, hsz with
  | [a0, a1, a2, a3], _ =>
    simp at c0 c1 c2 c3
    subst c0 c1 c2 c3
    rfl
theorem cut_arg {r : Reach} {b0 : Nat} {v : Value} {d : DataW H} {p : List MemPlace} (hv : Value.okWide Try.prog W r b0 29 v) (h : DataW.Trod enc Try.prog W 0 (fun _ => true) true 29 v d p) :
    ∃ (u vp : Value) (s : SawD) (b : BarI) (ps : List PartD), v = .agg #[.string s.bar, .int .i64 s.kerf, u, .string b.id, .string b.sec, .string b.grade, .int .i64 b.len, b.heat, vp] ∧ SStr W u s.parts ∧ SP W vp ps ∧ b.len ≤ 9223372036854775807 := by
  obtain ⟨cs, rfl, hsz, hx⟩ := open_leaves Try.underlying29 leaves_cut (by kernel_rfl) hv h
  obtain ⟨u0, m0, y0, c0, t0⟩ := hx 0 _ rfl
  obtain ⟨u1, m1, y1, c1, t1⟩ := hx 1 _ rfl
  obtain ⟨u2, m2, y2, c2, t2⟩ := hx 2 _ rfl
  obtain ⟨u3, m3, y3, c3, t3⟩ := hx 3 _ rfl
  obtain ⟨u4, m4, y4, c4, t4⟩ := hx 4 _ rfl
  obtain ⟨u5, m5, y5, c5, t5⟩ := hx 5 _ rfl
  obtain ⟨u6, m6, y6, c6, t6⟩ := hx 6 _ rfl
  obtain ⟨u7, m7, y7, c7, t7⟩ := hx 7 _ rfl
  obtain ⟨u8, m8, y8, c8, t8⟩ := hx 8 _ rfl
  obtain ⟨bar, rfl, _⟩ := str_trod Try.underlying9 t0
  obtain ⟨kerf, rfl, _⟩ := int_trod Try.underlying3 t1
  obtain ⟨ids, hids, _⟩ := strs_trod t2
  obtain ⟨id, rfl, _⟩ := str_trod Try.underlying9 t3
  obtain ⟨sec, rfl, _⟩ := str_trod Try.underlying9 t4
  obtain ⟨gr, rfl, _⟩ := str_trod Try.underlying9 t5
  obtain ⟨n, rfl, hn⟩ := int_trod Try.underlying3 t6
  obtain ⟨ps, hps⟩ := parts_trod t8
  refine ⟨u2, u8, ⟨bar, kerf, ids⟩, ⟨id, sec, gr, n, u7⟩, ps, ?_, hids, hps, ?_⟩
  · obtain ⟨cl⟩ := cs
    match cl, hsz with
    | [a0, a1, a2, a3, a4, a5, a6, a7, a8], _ =>
      simp at c0 c1 c2 c3 c4 c5 c6 c7 c8
      subst c0 c1 c2 c3 c4 c5 c6 c7 c8
      rfl
  · simp [Lit.wf, IntKind.min, IntKind.max, IntKind.signed, IntKind.bits] at hn
    exact hn.2
end
end Go.Proofs.Ytlgepggmgfnneaa

/- The statement BarsChecks: for every input the law returns true, and each argument reads afterwards as it did. -/
namespace Go.Proofs.Ytlgepggmgfnneaa.barsChecksDone
open Go.ChangeShapes Go.WideShapes Go.ChangeAt Go.RowKit

set_option maxRecDepth 100000 in
theorem lifted (os : Os) (started : os.Started) (H : Type) (enc : TypeId × Value → H) :
    ReturnsInHanded {} Try.checked os 3 .any (Rows.barsChecksSpec.pre6 enc Try.prog Try.f3 Rows.barsChecksRow.domain false) (Rows.barsChecksSpec.post enc Try.prog Try.f3 false true false false) := by
  refine returnsInHanded_of_change (C := Try.checked) own started (by kernel_rfl) Try.func3
    (ChangeSpec.witness6 (enc := enc) (C := Try.checked) false ⟨#[], #[.agg #[.string ⟨#[]⟩, .int .i64 0, .slice none 0 0, .string ⟨#[]⟩, .string ⟨#[]⟩, .string ⟨#[]⟩, .int .i64 0, .string ⟨#[]⟩, .slice none 0 0]], []⟩ 8 (by kernel_rfl) (by kernel_rfl) (by kernel_rfl) (by kernel_rfl)) ?_
  intro W base args ds gs before hval0 hW _ _
  have hval : ∀ (j : Nat) t v, Try.f3.params[j]? = some t → args[j]? = some v → Value.okWide Try.prog W .any base t v := hval0
  have hW' := hW
  obtain ⟨p, q, hA0, hV, rfl, _, _⟩ := hW
  have hA : DataW.TrodAll enc Try.prog W 0 (fun _ => true) true Try.f3.params.toList args.toList ds p := hA0
  rw [Try.params3] at hA hval
  obtain ⟨v0, vs0, d0, ds0, p0, q0, hargs, rfl, rfl, h0, r0⟩ := trodAll_cons hA
  obtain ⟨rfl, rfl, rfl⟩ := trodAll_nil r0
  obtain rfl : args = #[v0] := by cases args; simp_all
  obtain ⟨rfl, rfl⟩ := trodVars_none hV
  have k0 := h0
  have lt0 : ∀ x ∈ p0, x.block < W.heap.size := by obtain ⟨m, hm⟩ := k0; exact DataW.trod_lt m _ _ _ hm
  obtain ⟨u, vp, s, b, ps, rfl, f1, f2, f3⟩ := cut_arg (hval 0 29 v0 rfl rfl) h0
  clear hA0 hval0
  refine (checks_law _ _ s b ps W f1 f2 f3).mono fun e W' ⟨he, bel⟩ => ?_
  subst he
  exact ⟨_, rfl, _, _, _, [], _, [], hW', trodAll_mk1 (shut_bool Try.underlying4 _), (trodAll_cons_mk (Below.trod laidOut (by kernel_rfl) (of_decide_eq_true (by kernel_rfl)) k0 bel lt0) trodAll_mk0), rfl, bel.frame _, fun h => by cases h⟩

theorem over : Rows.barsChecksRow.holds Try.pinned (OpenSpec.ofChange Rows.barsChecksSpec) :=
  OpenClaim.holds_of_wide 3 Try.f3 rfl rfl rfl rfl rfl rfl rfl ⟨rfl, rfl, rfl, rfl, rfl⟩ rfl rfl rfl rfl rfl (by kernel_rfl) Try.func3 (by kernel_rfl)
    (of_decide_eq_true (by kernel_rfl)) (by unfold Func.isWrapper; first | (rw [if_pos (by decide +kernel)]; kernel_rfl) | (rw [if_neg (by decide +kernel)]; exact ⟨rfl, rfl⟩))
    (fun os started H enc _ => lifted os started H enc)

/-- THE STATEMENT -/
theorem proved : Rows.BarsChecksSaid := over
end Go.Proofs.Ytlgepggmgfnneaa.barsChecksDone
