/- What newHall stands on: jobs that are right, rows of flags in memory, a frame that leaves out one block. -/
import Derived.Test.YtfpnjbomlmhlpaaGreatPk11
import Derived.Test.YtfpnjbomlmhlpaaGreatPk02
import Derived.Test.YtfpnjbomlmhlpaaGreatPk10
set_option linter.unusedSimpArgs false
set_option linter.unusedVariables false

/- Contracts: slices.IndexFunc at jobs and entries, slices.ContainsFunc at entries; job of a hall (printed by wip/gen_schfn.py). -/
namespace Go.Proofs.YtfpnjbomlmhlpaaGreat
open Go.RowKit

def enV (x : Ern) : Value := .agg #[.string (bs x.block), .string (bs x.crane), .int .i64 x.a, .int .i64 x.b]
/-- the first index at which p holds, else -1 -/
def findG {α : Type} (p : α → Bool) (xs : List α) : Int := match xs.findIdx? p with | some i => i | none => -1
theorem findG_hit {α : Type} [Inhabited α] (p : α → Bool) (xs : List α) (k : Nat) (hk : k < xs.length) (h1 : ∀ j, j < k → p (xs.getD j default) = false) (h2 : p (xs.getD k default) = true) : findG p xs = k := by
  have : xs.findIdx? p = some k := by
    rw [List.findIdx?_eq_some_iff_getElem]
    refine ⟨hk, ?_, ?_⟩
    · simpa [hk] using h2
    · intro j hj
      have := h1 j hj
      simp [show j < xs.length by omega] at this
      simp [this]
  simp [findG, this]
theorem findG_miss {α : Type} [Inhabited α] (p : α → Bool) (xs : List α) (h1 : ∀ j, j < xs.length → p (xs.getD j default) = false) : findG p xs = -1 := by
  have : xs.findIdx? p = none := by
    rw [List.findIdx?_eq_none_iff]
    intro x hx
    obtain ⟨j, hj, rfl⟩ := List.mem_iff_getElem.1 hx
    have := h1 j hj
    simpa [hj] using this
  simp [findG, this]
theorem findG_any {α : Type} (p : α → Bool) (xs : List α) : decide (0 ≤ findG p xs) = xs.any p := by
  unfold findG
  cases h : xs.findIdx? p with
  | none =>
    have : xs.any p = false := by
      rw [List.findIdx?_eq_none_iff] at h
      rw [List.any_eq_false]
      intro x hx; rw [h x hx]; decide
    rw [this]; rfl
  | some i =>
    have : xs.any p = true := by
      rw [List.findIdx?_eq_some_iff_getElem] at h
      obtain ⟨hi, h1, _⟩ := h
      rw [List.any_eq_true]
      exact ⟨_, List.getElem_mem hi, h1⟩
    rw [this]; simp

/-! Ern: SEn -/
/-- A function value that answers a predicate, in every world that keeps what W0 has. -/
def FnE (fv : Value) (W0 : World) (q : Ern → Prop) (p : Ern → Bool) : Prop :=
  ∃ F caps, fv = .func (.func F) #[] caps ∧ (∀ args w, (callFunc F args).run Tryz.prog w = .ok (.enter F args) w) ∧
    ∀ (x : Ern) (w : World), q x → Below W0.heap.size W0 w → Calls Tryz.prog F (#[enV x] ++ caps) w (Ret w (.bool (p x)))
set_option maxHeartbeats 800000 in
theorem indexFunc_E (fv v : Value) (q : Ern → Prop) (p : Ern → Bool) (xs : List Ern) (w : World) (h : SEn w v xs) (hq : ∀ x ∈ xs, q x) (hf : FnE fv w q p) :
    Calls Tryz.prog 106 #[v, fv] w (Ret w (.int .i64 (findG p xs))) := by
  obtain ⟨F, caps, rfl, hcf, hf⟩ := hf
  obtain ⟨a, cap, rfl, h1, h2, h3⟩ := h
  have HF := Lib.hid hf; clear hf
  have H3 := Lib.hid h3; clear h3
  have HQ := Lib.hid hq; clear hq
  have hm : xs.length ≤ 9223372036854775807 := by unfold maxLen at h2; omega
  go_enter Tryz.func106, Tryz.ntmps106
  go_wp2
  go_loopw [8] (fun i wr => ∃ k : Nat, k ≤ xs.length ∧ i = .int .i64 k ∧ Hid (Below w.heap.size w wr) ∧ Hid (∀ j, j < k → p (eri xs j) = false)) (fun i _ => xs.length - (intOf i).toNat)
  case atStart => exact ⟨0, Nat.zero_le _, rfl, Lib.hid (Below.refl _ _), Lib.hid fun j hj => by omega⟩
  case round =>
    obtain ⟨k, hk, rfl, hb, hj⟩ := hrel
    by_cases hlt : k < xs.length
    · obtain ⟨b, off, ha, hc⟩ := H3.out k hlt
      rw [ha]
      have hc' := hc.keep hb.out
      have c0 := hc'.c0
      have c1 := hc'.c1
      have c2 := hc'.c2
      have c3 := hc'.c3
      clear hc hc'
      go_wp2_with fail
      refine (HF.out (eri xs k) _ (HQ.out _ (eri_mem hlt)) hb.out).mono ?_
      rintro e w1 ⟨rfl, hb1⟩
      have HB1 := Lib.hid (ext_trans hb.out hb1)
      clear hb1 c0 c1 c2 c3
      generalize hx : p (eri xs k) = x
      have HX := Lib.hid hx; clear hx
      cases x
      · go_wp2_with fail
        go_roundw
        case rel =>
          refine ⟨k+1, by omega, by go_num, HB1, Lib.hid ?_⟩
          intro j hjk
          by_cases e : j = k
          · subst e; exact HX.out
          · exact hj.out j (by omega)
        case measure => simp [intOf]; omega
      · go_wp2_with fail
        go_ret
        exact ⟨ret_int (findG_hit p xs k hlt hj.out HX.out).symm, HB1.out⟩
    · go_wp2_with fail
      go_ret
      exact ⟨ret_int (findG_miss p xs (fun j h => hj.out j (by omega))).symm, hb.out⟩
theorem containsFunc_E (fv v : Value) (q : Ern → Prop) (p : Ern → Bool) (xs : List Ern) (w : World) (h : SEn w v xs) (hq : ∀ x ∈ xs, q x) (hf : FnE fv w q p) :
    Calls Tryz.prog 76 #[v, fv] w (Ret w (.bool (xs.any p))) := by
  have HI := Lib.hid (indexFunc_E fv v q p xs w h hq hf)
  have HV := Lib.hid (findG_any p xs)
  obtain ⟨F, caps, rfl, _, _⟩ := hf
  obtain ⟨a, n, c, rfl⟩ : ∃ a n c, v = .slice a n c := by obtain ⟨a, cap, rfl, _⟩ := h; exact ⟨_, _, _, rfl⟩
  clear h hq
  go_enter Tryz.func76, Tryz.ntmps76
  go_wp2_with fail
  refine HI.out.mono ?_
  rintro e w1 ⟨rfl, hb⟩
  have HB := Lib.hid hb; clear hb
  go_wp2_with fail
  go_ret
  exact ⟨ret_bool HV.out, HB.out⟩

/-! MH: SHs -/
/-- A function value that answers a predicate, in every world that keeps what W0 has. -/
def FnH (fv : Value) (W0 : World) (q : MH → Prop) (p : MH → Bool) : Prop :=
  ∃ F caps, fv = .func (.func F) #[] caps ∧ (∀ args w, (callFunc F args).run Tryz.prog w = .ok (.enter F args) w) ∧
    ∀ (x : MH) (w : World), q x → Below W0.heap.size W0 w → ∀ a n c, x.cv = .slice a n c → Calls Tryz.prog F (#[.agg #[.string (bs x.h.block), .int .i64 x.h.hours, .slice a n c]] ++ caps) w (Ret w (.bool (p x)))
set_option maxHeartbeats 800000 in
theorem indexFunc_H (fv v : Value) (q : MH → Prop) (p : MH → Bool) (xs : List MH) (w : World) (h : SHs w v xs) (hq : ∀ x ∈ xs, q x) (hsl : ∀ x ∈ xs, ∃ a n c, x.cv = .slice a n c) (hf : FnH fv w q p) :
    Calls Tryz.prog 80 #[v, fv] w (Ret w (.int .i64 (findG p xs))) := by
  obtain ⟨F, caps, rfl, hcf, hf⟩ := hf
  obtain ⟨a, cap, rfl, h1, h2, h3⟩ := h
  have HF := Lib.hid hf; clear hf
  have H3 := Lib.hid h3; clear h3
  have HQ := Lib.hid hq; clear hq
  have HSL := Lib.hid hsl; clear hsl
  have hm : xs.length ≤ 9223372036854775807 := by unfold maxLen at h2; omega
  go_enter Tryz.func80, Tryz.ntmps80
  go_wp2
  go_loopw [8] (fun i wr => ∃ k : Nat, k ≤ xs.length ∧ i = .int .i64 k ∧ Hid (Below w.heap.size w wr) ∧ Hid (∀ j, j < k → p (mhi xs j) = false)) (fun i _ => xs.length - (intOf i).toNat)
  case atStart => exact ⟨0, Nat.zero_le _, rfl, Lib.hid (Below.refl _ _), Lib.hid fun j hj => by omega⟩
  case round =>
    obtain ⟨k, hk, rfl, hb, hj⟩ := hrel
    by_cases hlt : k < xs.length
    · obtain ⟨b, off, ha, hc⟩ := H3.out k hlt
      rw [ha]
      have hc' := hc.keep hb.out
      have c0 := hc'.c0
      have c1 := hc'.c1
      have c2 := hc'.c2
      obtain ⟨va, vn, vc, hav⟩ := HSL.out _ (mhi_mem hlt)
      have HAV := Lib.hid hav
      rw [hav] at c2
      clear hav
      clear hc hc'
      go_wp2_with fail
      refine (HF.out (mhi xs k) _ (HQ.out _ (mhi_mem hlt)) hb.out va vn vc HAV.out).mono ?_
      rintro e w1 ⟨rfl, hb1⟩
      have HB1 := Lib.hid (ext_trans hb.out hb1)
      clear hb1 c0 c1 c2
      generalize hx : p (mhi xs k) = x
      have HX := Lib.hid hx; clear hx
      cases x
      · go_wp2_with fail
        go_roundw
        case rel =>
          refine ⟨k+1, by omega, by go_num, HB1, Lib.hid ?_⟩
          intro j hjk
          by_cases e : j = k
          · subst e; exact HX.out
          · exact hj.out j (by omega)
        case measure => simp [intOf]; omega
      · go_wp2_with fail
        go_ret
        exact ⟨ret_int (findG_hit p xs k hlt hj.out HX.out).symm, HB1.out⟩
    · go_wp2_with fail
      go_ret
      exact ⟨ret_int (findG_miss p xs (fun j h => hj.out j (by omega))).symm, hb.out⟩

/-! a hall -/
structure HallC (w : World) (b : Nat) (jv : Value) (fr : Int) (bv ov : Value) : Prop where
  c0 : w.cell? ⟨b, 0, none⟩ = some jv
  c1 : w.cell? ⟨b, 1, none⟩ = some (.int .i64 fr)
  c2 : w.cell? ⟨b, 2, none⟩ = some bv
  c3 : w.cell? ⟨b, 3, none⟩ = some ov
theorem HallC.keep {w w' : World} {b : Nat} {jv : Value} {fr : Int} {bv ov : Value} (h : HallC w b jv fr bv ov) (hb : Below w.heap.size w w') : HallC w' b jv fr bv ov := ⟨cell_keep hb h.c0, cell_keep hb h.c1, cell_keep hb h.c2, cell_keep hb h.c3⟩
def jobZ (l : List MH) (s : List UInt8) : Int := findG (fun m => m.h.block == s) l
theorem jobZ_in {l : List MH} {s : List UInt8} (h : s ∈ (hl l).map (·.block)) : jobZ l s = (jobI (hl l) s : Nat) ∧ jobI (hl l) s < l.length := by
  obtain ⟨h1, h2⟩ := jobI_lt h
  rw [hl_len] at h1
  refine ⟨?_, h1⟩
  refine findG_hit _ l _ h1 (fun j hj => ?_) ?_
  · have hjl : j < (hl l).length := by rw [hl_len]; omega
    have hne := List.not_of_lt_findIdx (xs := hl l) (p := fun x => x.block == s) hj
    have e : (mhi l j).h = (hl l)[j] := by rw [mhi_lt (by omega)]; simp [hl]
    show ((mhi l j).h.block == s) = false
    rw [e]; simpa using hne
  · show ((mhi l _).h.block == s) = true
    rw [← hsi_ml h1, h2]; simp
theorem jobZ_out {l : List MH} {s : List UInt8} (h : s ∉ (hl l).map (·.block)) : jobZ l s = -1 := by
  refine findG_miss _ l fun j hj => ?_
  show ((mhi l j).h.block == s) = false
  rw [beq_eq_false_iff_ne]
  intro e
  apply h
  rw [← e]
  exact List.mem_map.2 ⟨(mhi l j).h, by unfold hl; exact List.mem_map_of_mem (mhi_mem hj), rfl⟩
theorem jobC_any (m : MH) (s : List UInt8) (bx : Nat) (w : World) (h : w.cell? ⟨bx, 0, none⟩ = some (.string (bs s))) (a : Option Addr) (n c : Nat) (hv : m.cv = .slice a n c) :
    Calls Tryz.prog 81 #[.agg #[.string (bs m.h.block), .int .i64 m.h.hours, .slice a n c], .pointer (some ⟨bx, 0, none⟩)] w (Ret w (.bool (m.h.block == s))) := by
  have HE := Lib.hid (bs_eq m.h.block s)
  have hb : bx < w.heap.size := World.block_lt_of_cell? w _ h
  go_enter Tryz.func81, Tryz.ntmps81
  go_wp2_with fail
  go_ret
  exact ⟨ret_bool HE.out, (Below.refl _ _).alloc (Nat.le_refl _) _⟩
theorem enter_jobC : ∀ args w, (callFunc 81 args).run Tryz.prog w = .ok (.enter 81 args) w := enters_of Tryz.func81 (by kernel_rfl) rfl
set_option maxRecDepth 100000 in
theorem job_any (hb : Nat) (ja : Option Addr) (jc : Nat) (fr : Int) (bv ov : Value) (l : List MH) (s : List UInt8) (w : World) (hh : HallC w hb (.slice ja l.length jc) fr bv ov) (h : SHs w (.slice ja l.length jc) l) (hc : Crn w l) :
    Calls Tryz.prog 39 #[.pointer (some ⟨hb, 0, none⟩), .string (bs s)] w (Ret w (.int .i64 (jobZ l s))) := by
  have HI := Lib.hid (fun (w1 : World) (b : Nat) (hb : Below w.heap.size w w1) (h1 : w1.cell? ⟨b, 0, none⟩ = some (.string (bs s))) =>
    indexFunc_H (.func (.func 81) #[] #[.pointer (some ⟨b, 0, none⟩)]) (.slice ja l.length jc) (fun _ => True) (fun m => m.h.block == s) l w1 (h.keep hb) (fun _ _ => trivial) (fun x hx => by
      obtain ⟨k, hk, rfl⟩ := mem_mhi hx
      obtain ⟨a, c, e, _⟩ := hc.form hk
      exact ⟨a, _, c, e⟩) ⟨_, _, rfl, enter_jobC, fun y w2 _ hb2 a n c hv => jobC_any y s b w2 (cell_keep hb2 h1) a n c hv⟩)
  have HH := Lib.hid hh
  clear h hc hh
  have c0 := HH.out.c0
  have hbl : hb < w.heap.size := World.block_lt_of_cell? w _ c0
  go_enter Tryz.func39, Tryz.ntmps39
  go_wp2_with fail
  refine (HI.out _ w.heap.size ((Below.refl _ _).alloc (Nat.le_refl _) _) (by simp)).mono ?_
  rintro e w1 ⟨rfl, h1⟩
  have HB := Lib.hid (ext_trans ((Below.refl _ _).alloc (Nat.le_refl _) _) h1)
  clear h1 HI
  go_wp2_with fail
  go_ret
  exact ⟨rfl, HB.out⟩
end Go.Proofs.YtfpnjbomlmhlpaaGreat

/- Regions that draw their order, with calls whose values are not known ahead, assignments of these, and a new variable that holds one of these. -/
namespace Go.Proofs.YtfpnjbomlmhlpaaGreat
open Go.RowKit

/-- no strings, no two integers side by side -/
def Dull (cs : Array Value) : Prop := ∀ j : Nat, (∀ s, cs[j]? ≠ some (.string s)) ∧ ∀ x y, cs[j]? = some (.int .i64 x) → cs[j + 1]? ≠ some (.int .i64 y)
/-- kept by what is made, and by what goes into a block that is dull -/
structure KeptV (V : Value → World → Prop) : Prop where
  bl : ∀ v u u', V v u → Below u.heap.size u u' → V v u'
  fr : ∀ v u u' b c cs e, V v u → FrV u.heap.size (.slice (some ⟨b, 0, none⟩) c c) u u' → ObjAt u b cs e → Dull cs → V v u'
inductive SpK where
  | call (F : FuncId) (ns : List Nat) (vs : List Value) (V : Value → World → Prop)
  | asg (j : Nat)
  /-- a value reckoned from another one -/
  | fn (j : Nat) (ns : List Nat) (vs : List Value) (P : Value → Prop) (g : Value → Value)
  | new (ty : TypeId) (z : Value) (k : Nat)
  | put (A j : Nat) (ty : TypeId) (V : Value → World → Prop)
def SpK.isPut : SpK → Bool
  | .put .. => true
  | _ => false
/-- what is known of its value -/
def SpK.pr : SpK → Value → World → Prop
  | .call _ _ _ V, v, u => V v u
  | .fn _ _ _ P _, v, _ => P v
  | _, _, _ => True
def SpOK (n0 : Nat) (s : Nat → Option Value) (w : World) (i : Nat) : SpK → Prop
  | .call _ _ _ V => ∀ v, s i = some v → V v w
  | .asg j => ∀ v, s i = some v → s j = some v
  | .fn j _ _ P g => ∀ v, s i = some v → P v ∧ ∃ x, s j = some x ∧ v = g x
  | .new ty z k => ∀ v, s i = some v → ∃ b, v = .pointer (some ⟨b, 0, none⟩) ∧ n0 ≤ b ∧ (s k = none → ObjAt w b #[z] ty)
  | .put A j ty _ => ∀ v, s i = some v → ∃ x b, s j = some x ∧ s A = some (.pointer (some ⟨b, 0, none⟩)) ∧ n0 ≤ b ∧ ObjAt w b #[x] ty
def SpJ (n0 : Nat) (sps : List (Nat × SpK)) (s : Nat → Option Value) (w : World) : Prop := ∀ p ∈ sps, SpOK n0 s w p.1 p.2
def behind (ops : List Oper) (i j m : Nat) : Prop := ∃ o oj, ops[i]? = some o ∧ ops[j]? = some oj ∧ oj.dst = some m ∧ ∃ e ∈ o.after, e.on = j ∧ Region.binds .any e = true
def SpH (w : World) (ops : List Oper) (sps : List (Nat × SpK)) (i : Nat) : SpK → Prop
  | .call F ns vs V => (∃ o c, ops[i]? = some o ∧ o.op = .call c ∧ c.callee = .value (.func F) ∧ c.args.toList = ns.map Operand.tmp) ∧ (∀ args w, (callFunc F args).run Tryz.prog w = .ok (.enter F args) w) ∧ KeptV V ∧
      ∀ u, Below w.heap.size w u → Calls Tryz.prog F vs.toArray u fun e u' => ∃ v, e = .returned v ∧ V v u' ∧ Below u.heap.size u u'
  | .asg j => j ∈ sps.map (·.1) ∧ ∃ o m, ops[i]? = some o ∧ o.op = .assign (.tmp m) ∧ behind ops i j m
  | .fn j ns vs P g => ∃ kj, (j, kj) ∈ sps ∧ ∃ o m, ops[i]? = some o ∧ behind ops i j m ∧ (∀ n ∈ ns, n ∈ o.looksAt ops.toArray) ∧ ∀ (a : Act) x u, a.eval (.tmp m) = x → (ns.map Operand.tmp).map a.eval = vs → kj.pr x u → P (g x) ∧ (execOp a.eval o).run Tryz.prog u = .ok (.value (g x)) u
  | .new ty z k => (∃ V j, (k, .put i j ty V) ∈ sps) ∧ (∃ o, ops[i]? = some o ∧ o.op = .alloc ty) ∧ (∀ w, (Instr.alloc ty true (.tuple #[])).run Tryz.prog w = .ok (.pointer (some ⟨w.heap.size, 0, none⟩)) (w.alloc (.cells #[z] ty))) ∧ Dull #[z]
  | .put A j ty V => (∃ z, (A, .new ty z i) ∈ sps) ∧ (∃ F ns vs, (j, .call F ns vs V) ∈ sps) ∧ (∃ o mA mj, ops[i]? = some o ∧ o.op = .store ty (.tmp mA) (.tmp mj) ∧ o.dst = none ∧ behind ops i A mA ∧ behind ops i j mj) ∧ (Tryz.prog.info? ty).map (·.size) = some 1 ∧ ∀ v u, V v u → v.oneCell' = true ∧ v.cells = #[v]
section
variable {a0 : Act} {ps : List (Nat × Nat)} {T : QTab} {E : List Ob} {hs : List (Nat × Hint)}
def spArgs (E : List Ob) (S : List Ent) : List (Nat × SpK) → Prop
  | [] => True
  | (_, .call _ ns vs _) :: l => argsAt E S ns vs ∧ spArgs E S l
  | (_, .fn _ ns vs _ _) :: l => argsAt E S ns vs ∧ spArgs E S l
  | _ :: l => spArgs E S l
theorem spArgs_at {E : List Ob} {S : List Ent} {i : Nat} {F : FuncId} {ns : List Nat} {vs : List Value} {V : Value → World → Prop} {l : List (Nat × SpK)} (h : spArgs E S l) (hm : (i, .call F ns vs V) ∈ l) : argsAt E S ns vs := by
  induction l with
  | nil => cases hm
  | cons q l ih =>
    obtain ⟨j, k⟩ := q
    rcases List.mem_cons.1 hm with e | hm2
    · cases e; exact h.1
    · cases k <;> first | exact ih h.2 hm2 | exact ih h hm2
theorem spArgs_fn {E : List Ob} {S : List Ent} {i j : Nat} {ns : List Nat} {vs : List Value} {P : Value → Prop} {g : Value → Value} {l : List (Nat × SpK)} (h : spArgs E S l) (hm : (i, .fn j ns vs P g) ∈ l) : argsAt E S ns vs := by
  induction l with
  | nil => cases hm
  | cons q l ih =>
    obtain ⟨j, k⟩ := q
    rcases List.mem_cons.1 hm with e | hm2
    · cases e; exact h.1
    · cases k <;> first | exact ih h.2 hm2 | exact ih h hm2
def evSp (a0 : Act) (E : List Ob) (W : World) (ops : List Oper) (sps : List (Nat × SpK)) (outs : List (Nat × Value)) (Q : Act → World → Prop) (S : List Ent) : Prop :=
  spArgs E S sps ∧ ∀ (f : Nat → Value) (s : Nat → Option Value), (∀ i, (sps.map (·.1)).contains i = true → ∀ o, ops[i]? = some o → ∃ v, s i = some v ∧ ∀ n, o.dst = some n → v = f n) → match a0 with
    | ⟨⟨l⟩, d⟩ => finS E outs f S l fun l' => setsN f (spD (sps.map (·.1)) 0 ops) l' fun l'' => ∀ w', Below W.heap.size W w' → SpJ W.heap.size sps s w' → Q ⟨l''.toArray, d⟩ w'
theorem spec_all {J : (Nat → Option Value) → World → Prop} {C : World → Prop} {sp : List Nat} {ops : List Oper} {Q : Exit → Act → World → Prop} {S : List Ent} : ∀ {l : List Nat}, (∀ i ∈ l, SpecAt a0 E C J sp ops Q S i) → SpecL a0 E C J sp ops Q S l
  | [], _ => trivial
  | i :: l, h => ⟨h i (List.mem_cons_self ..), spec_all fun j hj => h j (List.mem_cons_of_mem _ hj)⟩
theorem setCell_frv {n : Nat} {u : World} {b c k : Nat} {x : Value} : FrV n (.slice (some ⟨b, 0, none⟩) c c) u (u.setCell ⟨b, k, none⟩ x) :=
  ⟨rfl, rfl, rfl, by simp [World.setCell], fun j _ h1 => Below.heap_setCell _ _ _ _ (fun e => h1 (by rw [e]; rfl))⟩
theorem below_setCell {n : Nat} {w w' : World} (h : Below n w w') {b : Nat} (hg : n ≤ b) (k : Nat) (x : Value) : Below n w (w'.setCell ⟨b, k, none⟩ x) :=
  ⟨h.os, h.tape, h.output, Nat.le_trans h.size (by simp [World.setCell]), fun j hj => (Below.heap_setCell _ _ _ _ (by dsimp only; omega)).trans (h.block j hj)⟩
theorem wp_region_sp {id : Nat} {Q : Exit → Act → World → Prop} {w : World} {ops : List Oper} (T : QTab) (hT : T.Ok) (E : List Ob) (ps : List (Nat × Nat)) (hs : List (Nat × Hint)) (outs : List (Nat × Value))
    (sps : List (Nat × SpK))
    (hz : (ops.all fun o => match o.dst with | some n => decide (n < a0.tmps.size) | none => true) = true) (hm : Tryz.prog.follows .mixedOrders = true)
    (hst : (ordB ops.toArray && nodB (dstsL ops) && chkB ops.toArray (quietL (sps.map (·.1)) 0 ops) && depB (sps.map (·.1)) ops.toArray) = true)
    (hkey : ∀ p ∈ sps, ∀ q ∈ sps, p.1 = q.1 → p = q) (hput : ∀ p ∈ sps, ∀ q ∈ sps, p.2.isPut = true → q.2.isPut = true → p = q)
    (hsp : ∀ p ∈ sps, SpH w ops sps p.1 p.2)
    (hE : ObsIn (Below w.heap.size w) E) (P : psOk a0 E ps)
    (h : evL a0 ps T E (Below w.heap.size w) (fun u u' => Below u.heap.size u u') hs ops (evSp a0 E w ops sps outs (Q .normal)) (quietL (sps.map (·.1)) 0 ops) []) : (Code.region id ops.toArray true).wp Tryz.prog Q a0 w := by
  have hst' := hst
  simp only [Bool.and_eq_true] at hst'
  obtain ⟨⟨⟨s1, s2⟩, s3⟩, s4⟩ := hst'
  have hsub : ∀ o ∈ quietL (sps.map (·.1)) 0 ops, o ∈ ops := fun o ho => by obtain ⟨k, hk, _⟩ := mem_quietL ho; exact List.mem_of_getElem? hk
  obtain ⟨S, H, af, I, ⟨h1, h2⟩, f1, f2, f3⟩ := evL_fin P hT hE hz _ [] [] a0 hsub s3 InvQ.start h
  -- what is made keeps all
  have keepB : ∀ s u u', SpJ w.heap.size sps s u → Below u.heap.size u u' → SpJ w.heap.size sps s u' := by
    intro s u u' hJ hb p hp
    have h0 := hJ p hp
    have hH := hsp p hp
    obtain ⟨i, k⟩ := p
    cases k with
    | call F ns vs V => exact fun v hv => hH.2.2.1.bl v u u' (h0 v hv) hb
    | asg j => exact h0
    | fn j ns vs P g => exact h0
    | new ty z k => exact fun v hv => by obtain ⟨b, e1, e2, e3⟩ := h0 v hv; exact ⟨b, e1, e2, fun hk => (e3 hk).keep hb⟩
    | put A j ty V => exact fun v hv => by obtain ⟨x, b, e1, e2, e3, e4⟩ := h0 v hv; exact ⟨x, b, e1, e2, e3, e4.keep hb⟩
  -- one more slot
  have more : ∀ s u i v, SpJ w.heap.size sps s u → s i = none → (∀ k, (i, k) ∈ sps → SpOK w.heap.size (updS s i v) u i k) → SpJ w.heap.size sps (updS s i v) u := by
    intro s u i v hJ hn hnew p hp
    have h0 := hJ p hp
    obtain ⟨q, k⟩ := p
    by_cases e : q = i
    · subst e; exact hnew k hp
    · cases k with
      | call F ns vs V => exact fun v' hv' => by rw [updS_other e] at hv'; exact h0 v' hv'
      | asg j =>
        exact fun v' hv' => by
          rw [updS_other e] at hv'
          have := h0 v' hv'
          rw [updS_other (fun e2 => by subst e2; rw [hn] at this; cases this)]; exact this
      | fn j ns vs P g =>
        exact fun v' hv' => by
          rw [updS_other e] at hv'
          obtain ⟨e1, x, e2, e3⟩ := h0 v' hv'
          exact ⟨e1, x, by rw [updS_other (fun e4 => by subst e4; rw [hn] at e2; cases e2)]; exact e2, e3⟩
      | new ty z k =>
        exact fun v' hv' => by
          rw [updS_other e] at hv'
          obtain ⟨b, e1, e2, e3⟩ := h0 v' hv'
          refine ⟨b, e1, e2, fun hk => e3 ?_⟩
          by_cases ek : k = i
          · subst ek; exact hn
          · rw [updS_other ek] at hk; exact hk
      | put A j ty V =>
        exact fun v' hv' => by
          rw [updS_other e] at hv'
          obtain ⟨x, b, e1, e2, e3, e4⟩ := h0 v' hv'
          exact ⟨x, b, by rw [updS_other (fun e5 => by subst e5; rw [hn] at e1; cases e1)]; exact e1, by rw [updS_other (fun e5 => by subst e5; rw [hn] at e2; cases e2)]; exact e2, e3, e4⟩
  refine mix_core (sps.map (·.1)) E (Below w.heap.size w) (fun u u' => Below u.heap.size u u') outs (SpJ w.heap.size sps) hz hm hst ((Below.refl _ _).drew) (fun p hp => ?_) (fun u u' h1 h2 => h1.trans (h2.mono h1.size)) (fun u _ => Below.refl _ _) (fun s u u' _ h2 h3 => keepB s u u' h2 h3) I ⟨spec_all fun i hi => ?_, h2⟩ f1 f2 f3
  · obtain ⟨i, k⟩ := p
    cases k <;> exact fun v hv => (by cases hv)
  · obtain ⟨⟨i', k⟩, hp, rfl⟩ := List.mem_map.1 hi
    have hH := hsp _ hp
    have uniq : ∀ k', (i', k') ∈ sps → k' = k := fun k' hk' => by have := hkey _ hk' _ hp rfl; cases this; rfl
    intro o a u s ho hC hJ hn hq _ hdep K hK
    -- what an operation waits for
    have waits : ∀ j m, behind ops i' j m → j ∈ sps.map (·.1) → ∃ v, s j = some v ∧ a.eval (.tmp m) = v := by
      rintro j m ⟨o', oj, b1, b2, b3, e, b4, b5, b6⟩ hj
      rw [ho] at b1; cases b1
      obtain ⟨v, v1, v2⟩ := hdep e b4 b6 (by rw [b5]; simpa using hj)
      rw [b5] at v1 v2
      exact ⟨v, v1, v2 oj m b2 b3⟩
    cases k with
    | call F ns vs V =>
      obtain ⟨⟨o', c, g1, g2, g3, g4⟩, hen, hV, hcall⟩ := hH
      rw [ho] at g1; cases g1
      have hx : c.args.toList.map a.eval = vs := by
        rw [g4]
        refine argsAt_map (spArgs_at h1 hp) fun n hn' => hq n ?_
        unfold Oper.looksAt
        refine List.mem_append_left _ (List.mem_filterMap.2 ⟨.tmp n, ?_, rfl⟩)
        rw [g2]
        unfold Op.operands
        have : Operand.tmp n ∈ c.args.toList := by rw [g4]; exact List.mem_map.2 ⟨n, hn', rfl⟩
        simp only [Call.operands, g3]; simp at this; simp [this]
      refine wp_of_enter (enters_call g2 g3 hx hen u) ((hcall u hC).mono fun e u' ⟨v, he, hv, hb⟩ => ⟨v, he, ?_⟩)
      refine hK _ _ (hC.trans (hb.mono hC.size)) (more s u' i' v (keepB s u u' hJ hb) hn fun k' hk' => ?_)
      rw [uniq k' hk']
      exact fun v' hv' => by rw [updS_same] at hv'; cases hv'; exact hv
    | asg j =>
      obtain ⟨hj, o', m, g1, g2, g3⟩ := hH
      rw [ho] at g1; cases g1
      obtain ⟨v, v1, v2⟩ := waits j m g3 hj
      refine wp_of_run (v := v) (w' := u) (by unfold execOp; simp only [g2, v2]; rfl) (hK _ _ hC (more s u i' v hJ hn fun k' hk' => ?_))
      rw [uniq k' hk']
      exact fun v' hv' => by
        rw [updS_same] at hv'; cases hv'
        rw [updS_other (fun e => by subst e; rw [hn] at v1; cases v1)]; exact v1
    | fn j ns vs P g =>
      obtain ⟨kj, hj, o', m, g1, g3, gl, hg⟩ := hH
      rw [ho] at g1; cases g1
      obtain ⟨v, v1, v2⟩ := waits j m g3 (List.mem_map.2 ⟨_, hj, rfl⟩)
      have hpr : kj.pr v u := by
        have h0 := hJ _ hj
        cases kj with
        | call F ns vs V => exact h0 v v1
        | fn j' ns' vs' P' g' => exact (h0 v v1).1
        | asg j' => trivial
        | new ty z k => trivial
        | put A j' ty V => trivial
      obtain ⟨hP, hrun⟩ := hg a v u v2 (argsAt_map (spArgs_fn h1 hp) fun n hn' => hq n (gl n hn')) hpr
      refine wp_of_run (v := g v) (w' := u) hrun (hK _ _ hC (more s u i' _ hJ hn fun k' hk' => ?_))
      rw [uniq k' hk']
      exact fun v' hv' => by
        rw [updS_same] at hv'; cases hv'
        exact ⟨hP, v, by rw [updS_other (fun e => by subst e; rw [hn] at v1; cases v1)]; exact v1, rfl⟩
    | new ty z k =>
      obtain ⟨⟨V, j, hk⟩, ⟨o', g1, g2⟩, halloc, _⟩ := hH
      rw [ho] at g1; cases g1
      have hb : Below u.heap.size u (u.alloc (.cells #[z] ty)) := (Below.refl _ _).alloc (Nat.le_refl _) _
      refine wp_of_run (v := .pointer (some ⟨u.heap.size, 0, none⟩)) (w' := u.alloc (.cells #[z] ty)) (by unfold execOp; simp only [g2, Sem.run_bind, halloc]; rfl) (hK _ _ (hC.alloc hC.size _) (more s _ i' _ (keepB s u _ hJ hb) hn fun k' hk' => ?_))
      rw [uniq k' hk']
      exact fun v' hv' => by
        rw [updS_same] at hv'; cases hv'
        exact ⟨_, rfl, hC.size, fun _ => ObjAt.new u #[z] ty⟩
    | put A j ty V =>
      obtain ⟨⟨z, hA⟩, ⟨F, ns, vs, hj⟩, ⟨o', mA, mj, g1, g2, g3, g4, g5⟩, hi1, hone⟩ := hH
      rw [ho] at g1; cases g1
      have hAm : A ∈ sps.map (·.1) := List.mem_map.2 ⟨_, hA, rfl⟩
      have hjm : j ∈ sps.map (·.1) := List.mem_map.2 ⟨_, hj, rfl⟩
      obtain ⟨vA, a1, a2⟩ := waits A mA g4 hAm
      obtain ⟨vj, j1, j2⟩ := waits j mj g5 hjm
      have JA := hJ _ hA vA a1
      obtain ⟨b, e1, e2, e3⟩ := JA
      have e4 := e3 hn
      have Jj := hJ _ hj vj j1
      obtain ⟨k1, k2⟩ := hone vj u Jj
      have hd : Dull #[z] := (hsp _ hA).2.2.2
      subst e1
      have hrun := run_storeAt_one (x := vj) (by rw [e4.cell]; rfl) (e4.frozen 0) hi1 k1 k2
      have hob : ObjAt (u.setCell ⟨b, 0, none⟩ vj) b #[vj] ty := e4.set 0 vj
      refine wp_of_skip (w' := u.setCell ⟨b, 0, none⟩ vj) (by unfold execOp; simp only [g2, Sem.run_bind, a2, j2, hrun]; rfl) (hK _ _ (below_setCell hC e2 _ _) fun p hp' => ?_)
      have h0 := hJ p hp'
      have hH' := hsp p hp'
      obtain ⟨i2, k⟩ := p
      cases k with
      | call F ns vs V' =>
        intro v hv
        rw [updS_other (fun e => by dsimp only at e; subst e; exact absurd (uniq _ hp') (by simp))] at hv
        exact hH'.2.2.1.fr v u _ b 0 #[z] ty (h0 v hv) setCell_frv e4 hd
      | asg j' =>
        intro v hv
        rw [updS_other (fun e => by dsimp only at e; subst e; exact absurd (uniq _ hp') (by simp))] at hv
        have := h0 v hv
        rw [updS_other (fun e => by subst e; rw [hn] at this; cases this)]; exact this
      | fn j' ns vs P g =>
        intro v hv
        rw [updS_other (fun e => by dsimp only at e; subst e; exact absurd (uniq _ hp') (by simp))] at hv
        obtain ⟨e1, x, e2', e3'⟩ := h0 v hv
        exact ⟨e1, x, by rw [updS_other (fun e => by subst e; rw [hn] at e2'; cases e2')]; exact e2', e3'⟩
      | new ty' z' k' =>
        intro v hv
        rw [updS_other (fun e => by dsimp only at e; subst e; exact absurd (uniq _ hp') (by simp))] at hv
        obtain ⟨b', c1, c2, c3⟩ := h0 v hv
        refine ⟨b', c1, c2, fun hk => ?_⟩
        obtain ⟨⟨V2, j2', hk2⟩, _⟩ := hH'
        have := hput _ hk2 _ hp rfl rfl
        cases this
        rw [updS_same] at hk; cases hk
      | put A' j' ty' V' =>
        have := hput _ hp' _ hp rfl rfl
        cases this
        intro v' hv'
        refine ⟨vj, b, ?_, ?_, e2, hob⟩
        · rw [updS_other (fun e => by subst e; rw [hn] at j1; cases j1)]; exact j1
        · rw [updS_other (fun e => by subst e; rw [hn] at a1; cases a1)]; exact a1
end
end Go.Proofs.YtfpnjbomlmhlpaaGreat

/- What newHall stands on: jobs that are right, rows of flags in memory, a frame that leaves out one block. -/
namespace Go.Proofs.YtfpnjbomlmhlpaaGreat
open Go.RowKit

theorem less_trans : ∀ {a b c : List UInt8}, Op.bytesLess a b = true → Op.bytesLess b c = true → Op.bytesLess a c = true
  | [], [], _, h, _ => by cases h
  | [], _ :: _, [], _, h => by cases h
  | [], _ :: _, _ :: _, _, _ => rfl
  | _ :: _, [], _, h, _ => by cases h
  | _ :: _, _ :: _, [], _, h => by cases h
  | x :: a, y :: b, z :: c, h, g => by
    have e1 : Op.bytesLess (x :: a) (y :: b) = (decide (x < y) || (x == y && Op.bytesLess a b)) := rfl
    have e2 : Op.bytesLess (y :: b) (z :: c) = (decide (y < z) || (y == z && Op.bytesLess b c)) := rfl
    have e3 : Op.bytesLess (x :: a) (z :: c) = (decide (x < z) || (x == z && Op.bytesLess a c)) := rfl
    rw [e1, Bool.or_eq_true, Bool.and_eq_true, decide_eq_true_eq, beq_iff_eq] at h
    rw [e2, Bool.or_eq_true, Bool.and_eq_true, decide_eq_true_eq, beq_iff_eq] at g
    rw [e3, Bool.or_eq_true, Bool.and_eq_true, decide_eq_true_eq, beq_iff_eq]
    rcases h with h | ⟨rfl, h⟩
    · rcases g with g | ⟨rfl, _⟩
      · exact .inl (UInt8.lt_iff_toNat_lt.2 (Nat.lt_trans (UInt8.lt_iff_toNat_lt.1 h) (UInt8.lt_iff_toNat_lt.1 g)))
      · exact .inl h
    · rcases g with g | ⟨rfl, g⟩
      · exact .inl g
      · exact .inr ⟨rfl, less_trans h g⟩
theorem JobsR.less {J : List Hst} {bl : List (List UInt8)} (h : JobsR J bl) {i : Nat} : ∀ {k : Nat}, i < k → k < J.length → Op.bytesLess (hsi J i).block (hsi J k).block = true
  | 0, h1, _ => by omega
  | k + 1, h1, h2 => by
    by_cases e : i = k
    · subst e; exact h.asc i h2
    · exact less_trans (h.less (k := k) (by omega) (by omega)) (h.asc k h2)
theorem JobsR.ok {J : List Hst} {bl : List (List UInt8)} (h : JobsR J bl) : JobsOK J := by
  refine ⟨?_, h.hr, fun j hj e => ?_⟩
  · rw [List.nodup_iff_pairwise_ne, List.pairwise_map, List.pairwise_iff_getElem]
    intro i k hi hk hik e
    have := h.less hik hk
    rw [hsi_lt hi, hsi_lt hk, e] at this
    have := (less_asym this).2
    simp at this
  · have := (h.cn j hj).1; rw [e] at this; simp at this

/-! rows of flags -/
def RowsC (w : World) (bv : Value) (n : Nat) (B : Bef) : Prop :=
  ∃ (a : Option Addr) (cap : Nat), bv = .slice a n cap ∧ ∀ i, i < n → ∃ b off g, a = some ⟨b, off, none⟩ ∧ w.cell? ⟨b, off + i, none⟩ = some (.slice (some ⟨g, 0, none⟩) n n) ∧ ∀ k, k < n → w.cell? ⟨g, k, none⟩ = some (.bool (B i k))
theorem RowsC.keep {w w' : World} {bv : Value} {n : Nat} {B : Bef} (h : RowsC w bv n B) (hb : Below w.heap.size w w') : RowsC w' bv n B := by
  obtain ⟨a, cap, rfl, h⟩ := h
  refine ⟨a, cap, rfl, fun i hi => ?_⟩
  obtain ⟨b, off, g, e, c, d⟩ := h i hi
  exact ⟨b, off, g, e, cell_keep hb c, fun k hk => cell_keep hb (d k hk)⟩
def rwV (n g : Nat) : Value := .slice (some ⟨g, 0, none⟩) n n
def OwnR (w : World) (B : Nat) (v : Value) (n : Nat) (gs : List Nat) : Prop := w.ownsRow B 84 1 v gs.length (gs.map (rwV n))
theorem OwnR_nil (w : World) (B n : Nat) : OwnR w B (.slice none 0 0) n [] := World.ownsRow_nil _ _ _ _
theorem Tryz_infobools : (Tryz.prog.info? 84).map (fun i => (i.zero, i.size, i.bytes)) = some (some (.slice none 0 0), 1, 24) := by kernel_rfl
theorem map_flat1 {α : Type} (f : α → Value) : ∀ l : List α, l.map f = l.flatMap fun g => [f g]
  | [] => rfl
  | x :: l => by rw [List.map_cons, List.flatMap_cons, map_flat1 f l]; rfl
theorem OwnR.form {w : World} {B n : Nat} {v : Value} {gs : List Nat} (h : OwnR w B v n gs) : (v = .slice none 0 0 ∧ gs = []) ∨ ∃ g cap, v = .slice (some ⟨g, 0, none⟩) gs.length cap ∧ B ≤ g ∧ g < w.heap.size ∧ ∀ j (hj : j < gs.length), w.cell? ⟨g, j, none⟩ = some (rwV n gs[j]) := by
  have e : gs.map (rwV n) = gs.flatMap fun g => [rwV n g] := map_flat1 _ _
  unfold OwnR at h
  rw [e] at h
  rcases own_flat_form h with ⟨h1, h2⟩ | ⟨g, cap, h1, h2, h3, _, _, h4⟩
  · exact .inl ⟨h1, h2⟩
  · refine .inr ⟨g, cap, h1, h2, h3, fun j hj => ?_⟩
    rw [h4 j (by omega), ← e, List.getElem?_map, List.getElem?_eq_getElem hj]; rfl
/-- one row more -/
theorem wp_app_row {o : Oper} {a : Act} {K : Act → World → Prop} {Q : Exit → Act → World → Prop} {w : World} (s x : Operand)
    (ho : o.op = .call { callee := .builtin .append, args := #[s, x], argTypes := #[64, 64] }) (B n : Nat) (v : Value) (gs : List Nat) (hs : a.eval s = v) (hown : OwnR w B v n gs)
    (g c h' : Nat) (hx : a.eval x = .slice (some ⟨g, 0, none⟩) 1 c) (hy : w.cell? ⟨g, 0, none⟩ = some (rwV n h')) (hlen : gs.length ≤ 2000000) (hb : B ≤ w.heap.size)
    (h : ∀ v' w', OwnR w' B v' n (gs ++ [h']) → w.grownBy w' v.ownBlock → (v'.ownBlock = v.ownBlock ∨ v'.ownBlock = some w.heap.size) → K (a.put o.dst v') w') : o.wp Tryz.prog a w K Q := by
  obtain ⟨i, hi, hz0, hz1, hz2⟩ := info_parts Tryz_infobools
  refine wp_app_gen s x 64 84 ho i (.slice none 0 0) 1 24 Tryz.underlying64 hi hz0 hz1 hz2 rfl (by decide) B v gs.length (gs.map (rwV n)) hs hown ⟨g, 0, none⟩ 1 c hx [rwV n h'] rfl (fun j u hj => ?_) (fun u hu => ?_) (by unfold maxLen; omega) (by omega) hb fun v' w' h1 h2 h3 => h v' w' ?_ h2 h3
  · match j, hj with
    | 0, hj => simp at hj; subst hj; simpa [Addr.add] using hy
  · simp at hu; subst hu; rfl
  · unfold OwnR
    rw [List.length_append, List.map_append]
    exact h1
theorem wpList_app_row {ops : Array Oper} {rest : List Oper} {o : Oper} {a : Act} {Q : Exit → Act → World → Prop} {w : World} (hw : Region.wanted o (yielded ops a.tmps) = true) (s x : Operand)
    (ho : o.op = .call { callee := .builtin .append, args := #[s, x], argTypes := #[64, 64] }) (B n : Nat) (v : Value) (gs : List Nat) (hs : a.eval s = v) (hown : OwnR w B v n gs)
    (g c h' : Nat) (hx : a.eval x = .slice (some ⟨g, 0, none⟩) 1 c) (hy : w.cell? ⟨g, 0, none⟩ = some (rwV n h')) (hlen : gs.length ≤ 2000000) (hb : B ≤ w.heap.size)
    (h : ∀ v' w', OwnR w' B v' n (gs ++ [h']) → w.grownBy w' v.ownBlock → (v'.ownBlock = v.ownBlock ∨ v'.ownBlock = some w.heap.size) → wpList Tryz.prog ops Q rest (a.put o.dst v') w') : wpList Tryz.prog ops Q (o :: rest) a w :=
  wpList_step fun K hK => by
    rw [if_pos hw]
    exact wp_app_row s x ho B n v gs hs hown g c h' hx hy hlen hb fun v' w' a1 a2 a3 => hK _ _ (h v' w' a1 a2 a3)

/-! a frame that leaves out one block -/
theorem frv_cell {n : Nat} {vl : Value} {w w' : World} (h : FrV n vl w w') {p : Addr} {v : Value} (hc : w.cell? p = some v) (hn : p.block < n) (hv : vl.ownBlock ≠ some p.block) : w'.cell? p = some v := by
  rw [← hc]; unfold World.cell?; rw [h.block p.block hn hv]
theorem SZ.frv {n : Nat} {hb : Nat} {c : Nat} {w w' : World} {v : Value} {ss : List ByteArray} {cs : Array Value} {e : TypeId} (h : SZ w v ss) (hf : FrV n (.slice (some ⟨hb, 0, none⟩) c c) w w') (hn : w.heap.size ≤ n) (ho : ObjAt w hb cs e) (hd : Dull cs) : SZ w' v ss := by
  obtain ⟨a, cap, rfl, h1, h2, h3⟩ := h
  refine ⟨a, cap, rfl, h1, h2, fun i hi => ?_⟩
  obtain ⟨b, off, ha, hc⟩ := h3 i hi
  refine ⟨b, off, ha, frv_cell hf hc (Nat.lt_of_lt_of_le (World.block_lt_of_cell? w _ hc) hn) fun e2 => ?_⟩
  have e3 : hb = b := Option.some.inj e2
  subst e3
  rw [ho.cell] at hc
  exact (hd _).1 _ hc
theorem SEg.frv {n : Nat} {hb : Nat} {c : Nat} {w w' : World} {v : Value} {l : List (Nat × Nat)} {cs : Array Value} {e : TypeId} (h : SEg w v l) (hf : FrV n (.slice (some ⟨hb, 0, none⟩) c c) w w') (hn : w.heap.size ≤ n) (ho : ObjAt w hb cs e) (hd : Dull cs) : SEg w' v l := by
  obtain ⟨a, cap, rfl, h1, h2, h3⟩ := h
  refine ⟨a, cap, rfl, h1, h2, fun i hi => ?_⟩
  obtain ⟨b, off, ha, hc⟩ := h3 i hi
  have hne : (Value.slice (some ⟨hb, 0, none⟩) c c).ownBlock ≠ some b := fun e2 => by
    have e3 : hb = b := Option.some.inj e2
    subst e3
    have c0 := hc.c0; have c1 := hc.c1
    rw [ho.cell] at c0 c1
    exact (hd _).2 _ _ c0 c1
  exact ⟨b, off, ha, frv_cell hf hc.c0 (Nat.lt_of_lt_of_le (World.block_lt_of_cell? w _ hc.c0) hn) hne, frv_cell hf hc.c1 (Nat.lt_of_lt_of_le (World.block_lt_of_cell? w _ hc.c1) hn) hne⟩
theorem dull_hall (a b c : Option Addr) (i j k l m n : Nat) (x : Int) : Dull #[.slice a i j, .int .i64 x, .slice b k l, .slice c m n] := fun t => by
  match t with
  | 0 | 2 | 3 => exact ⟨fun s h => (by simp at h), fun x y h => (by simp at h)⟩
  | 1 => exact ⟨fun s h => (by simp at h), fun x y h => (by simp)⟩
  | t + 4 => exact ⟨fun s h => by simp at h, fun x y h => by simp at h⟩
theorem dull_row (n : Nat) (f : Nat → Bool) : Dull (rowA n fun k => .bool (f k)) := fun t => by
  by_cases h : t < n
  · rw [rowA_get h]; exact ⟨fun s h => by simp at h, fun x y h => by simp at h⟩
  · rw [Array.getElem?_eq_none (by rw [rowA_size]; omega)]; exact ⟨fun s h => by simp at h, fun x y h => by simp at h⟩
/-- the block of a job -/
theorem at_any (m : MH) (bsv : Value) (bl : List (List UInt8)) (b10 : Nat) (w : World) (h : w.cell? ⟨b10, 0, none⟩ = some bsv) (hs : SZ w bsv (bl.map bs)) (a : Option Addr) (n c : Nat) (hv : m.cv = .slice a n c) :
    Calls Tryz.prog 65 #[.agg #[.string (bs m.h.block), .int .i64 m.h.hours, .slice a n c], .pointer (some ⟨b10, 0, none⟩)] w (Ret w (.int .i64 (idxS bl m.h.block))) := by
  have HS := Lib.hid (fun w' (hb : Below w.heap.size w w') => ixS_any bsv bl m.h.block w' (hs.keep hb))
  have hbl : b10 < w.heap.size := World.block_lt_of_cell? w _ h
  clear hs hv
  go_enter Tryz.func65, Tryz.ntmps65
  go_wp2_with fail
  refine (HS.out _ ((Below.refl _ _).alloc (Nat.le_refl _) _)).mono ?_
  rintro e w1 ⟨rfl, h1⟩
  have HB := Lib.hid (ext_trans ((Below.refl _ _).alloc (Nat.le_refl _) _) h1)
  clear h1 HS
  go_wp2_with fail
  go_ret
  exact ⟨rfl, HB.out⟩
end Go.Proofs.YtfpnjbomlmhlpaaGreat
